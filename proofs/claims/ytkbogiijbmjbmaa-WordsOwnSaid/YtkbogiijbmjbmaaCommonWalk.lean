/- The walk of suffix.Common. -/
import Derived.Test.YtkbogiijbmjbmaaSuffixWalk
import Derived.Test.YtkbogiijbmjbmaaSuffixQ
import Derived.Test.YtkbogiijbmjbmaaStruct
import Derived.BigQuiet
import Derived.IntWalk
namespace Go.Proofs.Ytkbogiijbmjbmaa
open Go.RowKit
set_option linter.unusedVariables false

theorem IntsAt.alloc {w : World} {g : Nat} {l : List Int} (h : IntsAt w g l) (o : Obj) : IntsAt (w.alloc o) g l := h.below ((Below.refl _ _).alloc (Nat.le_refl _) o) h.1
theorem IntsAt.drewQ {w : World} {g : Nat} {l : List Int} (h : IntsAt w g l) (k : Nat) : IntsAt (w.drewN k) g l := h
theorem IntsAt.row {w : World} {g n : Nat} {l : List Int} (h : IntsAt w g l) (hn : l.length = n) : Reads w w.heap.size (some ⟨g, 0, none⟩) n 1 (l.flatMap cInt) := by
  subst hn
  refine ⟨flat_length cInt 1 cInt_len l, fun hn => ⟨g, 0, rfl, h.1, fun j hj => ?_⟩⟩
  rw [flat_length cInt 1 cInt_len, Nat.mul_one] at hj
  rw [Nat.zero_add, (h.2 j hj).1]
  have := flat_getD cInt 1 cInt_len 0 l j 0 hj (by omega)
  rw [Nat.mul_one, Nat.add_zero] at this
  rw [this]; rfl
/-- What Common tells of a word. -/
def ToldCommon (s : ByteArray) (w : World) (e : Ending) (w' : World) : Prop :=
  ∃ g, e = .returned (.tuple #[.slice (some ⟨g, 0, none⟩) s.size s.size, .int .i64 0]) ∧ w.heap.size ≤ g ∧ IntsAt w' g (lcpsI s.data.toList) ∧ RowKit.Below w.heap.size w w'

set_option maxRecDepth 100000 in
set_option maxHeartbeats 8000000 in
theorem common_ok (s : ByteArray) (hs : s.size ≤ 200) (w : World) : Calls Try.prog 22 #[.string s] w (ToldCommon s w) := by
  have H1 := Lib.hid (order_ok s hs)
  have hmk := fun w => make_ints (P := Try.prog) 25 3 Try.underlying25 (by kernel_rfl) s.size s.size rfl (by omega) w
  obtain ⟨N, hN⟩ : ∃ N, N = s.data.toList.length := ⟨_, rfl⟩
  have hNs : N = s.size := hN
  have hO := sOrd_is s.data.toList
  have HO := Lib.hid hO
  have HN := Lib.hid hN
  clear hO hN
  go_enter Try.func22, Try.ntmps22
  go_wp2_with fail
  refine (H1.out _).mono ?_
  rintro e w1 ⟨g0, rfl, hg0, hi0, hb1⟩
  clear H1
  obtain ⟨hbm, hzm, him⟩ := ints_made w1 s.size 3
  have hi1 := hi0.alloc (Obj.cells (madeCells #[.int .i64 0] s.size) 3)
  have hb2 := chain hbm hb1
  have hg1 := hi0.1
  have hW1 := hb1.size
  clear hi0 hbm hb1
  go_wp2
  generalize hgg : w1.heap.size = g1 at *
  generalize w1.alloc (Obj.cells (madeCells #[.int .i64 0] s.size) 3) = w2 at *
  clear hgg
  go_loopw [7, 8, 26] (fun _ _ iv wr => ∃ (k : Nat) (rk : List Int), k ≤ s.size ∧ iv = .int .i64 k ∧ Hid (rk.length = s.size) ∧ Hid (∀ j, j < k → rk.getD ((sOrd s.data.toList).getD j 0) 0 = (j : Nat)) ∧ IntsAt wr g1 rk ∧ IntsAt wr g0 (natsI (sOrd s.data.toList)) ∧ Below w.heap.size w wr ∧ wr.heap.size = g1 + 1) (fun _ _ iv _ => s.size - (intOf iv).toNat)
  case atStart => exact ⟨0, _, Nat.zero_le _, rfl, Lib.hid (List.length_replicate ..), Lib.hid (fun j hj => by omega), him, hi1, hb2, hzm⟩
  case round =>
    clear him hi1 hb2 hzm
    obtain ⟨k, rk, hk, rfl, Hrl, Hrk, hir, hio, hbr, hsz⟩ := hrel
    by_cases hlt : k < s.size
    · have hk1 : k < s.data.toList.length := hlt
      have hcell := (hio.2 k (by rw [natsI_len, HO.out.len]; exact hlt)).1
      rw [natsI_getD _ _ (by rw [HO.out.len]; exact hlt)] at hcell
      have hat := HO.out.at_lt hk1
      have hinj : ∀ j, j < k → (sOrd s.data.toList).getD j 0 ≠ (sOrd s.data.toList).getD k 0 := fun j hj e => by have := HO.out.inj (show j < s.data.toList.length by omega) hk1 e; omega
      have Hinj := Lib.hid hinj
      have hat' : (sOrd s.data.toList).getD k 0 < s.size := hat
      clear hat hk1 hinj
      generalize hp : (sOrd s.data.toList).getD k 0 = p at *
      have Hp := Lib.hid hp
      obtain ⟨hc2, hf2⟩ := hir.2 p (by rw [Hrl.out]; exact hat')
      clear hp
      generalize hv : rk.getD p 0 = v at *
      clear hv
      go_wp2
      go_roundw
      case rel =>
        refine ⟨k + 1, rk.set p k, by omega, by go_num, Lib.hid (by rw [List.length_set]; exact Hrl.out), Lib.hid fun j hj => ?_, hir.set p (by rw [Hrl.out]; exact hat') _, hio.far (by show g1 ≠ g0; omega) _, hbr.setCell (by show w.heap.size ≤ g1; omega) _, by rw [size_setCell]; exact hsz⟩
        rw [getD_set _ _ _ _ (by rw [Hrl.out]; exact hat')]
        by_cases ej : j = k
        · subst ej; rw [Hp.out, if_pos rfl]
        · rw [if_neg (Hinj.out j (by omega))]; exact Hrk.out j (by omega)
      case measure => simp [intOf]; omega
    · obtain rfl : k = s.size := by omega
      clear hlt
      generalize wr = V at *
      obtain ⟨hbm, hzm, him⟩ := ints_made V s.size 3
      have hi2 := hir.alloc (Obj.cells (madeCells #[.int .i64 0] s.size) 3)
      have hi3 := hio.alloc (Obj.cells (madeCells #[.int .i64 0] s.size) 3)
      have hb3 := chain hbm hbr
      rw [hsz] at him hzm
      clear hir hio hbr hbm
      go_wp2
      generalize V.alloc (Obj.cells (madeCells #[.int .i64 0] s.size) 3) = w3 at *
      go_loopw [10, 11, 12, 41] (fun nv _ _ iv wr => ∃ (i n : Nat), i ≤ s.size ∧ n ≤ s.size ∧ iv = .int .i64 i ∧ nv = .int .i64 n ∧ Hid (KaN s.data.toList i n) ∧ IntsAt wr (g1 + 1) (outL s.data.toList i) ∧ IntsAt wr g1 rk ∧ IntsAt wr g0 (natsI (sOrd s.data.toList)) ∧ Below w.heap.size w wr) (fun _ _ _ iv _ => s.size - (intOf iv).toNat)
      case atStart => exact ⟨0, 0, Nat.zero_le _, Nat.zero_le _, rfl, rfl, Lib.hid (kaN_zero _ _), by rw [outL_zero]; exact him, hi2, hi3, hb3⟩
      case round =>
        clear him hi2 hi3 hb3 hzm hsz hmk
        obtain ⟨i, n, hi, hn, rfl, rfl, Hka, hio, hir, hio0, hbr⟩ := hrel
        by_cases hlt : i < s.size
        · obtain ⟨r, hr, hri⟩ := HO.out.find (show i < s.data.toList.length from hlt)
          have hr' : r < s.size := hr
          have hc1 := (hir.2 i (by rw [Hrl.out]; exact hlt)).1
          have hrk := Hrk.out r hr'
          rw [hri] at hrk
          rw [hrk] at hc1
          have Hri := Lib.hid hri
          have hrki : rk.getD i 0 = (r : Nat) := hrk
          clear hrk hri hr
          by_cases hr0 : r = 0
          · subst hr0
            go_wp2
            go_roundw
            case rel => exact ⟨i + 1, 0, by omega, Nat.zero_le _, by go_num, rfl, Lib.hid (kaN_zero _ _), by rw [outL_first hr' Hri.out]; exact hio, hir, hio0, hbr⟩
            case measure => simp [intOf]; omega
          · obtain ⟨q, rfl⟩ : ∃ q, r = q + 1 := ⟨r - 1, by omega⟩
            have hc0 := (hio0.2 q (by rw [natsI_len, HO.out.len]; show q < s.size; omega)).1
            rw [natsI_getD _ _ (by rw [HO.out.len]; show q < s.size; omega)] at hc0
            have hkl : (sOrd s.data.toList).getD q 0 < s.size := HO.out.at_lt (show q < s.size by omega)
            have hlc : lcpR s.data.toList (sOrd s.data.toList) (q + 1) = lcp (s.data.toList.drop i) (s.data.toList.drop ((sOrd s.data.toList).getD q 0)) := by
              unfold lcpR; rw [if_neg (by omega), Hri.out, lcp_comm]; rfl
            have hle := Hka.out (q + 1) (by omega) hr' Hri.out
            have hnx := kaN_next (by omega) hr' Hri.out
            have hset := outL_set hr' Hri.out
            have hlb := lcpR_le s.data.toList (sOrd s.data.toList) (q + 1)
            have hL : lcpR s.data.toList (sOrd s.data.toList) (q + 1) ≤ s.size := Nat.le_trans hlb (Nat.sub_le _ _)
            obtain ⟨hcs, hfs⟩ := hio.2 (q + 1) (by rw [outL_len]; exact hr')
            have Hrki := Lib.hid hrki
            clear hrki
            generalize hold : (outL s.data.toList i).getD (q + 1) 0 = old at *
            have Hold := Lib.hid hold
            clear hold
            generalize (sOrd s.data.toList).getD q 0 = k at *
            generalize lcpR s.data.toList (sOrd s.data.toList) (q + 1) = L at *
            have q1 : (((q + 1 : Nat) : Int) == 0) = false := by rw [beq_eq_false_iff_ne]; omega
            have e1 : IntKind.i64.wrap (((q + 1 : Nat) : Int) - 1) = (q : Int) := by rw [IntKind.wrap_i64]; omega
            have e1' : ((q : Int) + 1 - 1) = (q : Int) := by omega
            have Hle := Lib.hid hle
            have Hnx := Lib.hid hnx
            have Hset := Lib.hid hset
            have Hlc := Lib.hid hlc
            clear hle hnx hset hlc hlb hr0 Hka
            go_wp2
            go_loopw [10] (fun nv wq => ∃ m : Nat, nv = .int .i64 m ∧ m ≤ s.size ∧ Hid (m ≤ L) ∧ IntsAt wq (g1 + 1) (outL s.data.toList i) ∧ IntsAt wq g1 rk ∧ IntsAt wq g0 (natsI (sOrd s.data.toList)) ∧ Below w.heap.size w wq) (fun nv _ => s.size - (intOf nv).toNat)
            case atStart => exact ⟨n, rfl, hn, Lib.hid Hle.out, hio, hir, hio0, hbr⟩
            case round =>
              clear hio hir hio0 hbr hc0 hc1 hcs hfs hn Hle
              obtain ⟨m, rfl, hm, HmL, hio, hir, hio0, hbr⟩ := hrel
              have hmore := lcp_more (s := s.data.toList) (i := i) (k := k) (n := m) (by rw [← Hlc.out]; exact HmL.out)
              rw [← Hlc.out] at hmore
              have hlen : s.data.toList.length = s.size := rfl
              rw [hlen] at hmore
              have Hmore := Lib.hid hmore
              clear hmore hlen
              obtain ⟨a, ha⟩ : ∃ a, i + m = a := ⟨_, rfl⟩
              obtain ⟨b, hb⟩ : ∃ b, k + m = b := ⟨_, rfl⟩
              rw [ha, hb] at Hmore
              have wa : IntKind.i64.wrap ((i : Int) + (m : Int)) = (a : Int) := by rw [← ha]; exact IntWalk.i64_in _ (by omega)
              have wb : IntKind.i64.wrap ((k : Int) + (m : Int)) = (b : Int) := by rw [← hb]; exact IntWalk.i64_in _ (by omega)
              by_cases hstep : a < s.size ∧ b < s.size ∧ s.data.toList.getD a 0 = s.data.toList.getD b 0
              · obtain ⟨h1, h2, h3⟩ := hstep
                have hL2 := Hmore.out.2 ⟨h1, h2, h3⟩
                rw [getD_bytes s a h1, getD_bytes s b h2] at h3
                have q2 : decide ((i : Int) + (m : Int) < (s.size : Int)) = true := decide_eq_true (by omega)
                have q3 : decide ((k : Int) + (m : Int) < (s.size : Int)) = true := decide_eq_true (by omega)
                have q4 : ((s[a].toNat : Int) == (s[b].toNat : Int)) = true := by rw [h3]; simp
                have i1 : (a : Int) < (s.size : Int) := by omega
                have i2 : (b : Int) < (s.size : Int) := by omega
                have HL2 := Lib.hid hL2
                clear hL2 h3 ha hb Hmore
                go_wp2
                go_quiet (fail)
                clear wa wb
                go_wp2
                go_roundw
                case rel => exact ⟨m + 1, by go_num, by have := HL2.out; omega, Lib.hid HL2.out, hio, hir, hio0, below_drewN hbr _⟩
                case measure => have := HL2.out; simp only [intOf]; omega
              · have hLm : L = m := by
                  have h1 := HmL.out
                  rcases Nat.lt_or_ge m L with h2 | h2
                  · exact absurd (Hmore.out.1 h2) hstep
                  · omega
                have HLm := Lib.hid hLm
                clear hLm Hmore HmL
                have hmax : ∀ (ats : Array TypeId) (t : TypeId) (w : World), (Builtin.max_ ats t #[.int .i64 0, .int .i64 ((m : Int) - 1)]).run Try.prog w = .ok (.int .i64 ((m - 1 : Nat) : Int)) w := fun ats t w => by
                  rw [run_max_int2]; congr 2; omega
                have i1 : (a : Int) < (s.size : Int) ∨ True := .inr trivial
                rcases (show a < s.size ∧ b < s.size ∧ s.data.toList.getD a 0 ≠ s.data.toList.getD b 0 ∨ a < s.size ∧ ¬ b < s.size ∨ ¬ a < s.size from by
                  by_cases h1 : a < s.size
                  · by_cases h2 : b < s.size
                    · exact .inl ⟨h1, h2, fun h3 => hstep ⟨h1, h2, h3⟩⟩
                    · exact .inr (.inl ⟨h1, h2⟩)
                  · exact .inr (.inr h1)) with ⟨h1, h2, h3⟩ | ⟨h1, h2⟩ | h1
                case' inl =>
                  rw [getD_bytes s a h1, getD_bytes s b h2] at h3
                  have q2 : decide ((i : Int) + (m : Int) < (s.size : Int)) = true := decide_eq_true (by omega)
                  have q3 : decide ((k : Int) + (m : Int) < (s.size : Int)) = true := decide_eq_true (by omega)
                  have q4 : ((s[a].toNat : Int) == (s[b].toNat : Int)) = false := by rw [beq_eq_false_iff_ne]; intro h; exact h3 (UInt8.toNat_inj.1 (by omega))
                  have i1 : (a : Int) < (s.size : Int) := by omega
                  have i2 : (b : Int) < (s.size : Int) := by omega
                  clear h3 ha hb hstep
                  go_wp2
                  go_quiet (fail)
                case' inr.inl =>
                  have q2 : decide ((i : Int) + (m : Int) < (s.size : Int)) = true := decide_eq_true (by omega)
                  have q3 : decide ((k : Int) + (m : Int) < (s.size : Int)) = false := decide_eq_false (by omega)
                  have i1 : (a : Int) < (s.size : Int) := by omega
                  clear ha hb hstep
                  go_wp2
                  go_quiet (fail)
                case' inr.inr =>
                  have q2 : decide ((i : Int) + (m : Int) < (s.size : Int)) = false := decide_eq_false (by omega)
                  clear ha hb hstep
                  go_wp2
                  go_quiet (fail)
                all_goals
                  have hio := hio.drewQ nq
                  have hir := hir.drewQ nq
                  have hio0 := hio0.drewQ nq
                  have hbr := below_drewN hbr nq
                  generalize World.drewN _ nq = wz at *
                  have hc1 := (hir.2 i (by rw [Hrl.out]; exact hlt)).1
                  rw [Hrki.out] at hc1
                  obtain ⟨hcs, hfs⟩ := hio.2 (q + 1) (by rw [outL_len]; exact hr')
                  rw [Hold.out] at hcs
                  clear wa wb
                  go_wp2
                  go_roundw
                  case rel =>
                    refine ⟨i + 1, m - 1, by omega, by omega, by go_num, rfl, Lib.hid (by rw [← HLm.out]; exact Hnx.out), ?_, hir.far (by show g1 + 1 ≠ g1; omega) _, hio0.far (by show g1 + 1 ≠ g0; omega) _, hbr.setCell (by show w.heap.size ≤ g1 + 1; omega) _⟩
                    have := hio.set (q + 1) (by rw [outL_len]; exact hr') (m : Int)
                    rw [Hset.out, HLm.out]
                    exact this
                  case measure => simp [intOf]; omega
        · obtain rfl : i = s.size := by omega
          have := outL_all s.data.toList
          rw [show s.data.toList.length = s.size from rfl] at this
          rw [this] at hio
          go_wp2
          go_ret2
          exact ⟨g1 + 1, rfl, by omega, hio, hbr⟩
end Go.Proofs.Ytkbogiijbmjbmaa
