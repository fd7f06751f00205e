/- PackBack's walk: decoding with a prefix-free code inverts encoding. -/
import Derived.Test.YtlnobikecmgocaaDoorPackGet
import Derived.Test.YtlnobikecmgocaaDoorPacks
import Derived.Test.YtlnobikecmgocaaDoorTreeMake
import Derived.Test.YtlnobikecmgocaaDoorKeep
import Derived.Test.YtlnobikecmgocaaDoorArgs
namespace Go.Proofs.YtlnobikecmgocaaDoor
open Go.RowKit
set_option linter.unusedVariables false

theorem wds_strM (l : List Wd) : wds (l.map strW) = l := by
  unfold wds
  rw [List.map_map]
  exact (List.map_congr_left fun x _ => rfl).trans (List.map_id l)
/-- Numbers brought within n. -/
def modI (n : Nat) (l : List Int) : List Int := l.map fun k => k % (n : Int)
theorem modI_len (n : Nat) (l : List Int) : (modI n l).length = l.length := by simp [modI]
theorem modI_ok {n : Nat} (h : 0 < n) (l : List Int) : textOk n (modI n l) := fun k hk => by
  obtain ⟨x, _, rfl⟩ := List.mem_map.1 hk
  exact ⟨Int.emod_nonneg x (by omega), Int.emod_lt_of_pos x (by omega)⟩

set_option maxRecDepth 100000 in
set_option maxHeartbeats 8000000 in
theorem packBack_walk (A : Option Addr) (n cap : Nat) (ws : List Int) (A1 : Option Addr) (n1 cap1 : Nat) (q : List Int) {w : World} (ha : IntsIn w A n cap ws) (hb : IntsIn w A1 n1 cap1 q) :
    Calls Tryd.prog 4 #[.slice A n cap, .slice A1 n1 cap1] w fun e w' => e = .returned (.bool true) ∧ Below w.heap.size w w' := by
  obtain ⟨hla, hra, hlena, _, hcapa, hma, _⟩ := ha
  obtain ⟨hlb, hrb, hlenb, hwb, hcapb, hmb, _⟩ := hb
  have HM := Lib.hid (fun w (r : Reads w w.heap.size A n 1 (ws.flatMap cInt)) => treeMake_any A n cap w.heap.size ws w (by omega) hla r (Nat.le_refl _))
  have G := Lib.hid (fun w => good_fresh [0, 0] 2 2 rfl (by decide) w 25)
  have hinfo : (Tryd.prog.info? 3).map (fun i => (i.zero, i.size, i.bytes)) = some (some (.int .i64 0), 1, 8) := by kernel_rfl
  have Hla := Lib.hid hla
  have Hlb := Lib.hid hlb
  have Hwb := Lib.hid hwb
  have hn1 : n1 ≤ 1125899906842624 := by omega
  have hn0 : n ≤ 1125899906842624 := by omega
  clear hla hlb hma hmb hwb
  go_enter Tryd.func4, Tryd.ntmps4
  go_wp2_with fail
  refine (packs_any _).mono ?_
  rintro e w1 ⟨rfl, hb1⟩
  go_wp2_with fail
  refine (trees_any _).mono ?_
  rintro e w2 ⟨rfl, hb2⟩
  have hb2 := chain hb2 hb1
  have ra2 := (hra.below hb2).more hb2.size
  have rb2 := (hrb.below hb2).more hb2.size
  clear hra hrb hb1
  go_wp2_with fail
  refine (HM.out _ ra2).mono ?_
  rintro e w3 ⟨hb3, hx⟩
  have ra3 := ra2.after hb3
  have rb3 := rb2.after hb3
  have hb3 := chain hb3 hb2
  clear ra2 rb2 hb2
  rcases hx with ⟨hno, rfl⟩ | ⟨hc, g, o, M, rfl, hok, hrl, hml, hco, hfp, hlens⟩
  · have q1 : (checkT ws != 0) = true := by simpa using hno
    clear hno HM
    go_wp2
    all_goals (go_ret; exact ⟨by simp, hb3⟩)
  by_cases hz : n = 0
  · subst hz
    clear hrl
    go_wp2
    all_goals (go_ret; exact ⟨by simp, hb3⟩)
  have H1w := (checkT_zero ws).1 hc
  have hn12 : n ≤ 12 := by rw [← Hla.out]; exact H1w.1
  have q0 : ((n : Int) == 0) = false := by rw [beq_eq_false_iff_ne]; omega
  obtain ⟨L, hL⟩ : ∃ L, L = M.map strW := ⟨_, rfl⟩
  have hwl : wds L = M := by rw [hL]; exact wds_strM M
  have hLl : L.length = n := by rw [hL, List.length_map, hml]
  rw [← hL] at hrl
  rw [← hwl] at hco hfp
  have hLz : ∀ p ∈ L, p.size ≤ 140737488351232 := fun p hp => by
    have := hco.len (wd p) (mem_wds.2 hp)
    have e : (wd p).length = p.size := rfl
    omega
  have hck := (checkC_zero _).2 hco
  have HP := Lib.hid (fun A' m c' (t : List Int) w (hm : m ≤ 1125899906842624) (ht : t.length = m) (r : Reads w w.heap.size (some ⟨g, 0, none⟩) n 1 (L.flatMap cStr)) (r' : Reads w w.heap.size A' m 1 (t.flatMap cInt)) => packPut_any (some ⟨g, 0, none⟩) n n w.heap.size L A' m c' w.heap.size t w (by omega) (Nat.le_refl _) hLl hLz hm ht r (Nat.le_refl _) r' (Nat.le_refl _))
  have HG := Lib.hid (fun (t : List Int) w (ht : textOk n t) (hT : t.length ≤ 200) T (hTT : t.length = T) (r : Reads w w.heap.size (some ⟨g, 0, none⟩) n 1 (L.flatMap cStr)) => packGet_back (some ⟨g, 0, none⟩) n n w.heap.size L t w (by omega) (Nat.le_refl _) hLl hLz r (Nat.le_refl _) hck hfp ht hT T hTT)
  have HLl := Lib.hid hLl
  have Hck := Lib.hid hck
  obtain ⟨m, hm⟩ : ∃ m, m = min n1 200 := ⟨_, rfl⟩
  have hmin : ∀ (ats : Array TypeId) (t : TypeId) (w : World), (Builtin.min_ ats t #[.int .i64 (n1 : Int), .int .i64 200]).run Tryd.prog w = .ok (.int .i64 (m : Int)) w := fun ats t w => by
    rw [run_min_int2, hm]; congr 2; omega
  have hm1 : m ≤ n1 := by omega
  have hm2 : m ≤ 200 := by omega
  have hmc : m ≤ cap1 := by omega
  have hmc' : (m : Int) ≤ (cap1 : Int) := by omega
  clear hm hL hwl hLl hLz hck hfp hco hml hok hlens H1w hc HM
  go_wp2
  clear hmin
  go_loopw [7, 9, 50] (fun ov _ iv wr => ∃ (k : Nat) (A' : Option Addr) (c' : Nat), k ≤ m ∧ iv = .int .i64 k ∧ ov = .slice A' k c' ∧ OwnK 3 1 wr (· < w3.heap.size) A' k c' ((modI n (q.take k)).flatMap cInt) ∧ Below w3.heap.size w3 wr) (fun _ _ iv _ => m - (intOf iv).toNat)
  case atStart => exact ⟨0, none, 0, Nat.zero_le _, rfl, rfl, OwnK.nil _ _ _ _, Below.refl _ _⟩
  case round =>
    obtain ⟨k, A', c', hk, rfl, rfl, hown, hbr⟩ := hrel
    have hbs := hbr.size
    by_cases hlt : k < m
    · obtain ⟨b9, o9, rfl, hbB, hcl9⟩ := (rb3.below hbr).2 (by omega)
      have c0 := hcl9 (k * 1 + 0) (by rw [flat_length cInt 1 cInt_len, Hlb.out]; omega)
      rw [flat_getD cInt 1 cInt_len 0 q k _ (by rw [Hlb.out]; omega) (by omega)] at c0
      simp only [cInt, List.getD_cons_zero, Nat.mul_one, Nat.add_zero] at c0
      have hts := take_succ_getD q k 0 (by rw [Hlb.out]; omega)
      have hnx : (modI n (q.take (k + 1))).flatMap cInt = (modI n (q.take k)).flatMap cInt ++ [.int .i64 (q.getD k 0 % (n : Int))] := by
        rw [hts]; unfold modI; rw [List.map_append, List.flatMap_append]; rfl
      have Hnx := Lib.hid hnx
      clear hcl9 hts hnx
      generalize q.getD k 0 = x at *
      have hW := fun w => within_any x (n : Int) (by omega) (by omega) w
      have HW := Lib.hid hW
      generalize x % (n : Int) = y at *
      have hcl : ∀ j, j < 1 → (wr.alloc (Obj.cells #[.int .i64 y] 3)).cell? ((⟨wr.heap.size, 0, none⟩ : Addr).add j) = ([.int .i64 y] : List Value)[j]? := fun j hj => by
        obtain rfl : j = 0 := by omega
        rw [add_at, World.cell?_alloc_mark]; rfl
      have hk8 : k ≤ 8000000000000 := by omega
      have hk9 : (k + 1) * 8 ≤ 140737488355328 := by omega
      clear hW
      go_wp2_with fail
      refine (HW.out _).mono ?_
      rintro e w5 ⟨rfl, rfl⟩
      go_wp2_with (first | (at_builtin; go_must (refine wpList_append_K rfl (.tmp 54) (.tmp 59) 22 rfl (· < w3.heap.size) (.int .i64 0) 8 hinfo Tryd.underlying22 rfl (by decide) (by decide) A' k c' _ rfl (hown.alloc _) ⟨wr.heap.size, 0, none⟩ 1 [.int .i64 y] rfl rfl (by simp [Value.oneCell']) hcl hk9 hk8 (fun k hk => by simp; omega) ?_); intro A3 c3 w6 hown3 hg3 hp3))
      have hb6 : Below w3.heap.size w3 w6 := (hbr.alloc hbs _).grown hg3 (by simp; omega) (fun g hg => by have := (hown.lt g hg).1; omega)
      rw [← Hnx.out] at hown3
      clear hown hcl
      go_wp2
      go_roundw
      case rel => exact ⟨k + 1, A3, c3, by omega, by go_num, rfl, hown3, hb6⟩
      case measure => simp [intOf]; omega
    · obtain rfl : k = m := by omega
      clear hlt
      obtain ⟨t, ht⟩ : ∃ t, t = modI n (q.take k) := ⟨_, rfl⟩
      rw [← ht] at hown
      have htl : t.length = k := by rw [ht, modI_len, List.length_take, Hlb.out]; omega
      have hto : textOk n t := by rw [ht]; exact modI_ok (by omega) _
      have hrt := hown.toReads
      have hrl4 := (hrl.below hbr).more hbs
      have hb4 := chain hbr hb3
      have HPt := Lib.hid (HP.out A' k c' t wr (by omega) htl hrl4 hrt)
      have HGt := Lib.hid (fun w r => HG.out t w hto (by omega) k htl r)
      have Hpok := Lib.hid (show packOk L t from ⟨Hck.out, by omega, by rw [HLl.out]; exact hto⟩)
      have Htl := Lib.hid htl
      clear ht htl hto hown HP HG hrl hbr rb3 ra3
      go_wp2_with fail
      refine HPt.out.mono ?_
      rintro e w5 ⟨hb5, hx⟩
      have hrt5 := hrt.after hb5
      have hrl5 := hrl4.after hb5
      have hb5 := chain hb5 hb4
      rcases hx with ⟨_, rfl⟩ | ⟨hno, _⟩
      case inr => exact absurd Hpok.out hno
      clear hrt hrl4 hb4 HPt
      go_wp2_with fail
      refine (HGt.out _ hrl5).mono ?_
      rintro e w6 ⟨hb6, A6, c6, rfl, hr6⟩
      have hrt6 := hrt5.after hb6
      have hb6 := chain hb6 hb5
      clear hrt5 hrl5 hb5 HGt
      go_wp2_with fail
      refine (G.out _).mono ?_
      rintro e w7 ⟨rfl, hb7⟩
      have hrt7 := hrt6.after hb7
      have hr7 := hr6.after hb7
      have hb7 := chain hb7 hb6
      have HE := Lib.hid (equalInt_any A' A6 k k c' c6 _ _ t t w7 (by omega) (by omega) Htl.out Htl.out hrt7 hr7)
      clear hrt6 hr6 hrt7 hr7 hb6
      go_wp2_with fail
      refine HE.out.mono ?_
      rintro e w8 ⟨rfl, hb8⟩
      have hb8 := chain hb8 hb7
      go_wp2
      all_goals (go_ret; exact ⟨by simp, hb8⟩)
end Go.Proofs.YtlnobikecmgocaaDoor
