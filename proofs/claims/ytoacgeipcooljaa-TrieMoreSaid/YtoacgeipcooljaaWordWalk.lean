/- The walks of word.Borders, word.Periods and word.Root. -/
import Derived.Test.YtoacgeipcooljaaWord
import Derived.Test.YtoacgeipcooljaaCheck
import Derived.Test.YtoacgeipcooljaaStruct
import Derived.Test.YtoacgeipcooljaaBack
import Derived.Deep.QuietTactic
import Derived.BigQuiet
import Derived.Deep.DeepMust
namespace Go.Proofs.Ytoacgeipcooljaa
open Go.RowKit
set_option linter.unusedVariables false

theorem infoIntW : (Try.prog.info? 3).map (fun i => (i.zero, i.size, i.bytes)) = some (some (.int .i64 0), 1, 8) := by kernel_rfl
theorem IntsAt.drewN {w : World} {g : Nat} {l : List Int} (h : IntsAt w g l) (k : Nat) : IntsAt (w.drewN k) g l := h
theorem intsAt_reads {w : World} {g : Nat} {l : List Int} (h : IntsAt w g l) : Reads w w.heap.size (some ⟨g, 0, none⟩) l.length 1 (l.flatMap cInt) := by
  refine ⟨by rw [flat_length cInt 1 cInt_len], fun _ => ⟨g, 0, rfl, h.1, fun j hj => ?_⟩⟩
  rw [flat_length cInt 1 cInt_len, Nat.mul_one] at hj
  have := flat_getD cInt 1 cInt_len 0 l j 0 hj (by omega)
  rw [Nat.mul_one, Nat.add_zero] at this
  rw [this, Nat.zero_add, (h.2 j hj).1]; rfl

set_option maxHeartbeats 2000000 in
theorem borders_ok (s : ByteArray) (hs : s.size ≤ 200) (w : World) :
    Calls Try.prog 25 #[.string s] w fun e w' => ∃ A, e = .returned (.tuple #[.slice A s.size s.size, .int .i64 0]) ∧
      Reads w' w'.heap.size A s.size 1 ((bordersOf s.data.toList).flatMap cInt) ∧ Below w.heap.size w w' := by
  have hmk := fun w : World => make_ints (P := Try.prog) 38 3 Try.underlying38 infoIntW s.size (s.size : Int) rfl (by omega) w
  go_enter Try.func25, Try.ntmps25
  go_wp2_with fail
  refine (wordCheck_ok s hs _).mono ?_
  rintro e w1 ⟨rfl, rfl⟩
  go_wp2
  obtain ⟨hb0, hz0, hat0⟩ := ints_made w s.size 3
  generalize hW : World.alloc _ _ = W at *
  clear hW hmk
  have hgW : w.heap.size < W.heap.size := by omega
  generalize hgg : w.heap.size = g at *
  have Hgg := Lib.hid hgg
  clear hgg hz0
  go_loopw [6, 7] (fun iv _ wr => ∃ (i : Nat) (l : List Int), 1 ≤ i ∧ (i ≤ s.size ∨ i = 1) ∧ iv = .int .i64 i ∧ Hid (l.length = s.size) ∧ IntsAt wr g l ∧ Below g w wr ∧ Hid (∀ j, j < i → j < s.size → l.getD j 0 = ((pi s.data.toList (j + 1) : Nat) : Int)))
    (fun iv _ _ => s.size - (intOf iv).toNat)
  case atStart =>
    refine ⟨1, List.replicate s.size 0, Nat.le_refl _, .inr rfl, rfl, Lib.hid (by rw [List.length_replicate]), hat0, hb0, Lib.hid fun j hj hjs => ?_⟩
    obtain rfl : j = 0 := by omega
    rw [pi_one, getD_some _ _ _ (by rw [List.length_replicate]; exact hjs), List.getElem_replicate]; rfl
  case round =>
    clear hat0 hb0
    obtain ⟨i, l, hi1, hi2, rfl, Hl, hat, hbr, Hv⟩ := hrel
    by_cases hlt : i < s.size
    · obtain ⟨i', hi'⟩ : ∃ i', i - 1 = i' := ⟨_, rfl⟩
      have hci := (hat.2 i' (by rw [Hl.out]; omega)).1
      rw [Hv.out i' (by omega) (by omega), show i' + 1 = i from by omega] at hci
      have e1 : (i : Int) - 1 = (i' : Int) := by omega
      have hi'' : i' < s.size := by omega
      have hpl := pi_lt s.data.toList (p := i) (by omega)
      have hcs := cand_start s.data.toList (i := i) (by omega)
      have Hcs := Lib.hid hcs
      have hlt' : (i : Int) < s.size := by omega
      clear hi' hcs
      generalize hK0 : pi s.data.toList i = K0 at *
      have HK0 := Lib.hid hK0
      clear hK0
      go_wp2
      clear e1
      go_loopw [7] (fun kv wq => ∃ k : Nat, k < i ∧ kv = .int .i64 k ∧ Hid (Cand s.data.toList i k) ∧ IntsAt wq g l ∧ Below g w wq) (fun kv _ => (intOf kv).toNat)
      case atStart => exact ⟨K0, hpl, rfl, Hcs, hat, hbr⟩
      case round =>
        clear hat hbr hci
        obtain ⟨k, hk, rfl, Hc, hat, hbr⟩ := hrel
        have hks : (k : Int) < s.size := by omega
        have hks' : k < s.size := by omega
        have hgk := getD_bytes s k hks'
        have hgi := getD_bytes s i hlt
        have Hgk := Lib.hid hgk
        have Hgi := Lib.hid hgi
        clear hgk hgi
        obtain ⟨hci, hfi⟩ := hat.2 i (by rw [Hl.out]; exact hlt)
        have hset : ∀ x : Nat, pi s.data.toList (i + 1) = x → ∀ j, j < i + 1 → j < s.size → (l.set i (x : Int)).getD j 0 = ((pi s.data.toList (j + 1) : Nat) : Int) := fun x hx j hj hjs => by
          rw [getD_set _ _ _ _ (by rw [Hl.out]; exact hlt)]
          by_cases e : j = i
          · rw [if_pos e, e, hx]
          · rw [if_neg e]; exact Hv.out j (by omega) hjs
        have Hset := Lib.hid hset
        clear hset
        by_cases heq : s[k] = s[i]
        · have q1 : ((s[k].toNat : Int) == (s[i].toNat : Int)) = true := by rw [heq]; simp
          have q1' : ((s[k].toNat : Int) != (s[i].toNat : Int)) = false := by rw [heq]; simp
          have hh := cand_hit Hc.out (by rw [Hgk.out, Hgi.out]; exact heq)
          have Hh := Lib.hid hh
          clear heq hh
          by_cases hk0 : 0 < k
          · have q0 : decide ((0 : Int) < (k : Int)) = true := decide_eq_true (by omega)
            go_wp2
            go_quiet (fail)
            go_wp2
            go_quiet (fail)
            go_wp2
            go_roundw
            case rel => exact ⟨i + 1, l.set i (k + 1 : Nat), by omega, by omega, by go_num, Lib.hid (by rw [List.length_set]; exact Hl.out), (hat.drewN _).set i (by rw [Hl.out]; exact hlt) _, (below_drewN hbr _).setCell (Nat.le_refl _) _, Lib.hid (Hset.out _ Hh.out)⟩
            case measure => simp [intOf]; omega
          · have q0 : decide ((0 : Int) < (k : Int)) = false := decide_eq_false (by omega)
            go_wp2
            go_quiet (fail)
            go_wp2
            go_quiet (fail)
            go_wp2
            go_roundw
            case rel => exact ⟨i + 1, l.set i (k + 1 : Nat), by omega, by omega, by go_num, Lib.hid (by rw [List.length_set]; exact Hl.out), (hat.drewN _).set i (by rw [Hl.out]; exact hlt) _, (below_drewN hbr _).setCell (Nat.le_refl _) _, Lib.hid (Hset.out _ Hh.out)⟩
            case measure => simp [intOf]; omega
        · have q1 : ((s[k].toNat : Int) == (s[i].toNat : Int)) = false := by rw [beq_eq_false_iff_ne]; intro h; exact heq (UInt8.toNat_inj.1 (by omega))
          have q1' : ((s[k].toNat : Int) != (s[i].toNat : Int)) = true := by rw [bne_iff_ne]; intro h; exact heq (UInt8.toNat_inj.1 (by omega))
          by_cases hk0 : 0 < k
          · have q0 : decide ((0 : Int) < (k : Int)) = true := decide_eq_true (by omega)
            obtain ⟨m, hm⟩ : ∃ m, k - 1 = m := ⟨_, rfl⟩
            have hms : m < s.size := by omega
            have hcm := (hat.2 m (by rw [Hl.out]; exact hms)).1
            rw [Hv.out m (by omega) hms, show m + 1 = k from by omega] at hcm
            have e1 : (k : Int) - 1 = (m : Int) := by omega
            have hpk := pi_lt s.data.toList (p := k) hk0
            have hn := cand_next Hc.out hk0 (by rw [Hgk.out, Hgi.out]; exact heq)
            have Hn := Lib.hid hn
            clear hm heq hn
            generalize hK1 : pi s.data.toList k = K1 at *
            clear hK1
            go_wp2
            go_quiet (fail)
            go_wp2
            clear e1
            go_roundw
            case rel => exact ⟨K1, by omega, rfl, Hn, hat.drewN _, below_drewN hbr _⟩
            case measure => simp [intOf]; omega
          · have q0 : decide ((0 : Int) < (k : Int)) = false := decide_eq_false (by omega)
            have hh : pi s.data.toList (i + 1) = k := by
              obtain rfl : k = 0 := by omega
              exact cand_miss Hc.out (by rw [Hgk.out, Hgi.out]; exact heq)
            have Hh := Lib.hid hh
            clear heq hh
            go_wp2
            go_quiet (fail)
            go_wp2
            go_quiet (fail)
            go_wp2
            go_roundw
            case rel => exact ⟨i + 1, l.set i (k : Nat), by omega, by omega, by go_num, Lib.hid (by rw [List.length_set]; exact Hl.out), (hat.drewN _).set i (by rw [Hl.out]; exact hlt) _, (below_drewN hbr _).setCell (Nat.le_refl _) _, Lib.hid (Hset.out _ Hh.out)⟩
            case measure => simp [intOf]; omega
    · go_wp2
      go_ret2
      have hle : l = bordersOf s.data.toList := by
        refine ext_getD _ _ 0 (by rw [Hl.out, bordersOf_length]; rfl) fun j hj => ?_
        rw [Hl.out] at hj
        rw [Hv.out j (by omega) hj, bordersOf_at _ _ hj]
      have := intsAt_reads hat
      rw [Hl.out, hle] at this
      exact ⟨some ⟨g, 0, none⟩, rfl, this, by rw [Hgg.out]; exact hbr⟩

set_option maxHeartbeats 400000 in
theorem borders_no (s : ByteArray) (hs : 200 < s.size) (w : World) :
    Calls Try.prog 25 #[.string s] w fun e w' => e = .returned (.tuple #[.slice none 0 0, .int .i64 2]) ∧ w = w' := by
  go_enter Try.func25, Try.ntmps25
  go_wp2_with fail
  refine (wordCheck_no s hs _).mono ?_
  rintro e w1 ⟨rfl, rfl⟩
  go_wp2
  go_ret2
  exact ⟨rfl, rfl⟩

theorem getD_map {α β : Type} (f : α → β) (l : List α) (j : Nat) (d : α) : (l.map f).getD j (f d) = f (l.getD j d) := by
  simp [List.getD_eq_getElem?_getD]
/-- Numbers as they are told. -/
def nI (l : List Nat) : List Int := l.map fun p => ((p : Nat) : Int)
theorem nI_length (l : List Nat) : (nI l).length = l.length := by simp [nI]
theorem nI_snoc (l : List Nat) (x : Nat) : nI (l ++ [x]) = nI l ++ [(x : Int)] := by simp [nI]
theorem ownCapW {w : World} {B size n c : Nat} {e : TypeId} {A : Option Addr} {xs : List Value} (h : w.ownsRow B e size (.slice A n c) n xs) : n ≤ c := by
  rcases h.2 with ⟨h1, h0⟩ | ⟨g, cap, cur, h1, _, _, h2, _⟩
  · omega
  · injection h1 with _ _ h3
    omega

/-- A list of numbers is told, and no error. -/
def ToldInts (L : List Int) (w : World) (e : Ending) (w' : World) : Prop := ∃ A c, e = .returned (.tuple #[.slice A L.length c, .int .i64 0]) ∧ Reads w' w'.heap.size A L.length 1 (L.flatMap cInt) ∧ Below w.heap.size w w' ∧ L.length ≤ c



theorem find_at (f : Nat → Bool) : ∀ (l : List Nat) (j : Nat), j < l.length → (∀ q ∈ l.take j, f q = false) → f (l.getD j 0) = true → l.find? f = some (l.getD j 0)
  | a :: l, 0, _, _, h => by rw [List.find?_cons]; simp only [List.getD_cons_zero] at h ⊢; rw [h]
  | a :: l, j + 1, hj, hn, h => by
    rw [List.find?_cons, hn a (by simp), List.getD_cons_succ]
    exact find_at f l j (by simpa using hj) (fun q hq => hn q (by simp [hq])) (by simpa using h)


end Go.Proofs.Ytoacgeipcooljaa
