/- The walk of rope.Check. -/
import Derived.Test.YtkeeggklgdinhaaRopeP
import Derived.Test.YtkeeggklgdinhaaStruct
import Derived.Test.YtkeeggklgdinhaaPlain
import Derived.Deep.DeepMust
namespace Go.Proofs.Ytkeeggklgdinhaa
open Go.RowKit
set_option linter.unusedVariables false

/-- A rope as a value. -/
abbrev ropeV (A : Option Addr) (n c : Nat) : Value := .agg #[.slice A n c]
theorem toList_len (t : ByteArray) : t.toList.length = t.size := by rw [ByteArray.toList_eq]; rfl
theorem isEmpty_no {t : ByteArray} (h : t.size ≠ 0) : t.toList.isEmpty = false := by
  rw [List.isEmpty_eq_false_iff]; intro e; exact h (by rw [← toList_len, e]; rfl)
theorem checkFrom_next {m : Nat} {t : ByteArray} {l : List ByteArray} (h1 : t.size ≠ 0) (h2 : ¬ 200 < m + t.size) : checkFrom m (t :: l) = checkFrom (m + t.size) l := by
  rw [checkFrom, if_neg h1, if_neg h2]

set_option maxHeartbeats 2000000 in
theorem rcheck_any (A : Option Addr) (n c B : Nat) (l : List ByteArray) (hl : l.length = n) (hn : n ≤ 1000000000000000) (hz : ∀ p ∈ l, p.size ≤ 140737488355328) (w : World) (r : Reads w B A n 1 (l.flatMap cStr)) (hB : B ≤ w.heap.size) :
    Calls Try.prog 21 #[ropeV A n c] w fun e w' => e = .returned (.int .i64 (checkR l)) ∧ Below w.heap.size w w' := by
  have Hl := Lib.hid hl
  have Hz := Lib.hid hz
  have hb0 : Below w.heap.size w (w.alloc (Obj.cells #[.slice A n c] 24)) := (Below.refl _ _).alloc (Nat.le_refl _) _
  by_cases hn2 : n ≤ 60
  case neg =>
    have q1 : decide ((60 : Int) < (n : Int)) = true := decide_eq_true (by omega)
    have q1' : decide (60 < n) = true := decide_eq_true (by omega)
    have hC : Hid (checkR l = 2) := Lib.hid (by unfold checkR; rw [if_pos (by rw [Hl.out]; omega)])
    go_enter Try.func21, Try.ntmps21
    go_wp2
    go_ret
    exact ⟨by rw [hC.out]; rfl, hb0⟩
  have q1 : decide ((60 : Int) < (n : Int)) = false := decide_eq_false (by omega)
  have q1' : decide (60 < n) = false := decide_eq_false (by omega)
  have HC : Hid (checkR l = checkFrom 0 l) := Lib.hid (by unfold checkR; rw [if_neg (by rw [Hl.out]; omega)])
  clear hl hz
  go_enter Try.func21, Try.ntmps21
  go_wp2
  clear q1 q1'
  go_loopw [3, 13] (fun mv iv wr => ∃ (k m : Nat), k ≤ n ∧ m ≤ 200 ∧ iv = .int .i64 k ∧ mv = .int .i64 m ∧ Hid (checkR l = checkFrom m (l.drop k)) ∧ Below w.heap.size w wr) (fun _ iv _ => n - (intOf iv).toNat)
  case atStart => exact ⟨0, 0, Nat.zero_le _, by omega, rfl, rfl, Lib.hid (by rw [HC.out]; rfl), hb0⟩
  case round =>
    obtain ⟨k, m, hk, hm, rfl, rfl, Hf, hbr⟩ := hrel
    by_cases hlt : k < n
    · obtain ⟨b, o, rfl, hbB, hc⟩ := (r.below' hbr hB).2 (by omega)
      have c0 := hc (k * 1 + 0) (by rw [flat_length cStr 1 cStr_len, Hl.out]; omega)
      rw [flat_getD cStr 1 cStr_len ByteArray.empty l k _ (by rw [Hl.out]; omega) (by omega)] at c0
      simp only [cStr, List.getD_cons_zero, Nat.mul_one, Nat.add_zero] at c0
      have hd := drop_getD l k ByteArray.empty (by rw [Hl.out]; omega)
      have hmem : l.getD k ByteArray.empty ∈ l := by rw [getD_some _ _ _ (by rw [Hl.out]; omega)]; exact List.getElem_mem _
      have hts : (l.getD k ByteArray.empty).size ≤ 140737488355328 := Hz.out _ hmem
      have Hd := Lib.hid hd
      clear hc hd hmem
      generalize l.getD k ByteArray.empty = t at *
      by_cases ht : t.size = 0
      · have H2 : Hid (checkR l = 5) := Lib.hid (by rw [Hf.out, Hd.out]; unfold checkFrom; rw [if_pos ht])
        obtain rfl : t = ByteArray.empty := ByteArray.ext (Array.eq_empty_of_size_eq_zero ht)
        go_wp2
        go_ret
        exact ⟨by rw [H2.out]; rfl, hbr⟩
      · have q2 : t.toList.isEmpty = false := isEmpty_no ht
        by_cases ht2 : 200 < m + t.size
        · have H2 : Hid (checkR l = 2) := Lib.hid (by rw [Hf.out, Hd.out]; unfold checkFrom; rw [if_neg ht, if_pos ht2])
          have q4 : decide ((200 : Int) - (m : Int) < (t.size : Int)) = true := decide_eq_true (by omega)
          go_wp2
          go_ret
          exact ⟨by rw [H2.out]; rfl, hbr⟩
        · have H2 : Hid (checkR l = checkFrom (m + t.size) (l.drop (k + 1))) := Lib.hid (by rw [Hf.out, Hd.out]; exact checkFrom_next ht ht2)
          have q4 : decide ((200 : Int) - (m : Int) < (t.size : Int)) = false := decide_eq_false (by omega)
          go_wp2
          go_roundw
          case rel => exact ⟨k + 1, m + t.size, by omega, by omega, by go_num, by go_num, H2, hbr⟩
          case measure => simp [intOf]; omega
    · obtain rfl : k = n := by omega
      go_wp2
      go_ret
      exact ⟨by rw [Hf.out, List.drop_of_length_le (by rw [Hl.out]; omega)]; rfl, hbr⟩
end Go.Proofs.Ytkeeggklgdinhaa
