/- The walks of slices.Index and slices.Contains at element types of one cell. -/
import Derived.Test.YtafpcekemlgclaaGreatDoorRows
import Derived.Test.YtafpcekemlgclaaGreatDoorLib
import Derived.Test.YtafpcekemlgclaaGreatDoorPlain
import Derived.Test.YtafpcekemlgclaaGreatDoorStruct
namespace Go.Proofs.YtafpcekemlgclaaGreatDoor
open Go.RowKit
set_option linter.unusedVariables false

/-- Where it stands first, or -1. -/
def idxI {α : Type} [DecidableEq α] (v : α) (l : List α) : Int := if v ∈ l then (l.idxOf v : Nat) else -1
theorem idxI_found {α : Type} [DecidableEq α] {v d : α} {l : List α} {k : Nat} (hk : k < l.length) (h : l.getD k d = v) (hn : v ∉ l.take k) : idxI v l = (k : Nat) := by
  have hm : v ∈ l := by rw [← h, getD_some _ _ _ hk]; exact List.getElem_mem _
  unfold idxI
  rw [if_pos hm]
  congr 1
  have e : l = l.take k ++ v :: l.drop (k + 1) := by rw [← h, ← drop_getD l k d hk, List.take_append_drop]
  rw [e, List.idxOf_append, if_neg hn, List.idxOf_cons_self, List.length_take]
  omega
theorem idxI_none {α : Type} [DecidableEq α] {v : α} {l : List α} (h : v ∉ l) : idxI v l = -1 := by unfold idxI; rw [if_neg h]
/-- Does it stand there? -/
def hasB {α : Type} [DecidableEq α] (v : α) (l : List α) : Bool := decide (v ∈ l)
theorem hasB_iff {α : Type} [DecidableEq α] {v : α} {l : List α} : hasB v l = true ↔ v ∈ l := decide_eq_true_iff
theorem hasB_no {α : Type} [DecidableEq α] {v : α} {l : List α} : hasB v l = false ↔ v ∉ l := decide_eq_false_iff_not
theorem idxI_neg {α : Type} [DecidableEq α] (v : α) (l : List α) : decide (0 ≤ idxI v l) = hasB v l := by
  unfold idxI hasB
  by_cases h : v ∈ l
  · rw [if_pos h]; simp [h]
  · rw [if_neg h]; simp [h]
theorem idxI_le {α : Type} [DecidableEq α] (v : α) (l : List α) : -1 ≤ idxI v l ∧ idxI v l < (l.length : Int) ∨ l = [] ∧ idxI v l = -1 := by
  unfold idxI
  by_cases h : v ∈ l
  · rw [if_pos h]; have := List.idxOf_lt_length_of_mem h; left; omega
  · rw [if_neg h]
    cases l with
    | nil => right; exact ⟨rfl, rfl⟩
    | cons x l => left; simp; omega






set_option maxHeartbeats 1000000 in
theorem indexStr_any (v : ByteArray) (A : Option Addr) (n c B : Nat) (l : List ByteArray) (w : World) (hn : n ≤ 140737488355328) (hl : l.length = n) (h : Reads w B A n 1 (l.flatMap cStr)) :
    Calls Tryz.prog 24 #[.slice A n c, .string v] w fun e w' => e = .returned (.int .i64 (idxI v l)) ∧ w = w' := by
  have Hl := Lib.hid hl
  clear hl
  go_enter Tryz.func24, Tryz.ntmps24
  go_wp2
  go_loop [5, 8] (fun _ i => ∃ k : Nat, k ≤ n ∧ i = .int .i64 k ∧ Hid (v ∉ l.take k)) (fun _ i => n - (intOf i).toNat)
  case atStart => exact ⟨0, Nat.zero_le _, rfl, Lib.hid (by simp)⟩
  case round =>
    obtain ⟨k, hk, rfl, Hk⟩ := hrel
    by_cases hlt : k < n
    · obtain ⟨b, o, rfl, hbB, hc⟩ := h.2 (by omega)
      have c0 := hc (k * 1 + 0) (by rw [flat_length cStr 1 cStr_len, Hl.out]; omega)
      rw [flat_getD cStr 1 cStr_len ByteArray.empty l k _ (by rw [Hl.out]; omega) (by omega)] at c0
      simp only [cStr, List.getD_cons_zero, Nat.mul_one, Nat.add_zero] at c0
      have hts := take_succ_getD l k ByteArray.empty (by rw [Hl.out]; omega)
      have Hts := Lib.hid hts
      have hfd := fun h => idxI_found (v := v) (d := ByteArray.empty) (l := l) (k := k) (by rw [Hl.out]; exact hlt) h Hk.out
      have Hfd := Lib.hid hfd
      clear hc hts hfd
      generalize l.getD k ByteArray.empty = x at *
      by_cases heq : v = x
      · have q1 : (v.toList == x.toList) = true := by rw [heq]; simp
        have Heq := Lib.hid heq
        clear heq
        go_wp2
        go_ret
        exact ⟨by rw [Hfd.out Heq.out.symm]; rfl, rfl⟩
      · have hne := heq
        have q1 : (v.toList == x.toList) = false := by rw [beq_eq_false_iff_ne]; intro h; rw [ByteArray.toList_eq, ByteArray.toList_eq] at h; exact hne (str_ext h)
        have Hne := Lib.hid hne
        clear heq hne
        go_wp2
        go_round
        case rel =>
          refine ⟨k + 1, by omega, by go_num, Lib.hid ?_⟩
          rw [Hts.out, List.mem_append, List.mem_singleton]
          exact fun h => h.elim Hk.out Hne.out
        case measure => simp [intOf]; omega
    · obtain rfl : k = n := by omega
      have e : l.take k = l := List.take_of_length_le (by rw [Hl.out]; omega)
      rw [e] at Hk
      have hno := idxI_none Hk.out
      have Hno := Lib.hid hno
      clear hno e
      go_wp2
      go_ret
      exact ⟨by rw [Hno.out]; rfl, rfl⟩


set_option maxHeartbeats 400000 in
theorem containsStr_any (v : ByteArray) (A : Option Addr) (n c B : Nat) (l : List ByteArray) (w : World) (hn : n ≤ 140737488355328) (hl : l.length = n) (h : Reads w B A n 1 (l.flatMap cStr)) :
    Calls Tryz.prog 16 #[.slice A n c, .string v] w fun e w' => e = .returned (.bool (hasB v l)) ∧ w = w' := by
  have hneg := idxI_neg v l
  have H1 := Lib.hid (indexStr_any v A n c B l w hn hl h)
  have Hneg := Lib.hid hneg
  clear hneg hl h
  go_enter Tryz.func16, Tryz.ntmps16
  go_wp2_with fail
  refine H1.out.mono ?_
  rintro e w1 ⟨rfl, rfl⟩
  generalize idxI v l = i at *
  go_wp2
  go_ret
  exact ⟨congrArg (fun b => Ending.returned (.bool b)) Hneg.out, rfl⟩









end Go.Proofs.YtafpcekemlgclaaGreatDoor
