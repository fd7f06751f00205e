/- The walks of slices.Equal at the element types that the laws use: two slices are equal just if they read as the same list. -/
import Derived.Test.YtkclcjgkicikfaaRows
import Derived.Test.YtkclcjgkicikfaaLib
import Derived.Test.YtkclcjgkicikfaaPlain
import Derived.Test.YtkclcjgkicikfaaStruct
import Derived.Deep.QuietTactic
import Derived.BigQuiet
namespace Go.Proofs.Ytkclcjgkicikfaa
open Go.RowKit
set_option linter.unusedVariables false

theorem decide_cut {α : Type} [DecidableEq α] {l l' : List α} {k n : Nat} (d : α) (hl : l.length = n) (hl' : l'.length = n) (hk : k < n) (h : l.getD k d ≠ l'.getD k d) : decide (l = l') = false := by
  rw [decide_eq_false_iff_not]
  intro e
  exact h (by rw [e])
theorem decide_all {α : Type} [DecidableEq α] {l l' : List α} {n : Nat} (hl : l.length = n) (hl' : l'.length = n) (h : l.take n = l'.take n) : decide (l = l') = true := by
  rw [decide_eq_true_eq]
  rwa [List.take_of_length_le (by omega), List.take_of_length_le (by omega)] at h

theorem nebRun (x y : UInt8 × Int) (h : x ≠ y) : (((x.1).toNat : Int) == ((y.1).toNat : Int) && x.2 == y.2) = false := by
  rw [Bool.eq_false_iff]
  intro hh
  simp only [Bool.and_eq_true, beq_iff_eq] at hh
  apply h
  apply cRun_inj
  simp only [cRun]
  rw [hh.1, hh.2]


theorem nebPhrase (x y : Int × UInt8) (h : x ≠ y) : (x.1 == y.1 && ((x.2).toNat : Int) == ((y.2).toNat : Int)) = false := by
  rw [Bool.eq_false_iff]
  intro hh
  simp only [Bool.and_eq_true, beq_iff_eq] at hh
  apply h
  apply cPhrase_inj
  simp only [cPhrase]
  rw [hh.1, hh.2]


theorem nebEdit (x y : Int × Int × ByteArray) (h : x ≠ y) : (x.1 == y.1 && x.2.1 == y.2.1 && (x.2.2).toList == (y.2.2).toList) = false := by
  rw [Bool.eq_false_iff]
  intro hh
  simp only [Bool.and_eq_true, beq_iff_eq, ByteArray.toList_eq] at hh
  apply h
  apply cEdit_inj
  simp only [cEdit]
  rw [hh.1.1, hh.1.2, str_ext hh.2]


theorem nebOp (x y : Int × Int × UInt8) (h : x ≠ y) : (x.1 == y.1 && x.2.1 == y.2.1 && ((x.2.2).toNat : Int) == ((y.2.2).toNat : Int)) = false := by
  rw [Bool.eq_false_iff]
  intro hh
  simp only [Bool.and_eq_true, beq_iff_eq] at hh
  apply h
  apply cOp_inj
  simp only [cOp]
  rw [hh.1.1, hh.1.2, hh.2]


theorem nebHit (x y : Int × Int) (h : x ≠ y) : (x.1 == y.1 && x.2 == y.2) = false := by
  rw [Bool.eq_false_iff]
  intro hh
  simp only [Bool.and_eq_true, beq_iff_eq] at hh
  apply h
  apply cHit_inj
  simp only [cHit]
  rw [hh.1, hh.2]






end Go.Proofs.Ytkclcjgkicikfaa
