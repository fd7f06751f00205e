/- The walk of diff.Cost. -/
import Derived.Test.YtmephgemokngnaaDoorSameWalk
namespace Go.Proofs.YtmephgemokngnaaDoor
open Go.RowKit
set_option linter.unusedVariables false

/-- What Cost answers: the number, the error. -/
def cv (a b : ByteArray) : Int := if a.size ≤ 200 ∧ b.size ≤ 200 then (a.size : Int) + b.size - 2 * (lcs a.data.toList b.data.toList : Nat) else 0
def ce (a b : ByteArray) : Int := if a.size ≤ 200 ∧ b.size ≤ 200 then 0 else 2
theorem cv_ok {a b : ByteArray} (h : a.size ≤ 200 ∧ b.size ≤ 200) : cv a b = (a.size : Int) + b.size - 2 * (lcs a.data.toList b.data.toList : Nat) := by unfold cv; rw [if_pos h]
theorem ce_ok {a b : ByteArray} (h : a.size ≤ 200 ∧ b.size ≤ 200) : ce a b = 0 := by unfold ce; rw [if_pos h]
theorem cv_bd (a b : ByteArray) : 0 ≤ cv a b ∧ cv a b ≤ 400 := by
  by_cases h : a.size ≤ 200 ∧ b.size ≤ 200
  · rw [cv_ok h]
    have h1 := lcs_le_left a.data.toList b.data.toList
    have h2 := lcs_le_right a.data.toList b.data.toList
    rw [show a.data.toList.length = a.size from rfl] at h1
    rw [show b.data.toList.length = b.size from rfl] at h2
    omega
  · unfold cv; rw [if_neg h]; omega

theorem cost_any (a b : ByteArray) (w : World) :
    Calls Tryd.prog 10 #[.string a, .string b] w fun e w' => e = .returned (.tuple #[.int .i64 (cv a b), .int .i64 (ce a b)]) ∧ Below w.heap.size w w' := by
  by_cases h : a.size ≤ 200 ∧ b.size ≤ 200
  · rw [cv_ok h, ce_ok h]
    have h1 := lcs_le_left a.data.toList b.data.toList
    rw [show a.data.toList.length = a.size from rfl] at h1
    have hlo := long_ok a b h.1 h.2
    have HL := Lib.hid hlo
    generalize lcs a.data.toList b.data.toList = L at *
    obtain ⟨ha, hb⟩ := h
    clear hlo
    go_enter Tryd.func10, Tryd.ntmps10
    go_wp2_with fail
    refine (HL.out w).mono ?_
    rintro e w1 ⟨rfl, hb1⟩
    go_wp2
    go_ret2
    exact ⟨by simp, hb1⟩
  · have hc : cv a b = 0 := by unfold cv; rw [if_neg h]
    have he : ce a b = 2 := by unfold ce; rw [if_neg h]
    rw [hc, he]
    have h' : 200 < a.size ∨ 200 < b.size := by omega
    have HL := Lib.hid (long_no a b h')
    clear hc he h h'
    go_enter Tryd.func10, Tryd.ntmps10
    go_wp2_with fail
    refine (HL.out w).mono ?_
    rintro e w1 ⟨rfl, rfl⟩
    go_wp2
    go_ret2
    exact ⟨rfl, Below.refl _ _⟩

end Go.Proofs.YtmephgemokngnaaDoor
