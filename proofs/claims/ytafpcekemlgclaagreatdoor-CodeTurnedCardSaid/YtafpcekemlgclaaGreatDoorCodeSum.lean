/- The walk of code.Sum. -/
import Derived.Test.YtafpcekemlgclaaGreatDoorCodeP
import Derived.Test.YtafpcekemlgclaaGreatDoorPlain
import Derived.Test.YtafpcekemlgclaaGreatDoorStruct
import Derived.IntWalk
namespace Go.Proofs.YtafpcekemlgclaaGreatDoor
open Go.RowKit
set_option linter.unusedVariables false

/-- What code.Sum tells: the error, and the sum. -/
def sumE (l : List Int) : Int := if 12 < l.length then 2 else if l.all (fun x => decide (1 ≤ x) && decide (x ≤ 12)) then 0 else 1
theorem sumE_zero (l : List Int) : sumE l = 0 ↔ l.length ≤ 12 ∧ ∀ x ∈ l, 1 ≤ x ∧ x ≤ 12 := by
  unfold sumE
  by_cases h : 12 < l.length
  · rw [if_pos h]; constructor
    · intro h; cases h
    · intro h; omega
  · rw [if_neg h]
    by_cases h2 : l.all (fun x => decide (1 ≤ x) && decide (x ≤ 12)) = true
    · rw [if_pos h2]
      rw [List.all_eq_true] at h2
      exact ⟨fun _ => ⟨by omega, fun x hx => by simpa using h2 x hx⟩, fun _ => rfl⟩
    · rw [if_neg h2]; constructor
      · intro h; cases h
      · rintro ⟨_, h3⟩
        exact absurd (List.all_eq_true.2 fun x hx => by simpa using h3 x hx) h2
theorem sumE_one {l : List Int} (h : l.length ≤ 12) {x : Int} (hx : x ∈ l) (h2 : x < 1 ∨ 12 < x) : sumE l = 1 := by
  unfold sumE
  rw [if_neg (by omega), if_neg]
  intro h3
  have := List.all_eq_true.1 h3 x hx
  simp at this
  omega
def nats (l : List Int) : List Nat := l.map Int.toNat
def sumV (l : List Int) : Int := if sumE l = 0 then (kr 12 (nats l) : Int) else 0
theorem kr_le (L : Nat) : ∀ l : List Nat, kr L l ≤ l.length * 2 ^ L
  | [] => by simp [kr]
  | n :: l => by
    have := kr_le L l
    have h2 : 2 ^ (L - n) ≤ 2 ^ L := Nat.pow_le_pow_right (by decide) (Nat.sub_le _ _)
    rw [kr, List.length_cons, Nat.add_mul, Nat.one_mul]; omega

end Go.Proofs.YtafpcekemlgclaaGreatDoor
