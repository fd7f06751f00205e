/- DiffMakes' walk: the script transforms one string into the other with the stated cost. -/
import Derived.Test.YtmephgemokngnaaDoorDiffLeast
namespace Go.Proofs.YtmephgemokngnaaDoor
open Go.RowKit
set_option linter.unusedVariables false

theorem makes_law (a b : ByteArray) (h : ce a b = 0) (h20 : cv a b ≤ 20) : checkE a.size (makeE a b) = 0 ∧ (⟨(app a.data.toList 0 (makeE a b)).toArray⟩ : ByteArray) = b ∧ costE (makeE a b) = cv a b := by
  have hz := ce_zero h
  rw [cv_ok hz] at h20 ⊢
  have hr := rise_all a.data.toList b.data.toList
  have hpl := places_length a.data.toList b.data.toList
  rw [← hpl] at h20 ⊢
  have hsa : a.data.toList.length = a.size := rfl
  have hsb : b.data.toList.length = b.size := rfl
  have e : makeE a b = diffL b.data.toList 0 0 (placesOf a.data.toList b.data.toList ++ [(a.data.toList.length, b.data.toList.length)]) := rfl
  rw [e]
  have happ := diff_app _ 0 0 0 hr (Nat.le_refl _) (Nat.zero_le _) (Nat.zero_le _)
  have hcost := diff_cost _ 0 0 hr (Nat.zero_le _) (Nat.zero_le _)
  have hok := diff_ok _ 0 0 true 0 hr (Nat.zero_le _) (Nat.zero_le _) (fun h => by cases h) (by omega)
  have hlen := cost_len hok
  have hal := app_length (s := a.data.toList) (e := 0) hok (fun _ => rfl) (Nat.zero_le _)
  rw [happ] at hal ⊢
  rw [List.take_zero, List.drop_nil, List.nil_append, List.drop_zero] at hal ⊢
  refine ⟨?_, ?_, by rw [hcost]; omega⟩
  · rw [show ((a.size : Nat) : Int) = (a.data.toList.length : Nat) from rfl, checkE_full (by omega) (by omega) (by omega) hok, if_neg (by omega)]
  · cases b; rfl

end Go.Proofs.YtmephgemokngnaaDoor
