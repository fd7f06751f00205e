/- The walks of the laws' own small helpers: Within. -/
import Derived.Test.YtmephgemokngnaaDoorRows
import Derived.Test.YtmephgemokngnaaDoorLib
namespace Go.Proofs.YtmephgemokngnaaDoor
open Go.RowKit
set_option linter.unusedVariables false

theorem tmod_rest_neg (k n : Int) (hn : 0 < n) (h : k.tmod n < 0) : k.tmod n + n = k % n := by
  have h1 := Int.emod_nonneg k (Int.ne_of_gt hn)
  have h2 := Int.emod_lt_of_pos k hn
  have e := Int.tmod_eq_emod (a := k) (b := n)
  by_cases hc : 0 ≤ k ∨ n ∣ k
  · rw [if_pos hc] at e; omega
  · rw [if_neg hc] at e; omega
theorem tmod_rest_pos (k n : Int) (hn : 0 < n) (h : 0 ≤ k.tmod n) : k.tmod n = k % n := by
  have h1 := Int.emod_nonneg k (Int.ne_of_gt hn)
  have h2 := Int.emod_lt_of_pos k hn
  have e := Int.tmod_eq_emod (a := k) (b := n)
  by_cases hc : 0 ≤ k ∨ n ∣ k
  · rw [if_pos hc] at e; omega
  · rw [if_neg hc] at e; omega


end Go.Proofs.YtmephgemokngnaaDoor
