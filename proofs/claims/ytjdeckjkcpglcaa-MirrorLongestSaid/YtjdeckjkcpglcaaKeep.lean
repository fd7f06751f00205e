/- The walks of the laws' own small helpers: Within. -/
import Derived.Test.YtjdeckjkcpglcaaRows
import Derived.Test.YtjdeckjkcpglcaaLib
namespace Go.Proofs.Ytjdeckjkcpglcaa
open Go.RowKit
set_option linter.unusedVariables false

theorem tmod_rest_neg (k n : Int) (hn : 0 < n) (h : k.tmod n < 0) : k.tmod n + n = k % n := by
  have h1 := Int.emod_nonneg k (Int.ne_of_gt hn)
  have h2 := Int.emod_lt_of_pos k hn
  have e := Int.tmod_eq_emod (a := k) (b := n)
  by_cases hc : 0 ≤ k ∨ n ∣ k
  · rw [if_pos hc] at e; omega
  · rw [if_neg hc] at e; omega
theorem tmod_rest_pos (k n : Int) (hn : 0 < n) (h : 0 ≤ k.tmod n) : k.tmod n = k % n := by
  have h1 := Int.emod_nonneg k (Int.ne_of_gt hn)
  have h2 := Int.emod_lt_of_pos k hn
  have e := Int.tmod_eq_emod (a := k) (b := n)
  by_cases hc : 0 ≤ k ∨ n ∣ k
  · rw [if_pos hc] at e; omega
  · rw [if_neg hc] at e; omega

set_option maxHeartbeats 400000 in
theorem rest_any (k n : Int) (hn : 0 < n) (hn' : n ≤ 4611686018427387904) (w : World) :
    Calls Try.prog 14 #[.int .i64 k, .int .i64 n] w fun e w' => e = .returned (.int .i64 (k % n)) ∧ w = w' := by
  have hne : ¬ n = 0 := by omega
  have hb1 : -n < k.tmod n := by have := Int.lt_tmod_of_pos k hn; omega
  have hb2 : k.tmod n < n := Int.tmod_lt_of_pos k hn
  go_enter Try.func14, Try.ntmps14
  go_wp2
  · have h : k.tmod n < 0 := by assumption
    go_ret
    exact ⟨congrArg (fun z => Ending.returned (.int .i64 z)) (tmod_rest_neg k n hn h), rfl⟩
  · have h : 0 ≤ k.tmod n := by assumption
    go_ret
    exact ⟨congrArg (fun z => Ending.returned (.int .i64 z)) (tmod_rest_pos k n hn h), rfl⟩

set_option maxHeartbeats 400000 in
theorem within_any (k n : Int) (hn : 0 < n) (hn' : n ≤ 4611686018427387904) (w : World) :
    Calls Try.prog 7 #[.int .i64 k, .int .i64 n] w fun e w' => e = .returned (.int .i64 (k % n)) ∧ w = w' := by
  go_enter Try.func7, Try.ntmps7
  go_wp2_with fail
  refine (rest_any k n hn hn' _).mono ?_
  rintro e w1 ⟨rfl, rfl⟩
  go_wp2
  go_ret
  exact ⟨rfl, rfl⟩

end Go.Proofs.Ytjdeckjkcpglcaa
