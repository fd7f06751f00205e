/- The walks of package ring: power, Check, Words, gcd, Rings. -/
import Derived.Test.YtbcendaiakeabaaLib
import Derived.Test.YtbcendaiakeabaaRows
import Derived.Test.YtbcendaiakeabaaRing
import Derived.Deep.QuietTactic
import Derived.BigQuiet
namespace Go.Proofs.Ytbcendaiakeabaa
open Go.RowKit
set_option linter.unusedVariables false

theorem pow_next {k j : Nat} (h : k ^ (j + 1) ≤ 512) : 0 ≤ ((k ^ j : Nat) : Int) * (k : Int) ∧ ((k ^ j : Nat) : Int) * (k : Int) ≤ 512 ∧ ((k ^ j : Nat) : Int) * (k : Int) = ((k ^ (j + 1) : Nat) : Int) := by
  have e : ((k ^ j : Nat) : Int) * (k : Int) = ((k ^ (j + 1) : Nat) : Int) := by rw [Nat.pow_succ, Int.natCast_mul]
  rw [e]; omega

set_option maxHeartbeats 400000 in
theorem power_yes (k n : Nat) (hk : 1 ≤ k) (hk8 : k ≤ 8) (hn : n ≤ 512) (hp : k ^ n ≤ 512) (w : World) :
    Calls Try.prog 82 #[.int .i64 k, .int .i64 n] w fun e w' => e = .returned (.tuple #[.int .i64 ((k ^ n : Nat) : Int), .bool true]) ∧ w = w' := by
  go_enter Try.func82, Try.ntmps82
  go_wp2
  go_loop [6, 8] (fun x i => ∃ j : Nat, j ≤ n ∧ i = .int .i64 j ∧ x = .int .i64 ((k ^ j : Nat) : Int)) (fun _ i => n - (intOf i).toNat)
  case atStart => exact ⟨0, by omega, rfl, by simp⟩
  case round =>
    obtain ⟨j, hj, rfl, rfl⟩ := hrel
    by_cases hlt : j < n
    · obtain ⟨h0, h1, h2⟩ := pow_next (Nat.le_trans (pow_le hk (show j + 1 ≤ n from hlt)) hp)
      have H2 := Lib.hid h2
      clear h2
      generalize hq : ((k ^ j : Nat) : Int) = q at *
      have Hq := Lib.hid hq
      clear hq
      go_wp2
      go_round
      case rel => exact ⟨j + 1, by omega, by go_num, by rw [H2.out]⟩
      case measure => simp [intOf]; omega
    · obtain rfl : j = n := by omega
      go_wp2
      go_ret2
      exact ⟨rfl, rfl⟩

set_option maxHeartbeats 400000 in
theorem power_no (k n : Nat) (hk : 1 ≤ k) (hk8 : k ≤ 8) (hn : n ≤ 512) (hp : ¬ k ^ n ≤ 512) (w : World) :
    Calls Try.prog 82 #[.int .i64 k, .int .i64 n] w fun e w' => e = .returned (.tuple #[.int .i64 0, .bool false]) ∧ w = w' := by
  go_enter Try.func82, Try.ntmps82
  go_wp2
  go_loop [6, 8] (fun x i => ∃ j : Nat, j ≤ n ∧ i = .int .i64 j ∧ k ^ j ≤ 512 ∧ x = .int .i64 ((k ^ j : Nat) : Int)) (fun _ i => n - (intOf i).toNat)
  case atStart => exact ⟨0, by omega, rfl, by simp, by simp⟩
  case round =>
    obtain ⟨j, hj, rfl, hle, rfl⟩ := hrel
    have hlt : j < n := by
      rcases Nat.lt_or_ge j n with h | h
      · exact h
      · obtain rfl : j = n := by omega
        exact absurd hle hp
    have e : ((k ^ j : Nat) : Int) * (k : Int) = ((k ^ (j + 1) : Nat) : Int) := by rw [Nat.pow_succ, Int.natCast_mul]
    have hb : k ^ (j + 1) ≤ 4096 := by rw [Nat.pow_succ]; exact Nat.le_trans (Nat.mul_le_mul hle hk8) (by decide)
    have hb1 : ((k ^ j : Nat) : Int) * (k : Int) ≤ 4096 := by rw [e]; omega
    have hb0 : 0 ≤ ((k ^ j : Nat) : Int) * (k : Int) := by rw [e]; omega
    by_cases hnx : k ^ (j + 1) ≤ 512
    · have h1 : ((k ^ j : Nat) : Int) * (k : Int) ≤ 512 := by rw [e]; omega
      have H2 := Lib.hid e
      have Hn := Lib.hid hnx
      clear e hb hle hnx hp
      generalize hq : ((k ^ j : Nat) : Int) = q at *
      have Hq := Lib.hid hq
      clear hq
      go_wp2
      go_round
      case rel => exact ⟨j + 1, by omega, by go_num, Hn.out, by rw [H2.out]⟩
      case measure => simp [intOf]; omega
    · have h1 : (512 : Int) < ((k ^ j : Nat) : Int) * (k : Int) := by rw [e]; omega
      clear e hb hle hnx hp
      generalize hq : ((k ^ j : Nat) : Int) = q at *
      have Hq := Lib.hid hq
      clear hq
      go_wp2
      go_ret2
      exact ⟨rfl, rfl⟩

set_option maxHeartbeats 400000 in
theorem ringCheck_ok (k n : Nat) (h : Fits k n) (w : World) :
    Calls Try.prog 63 #[.int .i64 k, .int .i64 n] w fun e w' => e = .returned (.int .i64 0) ∧ w = w' := by
  have hk1 : decide ((k : Int) < 1) = false := by have := h.k1; simp; omega
  have hk8 : decide ((8 : Int) < (k : Int)) = false := by have := h.k8; simp; omega
  have hn1 : decide ((n : Int) < 1) = false := by have := h.n1; simp; omega
  have hn5 : decide ((512 : Int) < (n : Int)) = false := by have := h.n512; simp; omega
  go_enter Try.func63, Try.ntmps63
  go_wp2_with fail
  refine (power_yes k n h.k1 h.k8 h.n512 h.pow _).mono ?_
  rintro e w1 ⟨rfl, rfl⟩
  go_wp2
  go_ret
  exact ⟨rfl, rfl⟩

set_option maxHeartbeats 400000 in
theorem ringCheck_large (k n : Nat) (h1 : 1 ≤ k) (h8 : k ≤ 8) (hn1 : 1 ≤ n) (hn5 : n ≤ 512) (hp : ¬ k ^ n ≤ 512) (w : World) :
    Calls Try.prog 63 #[.int .i64 k, .int .i64 n] w fun e w' => e = .returned (.int .i64 2) ∧ w = w' := by
  have hk1 : decide ((k : Int) < 1) = false := by simp; omega
  have hk8 : decide ((8 : Int) < (k : Int)) = false := by simp; omega
  have hn1' : decide ((n : Int) < 1) = false := by simp; omega
  have hn5' : decide ((512 : Int) < (n : Int)) = false := by simp; omega
  go_enter Try.func63, Try.ntmps63
  go_wp2_with fail
  refine (power_no k n h1 h8 hn5 hp _).mono ?_
  rintro e w1 ⟨rfl, rfl⟩
  go_wp2
  go_ret
  exact ⟨rfl, rfl⟩

set_option maxHeartbeats 400000 in
theorem ringCheck_arg (k n : Int) (h : k < 1 ∨ 8 < k ∨ n < 1 ∨ 512 < n) (w : World) :
    Calls Try.prog 63 #[.int .i64 k, .int .i64 n] w fun e w' => e = .returned (.int .i64 1) ∧ w = w' := by
  by_cases h1 : k < 1
  · have hk1 : decide (k < 1) = true := by simp; omega
    go_enter Try.func63, Try.ntmps63
    go_wp2
    go_ret
    exact ⟨rfl, rfl⟩
  have hk1 : decide (k < 1) = false := by simp; omega
  by_cases h2 : 8 < k
  · have hk8 : decide (8 < k) = true := by simp; omega
    go_enter Try.func63, Try.ntmps63
    go_wp2
    go_ret
    exact ⟨rfl, rfl⟩
  have hk8 : decide (8 < k) = false := by simp; omega
  by_cases h3 : n < 1
  · have hn1 : decide (n < 1) = true := by simp; omega
    go_enter Try.func63, Try.ntmps63
    go_wp2
    go_ret
    exact ⟨rfl, rfl⟩
  have hn1 : decide (n < 1) = false := by simp; omega
  have h4 : 512 < n := by omega
  have hn5 : decide (512 < n) = true := by simp; omega
  go_enter Try.func63, Try.ntmps63
  go_wp2
  go_ret
  exact ⟨rfl, rfl⟩

/-- Every pair of numbers either fits or is refused with an error. -/
theorem ringCheck_cases (k n : Int) : (∃ k' n' : Nat, k = k' ∧ n = n' ∧ Fits k' n') ∨
    ∃ E : Int, E ≠ 0 ∧ ∀ w : World, Calls Try.prog 63 #[.int .i64 k, .int .i64 n] w fun e w' => e = .returned (.int .i64 E) ∧ w = w' := by
  by_cases h : k < 1 ∨ 8 < k ∨ n < 1 ∨ 512 < n
  · exact .inr ⟨1, by decide, fun w => ringCheck_arg k n h w⟩
  · obtain ⟨k', rfl⟩ := Int.eq_ofNat_of_zero_le (show 0 ≤ k by omega)
    obtain ⟨n', rfl⟩ := Int.eq_ofNat_of_zero_le (show 0 ≤ n by omega)
    by_cases hp : k' ^ n' ≤ 512
    · exact .inl ⟨k', n', rfl, rfl, by omega, by omega, by omega, by omega, hp⟩
    · exact .inr ⟨2, by decide, fun w => ringCheck_large k' n' (by omega) (by omega) (by omega) (by omega) hp w⟩


theorem A.infoInt : (Try.prog.info? 3).map (fun i => (i.zero, i.size, i.bytes)) = some (some (.int .i64 0), 1, 8) := by kernel_rfl

theorem mod_cast2 (n j : Nat) : (n : Int) % ((j : Int) + 1) = ((n % (j + 1) : Nat) : Int) := by simp
theorem mod_cast1 (D j : Nat) : ((D : Int) + 1) % ((j : Int) + 1) = (((D + 1) % (j + 1) : Nat) : Int) := by simp



end Go.Proofs.Ytbcendaiakeabaa
