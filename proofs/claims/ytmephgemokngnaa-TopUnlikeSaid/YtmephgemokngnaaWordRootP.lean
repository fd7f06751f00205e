/- Plain: the root of a power, and of a root. -/
import Derived.Test.YtmephgemokngnaaWordLaw
import Derived.Lib.Repeat
namespace Go.Proofs.Ytmephgemokngnaa
set_option linter.unusedVariables false

theorem flat_rep (s : List UInt8) : ∀ n, Lib.repeatL s n = (List.replicate n s).flatten
  | 0 => rfl
  | n + 1 => by rw [Lib.repeatL, flat_rep s n, List.replicate_succ, List.flatten_cons]
theorem flat_rep_len (s : List UInt8) (n : Nat) : (List.replicate n s).flatten.length = n * s.length := by
  rw [← flat_rep, Lib.repeatL_length]
theorem flat_comm (s : List UInt8) (n : Nat) : (List.replicate n s).flatten ++ s = s ++ (List.replicate n s).flatten := by
  have h1 := flatten_replicate_add s n 1
  have h2 := flatten_replicate_add s 1 n
  rw [Nat.add_comm 1 n, h1] at h2
  simpa using h2
theorem rootLen_pos {s : List UInt8} (h : 0 < s.length) : 0 < rootLen s ∧ rootLen s ∣ s.length := by
  obtain ⟨⟨h1, h2, _⟩, _, _⟩ := root_ok s h
  exact ⟨h1, Nat.dvd_of_mod_eq_zero h2⟩
theorem root_power {s : List UInt8} (h : 0 < s.length) {n : Nat} (hn : 0 < n) : rootOf (List.replicate n s).flatten = rootOf s ∧ expOf (List.replicate n s).flatten = n * expOf s := by
  have hl := flat_rep_len s n
  have hp : 0 < (List.replicate n s).flatten.length := by rw [hl]; exact Nat.mul_pos hn h
  have hr := (commute_iff _ s hp h).1 (flat_comm s n)
  refine ⟨hr, ?_⟩
  have hrl : rootLen (List.replicate n s).flatten = rootLen s := by rw [← root_length, hr, root_length]
  unfold expOf
  rw [hrl, hl]
  exact Nat.mul_div_assoc n (rootLen_pos h).2
theorem root_rep {s : List UInt8} (h : 0 < s.length) : s = (List.replicate (expOf s) (rootOf s)).flatten ∧ 0 < expOf s ∧ expOf s ≤ s.length := by
  obtain ⟨hd, hle, _⟩ := root_ok s h
  refine ⟨dper_power hd, Nat.div_pos hle hd.1, Nat.div_le_self _ _⟩
theorem root_root {s : List UInt8} (h : 0 < s.length) : rootOf (rootOf s) = rootOf s ∧ expOf (rootOf s) = 1 ∧ 0 < (rootOf s).length ∧ (rootOf s).length ≤ s.length := by
  obtain ⟨h1, h2, h3⟩ := root_rep h
  obtain ⟨hd, hle, _⟩ := root_ok s h
  have hr0 : 0 < (rootOf s).length := by rw [root_length]; exact hd.1
  obtain ⟨p1, p2⟩ := root_power hr0 h2
  rw [← h1] at p1 p2
  refine ⟨p1.symm, ?_, hr0, by rw [root_length]; exact hle⟩
  have : expOf s * 1 = expOf s * expOf (rootOf s) := by rw [Nat.mul_one]; exact p2
  exact (Nat.eq_of_mul_eq_mul_left h2 this).symm
end Go.Proofs.Ytmephgemokngnaa
