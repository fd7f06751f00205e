/- DistSame's walk: the edit distance is bounded by the lengths and the length of a longest common subsequence. -/
import Derived.Test.YtccbfhaoepomnaaSameLaws
import Derived.Test.YtccbfhaoepomnaaDist
namespace Go.Proofs.Ytccbfhaoepomnaa
open Go.RowKit
set_option linter.unusedVariables false

set_option maxRecDepth 100000 in
set_option maxHeartbeats 1000000 in
theorem distSame_walk (a b : ByteArray) (ha0 : a.size ≤ 140737488351232) (hb0 : b.size ≤ 140737488351232) (w : World) :
    Calls Try.prog 11 #[.string a, .string b] w fun e w' => e = .returned (.bool true) ∧ Below w.heap.size w w' := by
  by_cases h : a.size ≤ 200 ∧ b.size ≤ 200
  · obtain ⟨ha, hb⟩ := h
    have s1 := dist_ok a b ha hb
    have s2 := long_ok a b ha hb
    have l1 := lev_length a.data.toList b.data.toList
    have l2 := lev_le_max a.data.toList b.data.toList
    have l3 := lev_lcs a.data.toList b.data.toList
    have l4 := lcs_lev a.data.toList b.data.toList
    have l5 := lcs_le_left a.data.toList b.data.toList
    rw [show a.data.toList.length = a.size from rfl] at l1 l2 l3 l4 l5
    rw [show b.data.toList.length = b.size from rfl] at l1 l2 l3 l4
    obtain ⟨l40, l41, l42⟩ := l4
    obtain ⟨l10, l11⟩ := l1
    generalize lcs a.data.toList b.data.toList = L at *
    generalize lev a.data.toList b.data.toList = D at *
    obtain ⟨M, hM, hMa, hMb, hMo⟩ : ∃ M : Nat, (∀ (ats : Array TypeId) (t : TypeId) (w : World), (Builtin.max_ ats t #[.int .i64 (a.size : Int), .int .i64 (b.size : Int)]).run Try.prog w = .ok (.int .i64 (M : Int)) w) ∧ a.size ≤ M ∧ b.size ≤ M ∧ M = max a.size b.size :=
      ⟨max a.size b.size, fun ats t w => by rw [run_max_int2]; congr 2; omega, by omega, by omega, rfl⟩
    have hX : ∀ (ats : Array TypeId) (t : TypeId) (w : World), (Builtin.max_ ats t #[.int .i64 ((a.size : Int) - (b.size : Int)), .int .i64 ((b.size : Int) - (a.size : Int))]).run Try.prog w = .ok (.int .i64 (((max a.size b.size - min a.size b.size : Nat) : Int))) w := fun ats t w => by
      rw [run_max_int2]; congr 2; omega
    obtain ⟨X, hX0⟩ : ∃ X, X = max a.size b.size - min a.size b.size := ⟨_, rfl⟩
    rw [← hX0] at hX
    have hM200 : M ≤ 200 := by omega
    have hX200 : X ≤ 200 := by omega
    have q1 : decide (X ≤ D) = true := decide_eq_true (by omega)
    have q1' : decide ((X : Int) ≤ (D : Int)) = true := decide_eq_true (by omega)
    have q2 : decide ((M : Int) - (L : Int) ≤ (D : Int)) = true := decide_eq_true (by omega)
    have q3 : decide (D ≤ M) = true := decide_eq_true (by omega)
    have q3' : decide ((D : Int) ≤ (M : Int)) = true := decide_eq_true (by omega)
    have q4 : decide ((D : Int) ≤ (a.size : Int) + (b.size : Int) - 2 * (L : Int)) = true := decide_eq_true (by omega)
    have q5 : decide ((a.size : Int) + (b.size : Int) - 2 * (L : Int) ≤ 2 * (D : Int)) = true := decide_eq_true (by omega)
    have hD200 : D ≤ 200 := by omega
    have S1 := Lib.hid s1
    have S2 := Lib.hid s2
    clear s1 s2 hMo hX0
    go_enter Try.func11, Try.ntmps11
    go_wp2_with fail
    refine (dists_any _).mono ?_
    rintro e w1 ⟨rfl, hb1⟩
    go_wp2_with fail
    refine (sames_any _).mono ?_
    rintro e w2 ⟨rfl, hb2⟩
    go_wp2_with fail
    refine (S1.out _).mono ?_
    rintro e w3 ⟨rfl, hb3⟩
    go_wp2_with fail
    refine (S2.out _).mono ?_
    rintro e w4 ⟨rfl, hb4⟩
    have hbw := chain hb4 (chain hb3 (chain hb2 hb1))
    clear hb1 hb2 hb3 hb4
    go_wp2
    go_ret
    exact ⟨by simp, hbw⟩
  · have h' : 200 < a.size ∨ 200 < b.size := by omega
    have S1 := Lib.hid (dist_no a b h')
    have S2 := Lib.hid (long_no a b h')
    go_enter Try.func11, Try.ntmps11
    go_wp2_with fail
    refine (dists_any _).mono ?_
    rintro e w1 ⟨rfl, hb1⟩
    go_wp2_with fail
    refine (sames_any _).mono ?_
    rintro e w2 ⟨rfl, hb2⟩
    go_wp2_with fail
    refine (S1.out _).mono ?_
    rintro e w3 ⟨rfl, rfl⟩
    go_wp2_with fail
    refine (S2.out _).mono ?_
    rintro e w4 ⟨rfl, rfl⟩
    go_wp2
    go_ret
    exact ⟨rfl, chain hb2 hb1⟩

end Go.Proofs.Ytccbfhaoepomnaa
