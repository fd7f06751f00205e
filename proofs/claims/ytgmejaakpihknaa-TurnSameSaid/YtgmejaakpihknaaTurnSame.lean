/- TurnSame's walk: all rotations of a string have the same transform. -/
import Derived.Test.YtgmejaakpihknaaTurnOf
import Derived.Test.YtgmejaakpihknaaKeep
import Derived.Deep.RegionHeld3
namespace Go.Proofs.Ytgmejaakpihknaa
open Go.RowKit
set_option linter.unusedVariables false

/-- A word turned. -/
def turnX (s : ByteArray) (k : Nat) : ByteArray := s.extract k s.size ++ s.extract 0 k
theorem turnX_list (s : ByteArray) (k : Nat) : (turnX s k).data.toList = s.data.toList.drop k ++ s.data.toList.take k := by
  unfold turnX
  rw [ByteArray.data_append, Array.toList_append, Lib.extract_data, Lib.extract_data, Nat.sub_zero, List.drop_zero, List.take_of_length_le]
  rw [List.length_drop]; exact Nat.le_refl _
theorem turnX_size (s : ByteArray) (k : Nat) (h : k ≤ s.size) : (turnX s k).size = s.size := by
  have := congrArg List.length (turnX_list s k)
  rw [List.length_append, List.length_drop, List.length_take] at this
  have e : s.data.toList.length = s.size := rfl
  have e2 : (turnX s k).data.toList.length = (turnX s k).size := rfl
  omega

theorem putT_turn (s : ByteArray) (k : Nat) (hk : k ≤ s.size) : putT (turnX s k) = putT s ∧ putE (turnX s k) = putE s := by
  unfold putT putE
  rw [turnX_size s k hk]
  refine ⟨?_, rfl⟩
  by_cases h : s.size ≤ 200
  · rw [if_pos h, if_pos h]
    have : tOf (turnX s k).data.toList = tOf s.data.toList := by
      rw [turnX_list]
      exact turn_same (s := s.data.toList) (k := k) hk (ordOf_is _) (ordOf_is (rotL s.data.toList k))
    rw [this]
  · rw [if_neg h, if_neg h]

set_option maxHeartbeats 1000000 in
theorem turnSame_walk (s : ByteArray) (k0 : Int) (hs0 : s.size ≤ 140737488351232) (hk0 : (Lit.int .i64 k0).wf = true) (w : World) :
    Calls Try.prog 6 #[.string s, .int .i64 k0] w fun e w' => e = .returned (.bool true) ∧ Below w.heap.size w w' := by
  obtain ⟨k, hk, hkm⟩ : ∃ k : Nat, k0 % ((s.size : Int) + 1) = k ∧ k ≤ s.size := by
    have h1 := Int.emod_nonneg k0 (show ((s.size : Int) + 1) ≠ 0 by omega)
    have h2 := Int.emod_lt_of_pos k0 (show 0 < ((s.size : Int) + 1) by omega)
    exact ⟨(k0 % ((s.size : Int) + 1)).toNat, by omega, by omega⟩
  have hw1 : ∀ w, Calls Try.prog 17 #[.int .i64 k0, .int .i64 ((s.size : Int) + 1)] w fun e w' => e = .returned (.int .i64 (k : Int)) ∧ w = w' := fun w => by
    have := within_any k0 ((s.size : Int) + 1) (by omega) (by omega) w
    rwa [hk] at this
  have Hw1 := Lib.hid hw1
  clear hw1 hk
  have hks : (k : Int) ≤ s.size := by omega
  have H1 := Lib.hid (turnPut_any s)
  have h2 := turnPut_any (turnX s k)
  obtain ⟨e1, e2⟩ := putT_turn s k hkm
  rw [e1, e2] at h2
  have H2 := Lib.hid h2
  have hca : ∀ w, (Op.stringOp .add (s.extract k s.size) (s.extract 0 k)).run Try.prog w = .ok (.string (turnX s k)) w := fun w => run_string_add_sum w _ _ (by simp; omega)
  clear e1 e2 h2
  generalize putA (turnX s k) = A2 at *
  generalize putA s = A1 at *
  generalize putT s = t at *
  generalize putE s = E at *
  generalize turnX s k = u at *
  have q1 : ((E : Int) == E) = true := by simp
  have q4 : (t.toList == t.toList) = true := by simp
  go_enter Try.func6, Try.ntmps6
  go_wp2_with fail
  refine (turns_any _).mono ?_
  rintro e w1 ⟨rfl, hb1⟩
  go_wp2_with fail
  refine (Hw1.out _).mono ?_
  rintro e w2 ⟨rfl, rfl⟩
  go_wp2_with fail
  refine (H1.out _).mono ?_
  rintro e w2 ⟨rfl, hb2⟩
  have hbw := chain hb2 hb1
  clear hb1 hb2
  go_wp2_with fail
  go_region_held3 (fun w' => Below w.heap.size w w') (first | exact hbw.drew | assumption | exact chain (by assumption) (by assumption))
    ((go_at_call 19; refine (H2.out _).mono ?_; rintro e w6 ⟨rfl, hb6⟩))
  have hbw6 : Below w.heap.size w w6 := by assumption
  go_wp2
  go_ret
  exact ⟨by simp, hbw6⟩
end Go.Proofs.Ytgmejaakpihknaa
