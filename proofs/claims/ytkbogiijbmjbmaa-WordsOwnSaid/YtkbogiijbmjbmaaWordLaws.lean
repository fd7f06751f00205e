/- The walk of the laws' helper words; word.Root at every text. -/
import Derived.Test.YtkbogiijbmjbmaaWordWalk
import Derived.Test.YtkbogiijbmjbmaaWordLaw
import Derived.Test.YtkbogiijbmjbmaaEqual
import Derived.Test.YtkbogiijbmjbmaaGood
namespace Go.Proofs.Ytkbogiijbmjbmaa
open Go.RowKit
set_option linter.unusedVariables false

theorem words_known : nI (periodsOf (ByteArray.mk #[97, 98, 97, 97, 98, 97]).data.toList) = [3, 5, 6] ∧ bordersOf (ByteArray.mk #[97, 98, 97, 97, 98, 97]).data.toList = [0, 0, 1, 1, 2, 3] := by decide +kernel

set_option maxHeartbeats 1000000 in
theorem words_any (w : World) : Calls Try.prog 4 #[] w fun e w' => e = .returned (.bool true) ∧ Below w.heap.size w w' := by
  have c1 : ∀ w, Calls Try.prog 18 #[.string ⟨#[97, 98, 97, 97, 98, 97]⟩] w fun e w' => ∃ A c, e = .returned (.tuple #[.slice A 3 c, .int .i64 0]) ∧ Reads w' w'.heap.size A 3 1 [.int .i64 3, .int .i64 5, .int .i64 6] ∧ Below w.heap.size w w' := fun w =>
    (periods_ok ⟨#[97, 98, 97, 97, 98, 97]⟩ (by decide) w).mono fun e w' ⟨A, c, he, hr, hb, _⟩ => by
      rw [words_known.1] at he hr
      exact ⟨A, c, he, hr, hb⟩
  have c2 : ∀ w, Calls Try.prog 9 #[.string ⟨#[97, 98, 97, 97, 98, 97]⟩] w fun e w' => ∃ A, e = .returned (.tuple #[.slice A 6 6, .int .i64 0]) ∧ Reads w' w'.heap.size A 6 1 [.int .i64 0, .int .i64 0, .int .i64 1, .int .i64 1, .int .i64 2, .int .i64 3] ∧ Below w.heap.size w w' := fun w =>
    (borders_ok ⟨#[97, 98, 97, 97, 98, 97]⟩ (by decide) w).mono fun e w' ⟨A, he, hr, hb⟩ => by
      rw [words_known.2] at hr
      exact ⟨A, he, hr, hb⟩
  have C1 := Lib.hid c1
  have C2 := Lib.hid c2
  clear c1 c2
  go_enter Try.func4, Try.ntmps4
  go_wp2_with fail
  refine (C1.out _).mono ?_
  rintro e w1 ⟨A1, c1, rfl, hr1, hb1⟩
  go_wp2_with fail
  refine (C2.out _).mono ?_
  rintro e w2 ⟨A2, rfl, hr2, hb2⟩
  have hr1' := hr1.after hb2
  have hbw := chain hb2 hb1
  clear hb1 hb2 hr1
  go_wp2_with fail
  refine (good_fresh [0, 0] 2 2 rfl (by decide) _ _).mono ?_
  rintro e w3 ⟨rfl, hb3⟩
  have q0 : ([0, 0] : List Int).all (· == 0) = true := by decide
  have hr1 := hr1'.after hb3
  have hr2' := hr2.after hb3
  have hbw3 := chain hb3 hbw
  clear hb3 hbw hr1' hr2
  go_wp2_with fail
  refine (equalInt_any A1 _ 3 3 c1 3 _ _ [3, 5, 6] [3, 5, 6] _ (by decide) (by decide) rfl rfl (hr1.alloc (Nat.le_refl _) _) (Reads.of_fresh w3 #[.int .i64 3, .int .i64 5, .int .i64 6] _ 3 1 rfl)).mono ?_
  rintro e w4 ⟨rfl, hb4⟩
  have q1 : decide (([3, 5, 6] : List Int) = [3, 5, 6]) = true := by decide
  have hbw4 : Below w.heap.size w w4 := (hbw3.alloc hbw3.size _).trans (hb4.mono (by have := hbw3.size; simp; omega))
  have hr2 := ((hr2'.alloc (Nat.le_refl _) (.cells #[.int .i64 3, .int .i64 5, .int .i64 6] 3)).below (hb4.mono (by simp))).more (B' := w4.heap.size) (by have := hb4.size; simp at this; omega)
  clear hb4 hbw3 hr2'
  go_wp2_with fail
  refine (equalInt_any A2 _ 6 6 6 6 _ _ [0, 0, 1, 1, 2, 3] [0, 0, 1, 1, 2, 3] _ (by decide) (by decide) rfl rfl (hr2.alloc (Nat.le_refl _) _) (Reads.of_fresh w4 #[.int .i64 0, .int .i64 0, .int .i64 1, .int .i64 1, .int .i64 2, .int .i64 3] _ 6 1 rfl)).mono ?_
  rintro e w5 ⟨rfl, hb5⟩
  have q2 : decide (([0, 0, 1, 1, 2, 3] : List Int) = [0, 0, 1, 1, 2, 3]) = true := by decide
  have hbw5 : Below w.heap.size w w5 := (hbw4.alloc hbw4.size _).trans (hb5.mono (by have := hbw4.size; simp; omega))
  go_wp2
  go_ret
  exact ⟨by simp, hbw5⟩


end Go.Proofs.Ytkbogiijbmjbmaa
