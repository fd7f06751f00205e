/- The walk of the helper works. -/
import Derived.Test.YtmephgemokngnaaTurnWalk
import Derived.Test.YtmephgemokngnaaEditLaws
import Derived.Test.YtmephgemokngnaaGoodT
namespace Go.Proofs.Ytmephgemokngnaa
open Go.RowKit
set_option linter.unusedVariables false

theorem works_hello : checkE 5 [(0, 1, ⟨#[74]⟩)] = 0 ∧ app [104, 101, 108, 108, 111] 0 [(0, 1, ⟨#[74]⟩)] = [74, 101, 108, 108, 111] := by decide +kernel
set_option maxRecDepth 100000 in
set_option maxHeartbeats 1000000 in
theorem works_any (w : World) : Calls Try.prog 11 #[] w fun e w' => e = .returned (.bool true) ∧ Below w.heap.size w w' := by
  have hP := Lib.hid (turnPut_ok ⟨#[98, 97, 110, 97, 110, 97]⟩ (by decide))
  have hB : IsOrd (⟨#[98, 97, 110, 97, 110, 97]⟩ : ByteArray).data.toList [5, 3, 1, 0, 4, 2] := ⟨by decide, by unfold ltR; decide⟩
  have c1 : ∀ w A c, Reads w w.heap.size A 1 3 [.int .i64 0, .int .i64 1, .string ⟨#[74]⟩] → Calls Try.prog 27 #[.string ⟨#[104, 101, 108, 108, 111]⟩, .slice A 1 c] w fun e w' => e = .returned (.tuple #[.string ⟨#[74, 101, 108, 108, 111]⟩, .int .i64 0]) ∧ Below w.heap.size w w' := fun w A c h => by
    have := apply_ok ⟨#[104, 101, 108, 108, 111]⟩ A 1 c w.heap.size [(0, 1, ⟨#[74]⟩)] rfl works_hello.1 w h (Nat.le_refl _)
    have e := works_hello.2
    have e1 : (ByteArray.mk #[104, 101, 108, 108, 111]).data.toList = [104, 101, 108, 108, 111] := rfl
    rw [e1, e] at this
    exact this
  have C1 := Lib.hid c1
  clear c1
  have hbd := buildEdit
  go_enter Try.func11, Try.ntmps11
  go_wp2_with fail
  refine (hP.out _).mono ?_
  rintro e w1 ⟨o, ho, rfl, hb1⟩
  obtain rfl := ho.unique hB
  have e1 : (⟨(lastB (⟨#[98, 97, 110, 97, 110, 97]⟩ : ByteArray).data.toList [5, 3, 1, 0, 4, 2]).toArray⟩ : ByteArray) = ⟨#[110, 110, 98, 97, 97, 97]⟩ := by decide
  have e2 : zeroAt [5, 3, 1, 0, 4, 2] = 3 := by decide
  rw [e1, e2]
  clear e1 e2 ho hB hP
  go_wp2_with fail
  refine (C1.out _ _ _ (Reads.made w1 #[.int .i64 0, .int .i64 1, .string ⟨#[74]⟩] _ 1 3 rfl)).mono ?_
  rintro e w2 ⟨rfl, hb2⟩
  have hb3 : Below w.heap.size w w2 := (hb1.alloc hb1.size _).trans (hb2.mono (by have := hb1.size; simp; omega))
  go_wp2
  all_goals (go_ret; exact ⟨by first | rfl | simp, hb3⟩)
end Go.Proofs.Ytmephgemokngnaa
