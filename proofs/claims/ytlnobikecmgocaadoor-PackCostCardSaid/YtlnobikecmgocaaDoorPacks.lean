/- The walk of the laws' helper packs. -/
import Derived.Test.YtlnobikecmgocaaDoorPackPut
import Derived.Test.YtlnobikecmgocaaDoorCodeFront
namespace Go.Proofs.YtlnobikecmgocaaDoor
open Go.RowKit
set_option linter.unusedVariables false

theorem packFresh_strs (l : List ByteArray) (w : World) : Reads (w.alloc (Obj.cells (l.map Value.string).toArray 9)) (w.heap.size + 1) (some ⟨w.heap.size, 0, none⟩) l.length 1 (l.flatMap cStr) := by
  have h := Reads.of_fresh w (l.map Value.string).toArray 9 l.length 1 (by simp)
  have e : ∀ l : List ByteArray, (l.map Value.string).toArray.toList = l.flatMap cStr := fun l => by
    rw [List.toList_toArray]
    induction l with
    | nil => rfl
    | cons x l ih => rw [List.map_cons, List.flatMap_cons, ← ih]; rfl
  rwa [e] at h
theorem packFresh_ints (l : List Int) (w : World) : Reads (w.alloc (Obj.cells (l.map (Value.int .i64)).toArray 3)) (w.heap.size + 1) (some ⟨w.heap.size, 0, none⟩) l.length 1 (l.flatMap cInt) := by
  have h := Reads.of_fresh w (l.map (Value.int .i64)).toArray 3 l.length 1 (by simp)
  have e : ∀ l : List Int, (l.map (Value.int .i64)).toArray.toList = l.flatMap cInt := fun l => by
    rw [List.toList_toArray]
    induction l with
    | nil => rfl
    | cons x l ih => rw [List.map_cons, List.flatMap_cons, ← ih]; rfl
  rwa [e] at h
theorem packs_plain : packOk [⟨#[48]⟩, ⟨#[49, 48]⟩, ⟨#[49, 49]⟩] [1, 0, 2] ∧ (⟨(joinW [⟨#[48]⟩, ⟨#[49, 48]⟩, ⟨#[49, 49]⟩] [1, 0, 2]).toArray⟩ : ByteArray) = ⟨#[49, 48, 48, 49, 49]⟩ := by
  refine ⟨⟨by decide +kernel, by decide, fun k hk => ?_⟩, by decide +kernel⟩
  simp only [List.mem_cons, List.not_mem_nil, or_false] at hk
  rcases hk with rfl | rfl | rfl <;> decide

set_option maxRecDepth 100000 in
set_option maxHeartbeats 2000000 in
theorem packs_any (w : World) : Calls Tryd.prog 5 #[] w fun e w' => e = .returned (.bool true) ∧ Below w.heap.size w w' := by
  have P := Lib.hid packs_plain
  have r1 := packFresh_strs [⟨#[48]⟩, ⟨#[49, 48]⟩, ⟨#[49, 49]⟩] w
  have r2 := packFresh_ints [1, 0, 2] (w.alloc (Obj.cells #[.string ⟨#[48]⟩, .string ⟨#[49, 48]⟩, .string ⟨#[49, 49]⟩] 9))
  have r1' := (show Reads (w.alloc (Obj.cells #[.string ⟨#[48]⟩, .string ⟨#[49, 48]⟩, .string ⟨#[49, 49]⟩] 9)) _ _ _ _ _ from r1).alloc (by simp) (Obj.cells #[.int .i64 1, .int .i64 0, .int .i64 2] 3)
  rw [show (w.alloc (Obj.cells #[.string ⟨#[48]⟩, .string ⟨#[49, 48]⟩, .string ⟨#[49, 49]⟩] 9)).heap.size = w.heap.size + 1 from by simp] at r2
  have hP := packPut_any (some ⟨w.heap.size, 0, none⟩) 3 3 (w.heap.size + 1) [⟨#[48]⟩, ⟨#[49, 48]⟩, ⟨#[49, 49]⟩] (some ⟨w.heap.size + 1, 0, none⟩) 3 3 (w.heap.size + 1 + 1) [1, 0, 2]
    ((w.alloc (Obj.cells #[.string ⟨#[48]⟩, .string ⟨#[49, 48]⟩, .string ⟨#[49, 49]⟩] 9)).alloc (Obj.cells #[.int .i64 1, .int .i64 0, .int .i64 2] 3)) (by decide) (by decide) rfl (by decide) (by decide) rfl r1' (by simp) r2 (by simp)
  have HP := Lib.hid hP
  have hb0 : Below w.heap.size w ((w.alloc (Obj.cells #[.string ⟨#[48]⟩, .string ⟨#[49, 48]⟩, .string ⟨#[49, 49]⟩] 9)).alloc (Obj.cells #[.int .i64 1, .int .i64 0, .int .i64 2] 3)) := ((Below.refl _ _).alloc (Nat.le_refl _) _).alloc (by simp) _
  clear r1 r2 r1' hP
  go_enter Tryd.func5, Tryd.ntmps5
  go_wp2_with fail
  refine HP.out.mono ?_
  rintro e w1 ⟨hb1, ⟨_, rfl⟩ | ⟨hno, _⟩⟩
  case inr => exact absurd P.out.1 hno
  have hb := chain hb1 hb0
  rw [P.out.2]
  go_wp2
  go_ret
  exact ⟨by first | rfl | simp, hb⟩

end Go.Proofs.YtlnobikecmgocaaDoor
