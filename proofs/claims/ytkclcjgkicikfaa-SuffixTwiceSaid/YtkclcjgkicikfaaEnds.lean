/- suffix.Common where it refuses; the walk of the laws' helper ends. -/
import Derived.Test.YtkclcjgkicikfaaCommonWalk
import Derived.Test.YtkclcjgkicikfaaEqual
import Derived.Test.YtkclcjgkicikfaaGood
namespace Go.Proofs.Ytkclcjgkicikfaa
open Go.RowKit
set_option linter.unusedVariables false

set_option maxHeartbeats 1000000 in
theorem common_no (s : ByteArray) (hs : 200 < s.size) (w : World) : Calls Try.prog 9 #[.string s] w fun e w' => e = .returned (.tuple #[.slice none 0 0, .int .i64 2]) ∧ RowKit.Below w.heap.size w w' := by
  have H1 := Lib.hid (order_no s hs)
  go_enter Try.func9, Try.ntmps9
  go_wp2_with fail
  refine (H1.out _).mono ?_
  rintro e w1 ⟨rfl, hb1⟩
  go_wp2
  go_ret2
  exact ⟨rfl, hb1⟩
theorem fresh_ints3 (l : List Int) (w : World) : Reads (w.alloc (Obj.cells (l.map (Value.int .i64)).toArray 3)) (w.heap.size + 1) (some ⟨w.heap.size, 0, none⟩) l.length 1 (l.flatMap cInt) := by
  have h := Reads.of_fresh w (l.map (Value.int .i64)).toArray 3 l.length 1 (by simp)
  have e : ∀ l : List Int, (l.map (Value.int .i64)).toArray.toList = l.flatMap cInt := fun l => by
    rw [List.toList_toArray]
    induction l with
    | nil => rfl
    | cons x l ih => rw [List.map_cons, List.flatMap_cons, ← ih]; rfl
  rwa [e] at h
end Go.Proofs.Ytkclcjgkicikfaa
