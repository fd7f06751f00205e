/- The laws' helper edits, and facts on slices of edits. -/
import Derived.Test.YtgoofbbbnphncaaDoorApply
import Derived.Test.YtgoofbbbnphncaaDoorArgs
import Derived.Test.YtgoofbbbnphncaaDoorSlice
import Derived.Test.YtgoofbbbnphncaaDoorKeep
namespace Go.Proofs.YtgoofbbbnphncaaDoor
open Go.RowKit
set_option linter.unusedVariables false

theorem edits_hello : checkE 5 [(0, 1, ⟨#[74]⟩), (5, 0, ⟨#[33]⟩)] = 0 ∧ app [104, 101, 108, 108, 111] 0 [(0, 1, ⟨#[74]⟩), (5, 0, ⟨#[33]⟩)] = [74, 101, 108, 108, 111, 33] := by decide +kernel

set_option maxHeartbeats 1000000 in
theorem edits_any (w : World) : Calls Tryd.prog 23 #[] w fun e w' => e = .returned (.bool true) ∧ Below w.heap.size w w' := by
  have c1 : ∀ w A c, Reads w w.heap.size A 2 3 [.int .i64 0, .int .i64 1, .string ⟨#[74]⟩, .int .i64 5, .int .i64 0, .string ⟨#[33]⟩] → Calls Tryd.prog 58 #[.string ⟨#[104, 101, 108, 108, 111]⟩, .slice A 2 c] w fun e w' => e = .returned (.tuple #[.string ⟨#[74, 101, 108, 108, 111, 33]⟩, .int .i64 0]) ∧ Below w.heap.size w w' := fun w A c h => by
    have := apply_ok ⟨#[104, 101, 108, 108, 111]⟩ A 2 c w.heap.size [(0, 1, ⟨#[74]⟩), (5, 0, ⟨#[33]⟩)] rfl edits_hello.1 w h (Nat.le_refl _)
    have e := edits_hello.2
    have e1 : (ByteArray.mk #[104, 101, 108, 108, 111]).data.toList = [104, 101, 108, 108, 111] := rfl
    rw [e1, e] at this
    exact this
  have C1 := Lib.hid c1
  clear c1
  have hbd := buildEdit
  go_enter Tryd.func23, Tryd.ntmps23
  go_wp2_with fail
  refine (C1.out _ _ _ (Reads.made w #[.int .i64 0, .int .i64 1, .string ⟨#[74]⟩, .int .i64 5, .int .i64 0, .string ⟨#[33]⟩] _ 2 3 rfl)).mono ?_
  rintro e w1 ⟨rfl, hb1⟩
  go_wp2
  go_ret
  exact ⟨rfl, ((Below.refl _ _).alloc (Nat.le_refl _) _).trans (hb1.mono (by simp))⟩

theorem sizeEdit (w : World) : (sizeOf (Tryd.prog.elem 23)).run Tryd.prog w = .ok 3 w := by
  rw [show Tryd.prog.elem 23 = 42 from by kernel_rfl]
  exact Tryd.sizeOf42 w

theorem infoEdit : (Tryd.prog.info? 42).map (fun i => (i.zero, i.size, i.bytes)) = some (some (.agg #[.int .i64 0, .int .i64 0, .string ⟨#[]⟩]), 3, 32) := by kernel_rfl

end Go.Proofs.YtgoofbbbnphncaaDoor
