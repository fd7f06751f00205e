/- The laws' helper edits, and facts on slices of edits. -/
import Derived.Test.YtmephgemokngnaaDoorApply
import Derived.Test.YtmephgemokngnaaDoorArgs
import Derived.Test.YtmephgemokngnaaDoorSlice
import Derived.Test.YtmephgemokngnaaDoorKeep
namespace Go.Proofs.YtmephgemokngnaaDoor
open Go.RowKit
set_option linter.unusedVariables false

theorem edits_hello : checkE 5 [(0, 1, ⟨#[74]⟩), (5, 0, ⟨#[33]⟩)] = 0 ∧ app [104, 101, 108, 108, 111] 0 [(0, 1, ⟨#[74]⟩), (5, 0, ⟨#[33]⟩)] = [74, 101, 108, 108, 111, 33] := by decide +kernel


theorem sizeEdit (w : World) : (sizeOf (Tryd.prog.elem 22)).run Tryd.prog w = .ok 3 w := by
  rw [show Tryd.prog.elem 22 = 37 from by kernel_rfl]
  exact Tryd.sizeOf37 w

theorem infoEdit : (Tryd.prog.info? 37).map (fun i => (i.zero, i.size, i.bytes)) = some (some (.agg #[.int .i64 0, .int .i64 0, .string ⟨#[]⟩]), 3, 32) := by kernel_rfl

end Go.Proofs.YtmephgemokngnaaDoor
