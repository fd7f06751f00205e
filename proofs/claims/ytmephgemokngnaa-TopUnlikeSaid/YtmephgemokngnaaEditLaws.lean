/- The laws' helper edits, and facts on slices of edits. -/
import Derived.Test.YtmephgemokngnaaApply
import Derived.Test.YtmephgemokngnaaArgs
import Derived.Test.YtmephgemokngnaaSlice
import Derived.Test.YtmephgemokngnaaKeep
namespace Go.Proofs.Ytmephgemokngnaa
open Go.RowKit
set_option linter.unusedVariables false

theorem edits_hello : checkE 5 [(0, 1, ⟨#[74]⟩), (5, 0, ⟨#[33]⟩)] = 0 ∧ app [104, 101, 108, 108, 111] 0 [(0, 1, ⟨#[74]⟩), (5, 0, ⟨#[33]⟩)] = [74, 101, 108, 108, 111, 33] := by decide +kernel


theorem sizeEdit (w : World) : (sizeOf (Try.prog.elem 52)).run Try.prog w = .ok 3 w := by
  rw [show Try.prog.elem 52 = 51 from by kernel_rfl]
  exact Try.sizeOf51 w

theorem infoEdit : (Try.prog.info? 51).map (fun i => (i.zero, i.size, i.bytes)) = some (some (.agg #[.int .i64 0, .int .i64 0, .string ⟨#[]⟩]), 3, 32) := by kernel_rfl

end Go.Proofs.Ytmephgemokngnaa
