/- The walk of the laws' helper scripts. -/
import Derived.Test.YtigbnldmjafgmaaDoorWriteWalk
import Derived.Test.YtigbnldmjafgmaaDoorReadWalk
import Derived.Test.YtigbnldmjafgmaaDoorSlice
namespace Go.Proofs.YtigbnldmjafgmaaDoor
open Go.RowKit
set_option linter.unusedVariables false

theorem scripts_known : writeL [(3, 2, ⟨#[97, 59]⟩), (9, 1, ⟨#[]⟩)] = [51, 32, 50, 32, 50, 58, 97, 59, 59, 57, 32, 49, 32, 48, 58, 59] := by decide +kernel
end Go.Proofs.YtigbnldmjafgmaaDoor
