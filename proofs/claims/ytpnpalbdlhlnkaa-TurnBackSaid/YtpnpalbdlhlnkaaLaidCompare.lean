/- Compare: contracts of the library laid at this program: the tables of numbers and the facts that they ask. -/
import Derived.Shelf.Small.Strs
import Derived.Test.YtpnpalbdlhlnkaaProg
namespace Go.Proofs.Ytpnpalbdlhlnkaa
open Go.RowKit
set_option linter.unusedVariables false

def layCompare_ren : Go.Shelf.Ren := ⟨fun | 106 => 12 | 213 => 17 | 265 => 38 | n => n, fun | 9 => 9 | 3 => 3 | n => n, fun | n => n⟩
theorem layCompare : Go.Proofs.Lays.n106 Try.prog layCompare_ren := {
  mixed := by kernel_rfl,
  f106 := Try.func12.trans (congrArg some (by kernel_rfl)),
  f213 := Try.func17.trans (congrArg some (by kernel_rfl)),
  f265 := Try.func38.trans (congrArg some (by kernel_rfl)),
  t3 := Try.underlying3,
  a3 := Try.isAgg3,
  z3 := Try.sizeOf3,
  v3 := Try.zeroValue3,
  t9 := Try.underlying9,
  a9 := Try.isAgg9,
  z9 := Try.sizeOf9,
  v9 := Try.zeroValue9 }

end Go.Proofs.Ytpnpalbdlhlnkaa
