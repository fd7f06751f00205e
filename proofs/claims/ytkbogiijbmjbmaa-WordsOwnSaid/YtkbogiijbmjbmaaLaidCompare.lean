/- Compare: contracts of the library laid at this program: the tables of numbers and the facts that they ask. -/
import Derived.Shelf.Small.Strs
import Derived.Test.YtkbogiijbmjbmaaProg
namespace Go.Proofs.Ytkbogiijbmjbmaa
open Go.RowKit
set_option linter.unusedVariables false

def layCompare_ren : Go.Shelf.Ren := ⟨fun | 106 => 27 | 213 => 40 | 265 => 55 | n => n, fun | 9 => 9 | 3 => 3 | n => n, fun | n => n⟩
theorem layCompare : Go.Proofs.Lays.n106 Try.prog layCompare_ren := {
  mixed := by kernel_rfl,
  f106 := Try.func27.trans (congrArg some (by kernel_rfl)),
  f213 := Try.func40.trans (congrArg some (by kernel_rfl)),
  f265 := Try.func55.trans (congrArg some (by kernel_rfl)),
  t3 := Try.underlying3,
  a3 := Try.isAgg3,
  z3 := Try.sizeOf3,
  v3 := Try.zeroValue3,
  t9 := Try.underlying9,
  a9 := Try.isAgg9,
  z9 := Try.sizeOf9,
  v9 := Try.zeroValue9 }

end Go.Proofs.Ytkbogiijbmjbmaa
