/- Contains: contracts of the library laid at this program: the tables of numbers and the facts that they ask. -/
import Derived.Shelf.Strings.Search3
import Derived.Test.YtkeeggklgdinhaaProg
namespace Go.Proofs.Ytkeeggklgdinhaa
open Go.RowKit
set_option linter.unusedVariables false

def laysCn_ren : Go.Shelf.Ren := ⟨fun | 144 => 11 | 143 => 20 | 219 => 26 | 217 => 32 | 225 => 33 | 224 => 34 | 267 => 35 | 266 => 38 | 314 => 39 | n => n, fun | 9 => 9 | 4 => 4 | 3 => 3 | 5 => 5 | 46 => 70 | 146 => 73 | 51 => 72 | n => n, fun | 1 => 0 | n => n⟩
theorem laysCn : Go.Proofs.Lays.n144 Try.prog laysCn_ren := {
  mixed := by kernel_rfl,
  f143 := Try.func20.trans (congrArg some (by kernel_rfl)),
  f144 := Try.func11.trans (congrArg some (by kernel_rfl)),
  f217 := Try.func32.trans (congrArg some (by kernel_rfl)),
  f219 := Try.func26.trans (congrArg some (by kernel_rfl)),
  f224 := Try.func34.trans (congrArg some (by kernel_rfl)),
  f225 := Try.func33.trans (congrArg some (by kernel_rfl)),
  f266 := Try.func38.trans (congrArg some (by kernel_rfl)),
  f267 := Try.func35.trans (congrArg some (by kernel_rfl)),
  f314 := Try.func39.trans (congrArg some (by kernel_rfl)),
  t3 := Try.underlying3,
  a3 := Try.isAgg3,
  z3 := Try.sizeOf3,
  v3 := Try.zeroValue3,
  t4 := Try.underlying4,
  a4 := Try.isAgg4,
  z4 := Try.sizeOf4,
  v4 := Try.zeroValue4,
  t5 := Try.underlying5,
  a5 := Try.isAgg5,
  z5 := Try.sizeOf5,
  v5 := Try.zeroValue5,
  t9 := Try.underlying9,
  a9 := Try.isAgg9,
  z9 := Try.sizeOf9,
  v9 := Try.zeroValue9,
  t46 := Try.underlying70,
  a46 := Try.isAgg70,
  z46 := Try.sizeOf70,
  v46 := Try.zeroValue70,
  t51 := Try.underlying72,
  a51 := Try.isAgg72,
  z51 := Try.sizeOf72,
  v51 := Try.zeroValue72,
  t146 := Try.underlying73,
  a146 := Try.isAgg73,
  z146 := Try.sizeOf73,
  v146 := Try.zeroValue73,
  g1 := by kernel_rfl }

end Go.Proofs.Ytkeeggklgdinhaa
