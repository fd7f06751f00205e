/- Contains: contracts of the library laid at this program: the tables of numbers and the facts that they ask. -/
import Derived.Shelf.Strings.Search3
import Derived.Test.YtbcendaiakeabaaProg
namespace Go.Proofs.Ytbcendaiakeabaa
open Go.RowKit
set_option linter.unusedVariables false

def laysCn_ren : Go.Shelf.Ren := ⟨fun | 144 => 39 | 143 => 67 | 219 => 84 | 217 => 100 | 225 => 101 | 224 => 102 | 267 => 103 | 266 => 111 | 314 => 112 | n => n, fun | 9 => 9 | 4 => 4 | 3 => 3 | 5 => 5 | 46 => 71 | 146 => 100 | 51 => 99 | n => n, fun | 1 => 0 | n => n⟩
theorem laysCn : Go.Proofs.Lays.n144 Try.prog laysCn_ren := {
  mixed := by kernel_rfl,
  f143 := Try.func67.trans (congrArg some (by kernel_rfl)),
  f144 := Try.func39.trans (congrArg some (by kernel_rfl)),
  f217 := Try.func100.trans (congrArg some (by kernel_rfl)),
  f219 := Try.func84.trans (congrArg some (by kernel_rfl)),
  f224 := Try.func102.trans (congrArg some (by kernel_rfl)),
  f225 := Try.func101.trans (congrArg some (by kernel_rfl)),
  f266 := Try.func111.trans (congrArg some (by kernel_rfl)),
  f267 := Try.func103.trans (congrArg some (by kernel_rfl)),
  f314 := Try.func112.trans (congrArg some (by kernel_rfl)),
  t3 := Try.underlying3,
  a3 := Try.isAgg3,
  z3 := Try.sizeOf3,
  v3 := Try.zeroValue3,
  t4 := Try.underlying4,
  a4 := Try.isAgg4,
  z4 := Try.sizeOf4,
  v4 := Try.zeroValue4,
  t5 := Try.underlying5,
  a5 := Try.isAgg5,
  z5 := Try.sizeOf5,
  v5 := Try.zeroValue5,
  t9 := Try.underlying9,
  a9 := Try.isAgg9,
  z9 := Try.sizeOf9,
  v9 := Try.zeroValue9,
  t46 := Try.underlying71,
  a46 := Try.isAgg71,
  z46 := Try.sizeOf71,
  v46 := Try.zeroValue71,
  t51 := Try.underlying99,
  a51 := Try.isAgg99,
  z51 := Try.sizeOf99,
  v51 := Try.zeroValue99,
  t146 := Try.underlying100,
  a146 := Try.isAgg100,
  z146 := Try.sizeOf100,
  v146 := Try.zeroValue100,
  g1 := by kernel_rfl }

end Go.Proofs.Ytbcendaiakeabaa
