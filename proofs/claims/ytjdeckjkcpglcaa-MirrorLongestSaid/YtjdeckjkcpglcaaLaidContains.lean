/- Contains: contracts of the library laid at this program: the tables of numbers and the facts that they ask. -/
import Derived.Shelf.Strings.Search3
import Derived.Test.YtjdeckjkcpglcaaProg
namespace Go.Proofs.Ytjdeckjkcpglcaa
open Go.RowKit
set_option linter.unusedVariables false

def laysCn_ren : Go.Shelf.Ren := ⟨fun | 144 => 9 | 143 => 16 | 219 => 21 | 217 => 25 | 225 => 26 | 224 => 27 | 267 => 28 | 266 => 40 | 314 => 41 | n => n, fun | 9 => 9 | 4 => 4 | 3 => 3 | 5 => 5 | 46 => 50 | 146 => 66 | 51 => 63 | n => n, fun | 1 => 0 | n => n⟩
theorem laysCn : Go.Proofs.Lays.n144 Try.prog laysCn_ren := {
  mixed := by kernel_rfl,
  f143 := Try.func16.trans (congrArg some (by kernel_rfl)),
  f144 := Try.func9.trans (congrArg some (by kernel_rfl)),
  f217 := Try.func25.trans (congrArg some (by kernel_rfl)),
  f219 := Try.func21.trans (congrArg some (by kernel_rfl)),
  f224 := Try.func27.trans (congrArg some (by kernel_rfl)),
  f225 := Try.func26.trans (congrArg some (by kernel_rfl)),
  f266 := Try.func40.trans (congrArg some (by kernel_rfl)),
  f267 := Try.func28.trans (congrArg some (by kernel_rfl)),
  f314 := Try.func41.trans (congrArg some (by kernel_rfl)),
  t3 := Try.underlying3,
  a3 := Try.isAgg3,
  z3 := Try.sizeOf3,
  v3 := Try.zeroValue3,
  t4 := Try.underlying4,
  a4 := Try.isAgg4,
  z4 := Try.sizeOf4,
  v4 := Try.zeroValue4,
  t5 := Try.underlying5,
  a5 := Try.isAgg5,
  z5 := Try.sizeOf5,
  v5 := Try.zeroValue5,
  t9 := Try.underlying9,
  a9 := Try.isAgg9,
  z9 := Try.sizeOf9,
  v9 := Try.zeroValue9,
  t46 := Try.underlying50,
  a46 := Try.isAgg50,
  z46 := Try.sizeOf50,
  v46 := Try.zeroValue50,
  t51 := Try.underlying63,
  a51 := Try.isAgg63,
  z51 := Try.sizeOf63,
  v51 := Try.zeroValue63,
  t146 := Try.underlying66,
  a146 := Try.isAgg66,
  z146 := Try.sizeOf66,
  v146 := Try.zeroValue66,
  g1 := by kernel_rfl }

end Go.Proofs.Ytjdeckjkcpglcaa
