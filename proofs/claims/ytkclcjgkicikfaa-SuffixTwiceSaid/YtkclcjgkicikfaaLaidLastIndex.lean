/- LastIndex: contracts of the library laid at this program: the tables of numbers and the facts that they ask. -/
import Derived.Shelf.Strings.LastIndexAll
import Derived.Shelf.LaysM
import Derived.Test.YtkclcjgkicikfaaProg
namespace Go.Proofs.Ytkclcjgkicikfaa
open Go.RowKit
set_option linter.unusedVariables false

def laysLx_ren : Go.Shelf.Ren := ⟨fun | 148 => 6 | 222 => 11 | 223 => 12 | 269 => 22 | n => n, fun | 9 => 9 | 3 => 3 | 4 => 4 | 5 => 5 | 146 => 38 | 51 => 37 | 46 => 36 | 20 => 20 | n => n, fun | n => n⟩
theorem laysLx : Go.Proofs.Lays.n148 Try.prog laysLx_ren := {
  mixed := by kernel_rfl,
  f148 := Try.func6.trans (congrArg some (by kernel_rfl)),
  f222 := Try.func11.trans (congrArg some (by kernel_rfl)),
  f223 := Try.func12.trans (congrArg some (by kernel_rfl)),
  f269 := Try.func22.trans (congrArg some (by kernel_rfl)),
  t3 := Try.underlying3,
  a3 := Try.isAgg3,
  z3 := Try.sizeOf3,
  v3 := Try.zeroValue3,
  t4 := Try.underlying4,
  a4 := Try.isAgg4,
  z4 := Try.sizeOf4,
  v4 := Try.zeroValue4,
  t5 := Try.underlying5,
  a5 := Try.isAgg5,
  z5 := Try.sizeOf5,
  v5 := Try.zeroValue5,
  t9 := Try.underlying9,
  a9 := Try.isAgg9,
  z9 := Try.sizeOf9,
  v9 := Try.zeroValue9,
  t46 := Try.underlying36,
  a46 := Try.isAgg36,
  z46 := Try.sizeOf36,
  v46 := Try.zeroValue36,
  t51 := Try.underlying37,
  a51 := Try.isAgg37,
  z51 := Try.sizeOf37,
  v51 := Try.zeroValue37,
  t146 := Try.underlying38,
  a146 := Try.isAgg38,
  z146 := Try.sizeOf38,
  v146 := Try.zeroValue38 }

end Go.Proofs.Ytkclcjgkicikfaa
