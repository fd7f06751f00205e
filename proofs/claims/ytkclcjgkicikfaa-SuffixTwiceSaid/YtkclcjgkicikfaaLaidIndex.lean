/- Index: contracts of the library laid at this program: the tables of numbers and the facts that they ask. -/
import Derived.Shelf.Strings.Search3
import Derived.Shelf.LaysM
import Derived.Test.YtkclcjgkicikfaaProg
namespace Go.Proofs.Ytkclcjgkicikfaa
open Go.RowKit
set_option linter.unusedVariables false

def laysIx_ren : Go.Shelf.Ren := ⟨fun | 143 => 5 | 219 => 10 | 217 => 18 | 225 => 19 | 224 => 20 | 267 => 21 | 266 => 26 | 314 => 27 | n => n, fun | 9 => 9 | 3 => 3 | 4 => 4 | 5 => 5 | 46 => 36 | 146 => 38 | 51 => 37 | 20 => 20 | n => n, fun | 1 => 0 | n => n⟩
theorem laysIx : Go.Proofs.LaysM.n143 Try.prog laysIx_ren := {
  mixed := by kernel_rfl,
  f143 := Try.func5.trans (congrArg some (by kernel_rfl)),
  f217 := Try.func18.trans (congrArg some (by kernel_rfl)),
  f219 := Try.func10.trans (congrArg some (by kernel_rfl)),
  f224 := Try.func20.trans (congrArg some (by kernel_rfl)),
  f225 := Try.func19.trans (congrArg some (by kernel_rfl)),
  f266 := Try.func26.trans (congrArg some (by kernel_rfl)),
  f267 := Try.func21.trans (congrArg some (by kernel_rfl)),
  f314 := Try.func27.trans (congrArg some (by kernel_rfl)),
  t3 := Try.underlying3,
  a3 := Try.isAgg3,
  z3 := Try.sizeOf3,
  v3 := Try.zeroValue3,
  t4 := Try.underlying4,
  a4 := Try.isAgg4,
  z4 := Try.sizeOf4,
  v4 := Try.zeroValue4,
  t5 := Try.underlying5,
  a5 := Try.isAgg5,
  z5 := Try.sizeOf5,
  v5 := Try.zeroValue5,
  t9 := Try.underlying9,
  a9 := Try.isAgg9,
  z9 := Try.sizeOf9,
  v9 := Try.zeroValue9,
  t46 := Try.underlying36,
  a46 := Try.isAgg36,
  z46 := Try.sizeOf36,
  v46 := Try.zeroValue36,
  t51 := Try.underlying37,
  a51 := Try.isAgg37,
  z51 := Try.sizeOf37,
  v51 := Try.zeroValue37,
  t146 := Try.underlying38,
  a146 := Try.isAgg38,
  z146 := Try.sizeOf38,
  v146 := Try.zeroValue38,
  g1 := by kernel_rfl,
  i3 := by kernel_rfl,
  i4 := by kernel_rfl,
  i5 := by kernel_rfl,
  i9 := by kernel_rfl,
  i46 := by kernel_rfl,
  i51 := by kernel_rfl,
  i146 := by kernel_rfl,
  m1 := by kernel_rfl,
  s1_3 := fun w h => Go.Proofs.cell_of_shapedOpen_int (zero := #[.int .i64 0]) (t := 3) h (of_decide_eq_true (by kernel_rfl)) (by kernel_rfl) rfl (by kernel_rfl) (by kernel_rfl) Try.underlying3 }

end Go.Proofs.Ytkclcjgkicikfaa
