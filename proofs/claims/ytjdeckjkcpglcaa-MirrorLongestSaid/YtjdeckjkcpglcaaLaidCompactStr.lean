/- CompactStr: contracts of the library laid at this program: the tables of numbers and the facts that they ask. -/
import Derived.Shelf.Slices.CompactS
import Derived.Test.YtjdeckjkcpglcaaProg
namespace Go.Proofs.Ytjdeckjkcpglcaa
open Go.RowKit
set_option linter.unusedVariables false

def layCompactStr_ren : Go.Shelf.Ren := ⟨fun | 194 => 18 | n => n, fun | 31 => 42 | 9 => 9 | 3 => 3 | 4 => 4 | 0 => 0 | 20 => 20 | n => n, fun | n => n⟩
theorem layCompactStr : Go.Proofs.Lays.n194 Try.prog layCompactStr_ren := {
  mixed := by kernel_rfl,
  f194 := Try.func18.trans (congrArg some (by kernel_rfl)),
  t0 := Try.underlying0,
  a0 := Try.isAgg0,
  z0 := Try.sizeOf0,
  v0 := Try.zeroValue0,
  t3 := Try.underlying3,
  a3 := Try.isAgg3,
  z3 := Try.sizeOf3,
  v3 := Try.zeroValue3,
  t4 := Try.underlying4,
  a4 := Try.isAgg4,
  z4 := Try.sizeOf4,
  v4 := Try.zeroValue4,
  t9 := Try.underlying9,
  a9 := Try.isAgg9,
  z9 := Try.sizeOf9,
  v9 := Try.zeroValue9,
  t31 := Try.underlying42,
  a31 := Try.isAgg42,
  z31 := Try.sizeOf42,
  v31 := Try.zeroValue42 }

end Go.Proofs.Ytjdeckjkcpglcaa
