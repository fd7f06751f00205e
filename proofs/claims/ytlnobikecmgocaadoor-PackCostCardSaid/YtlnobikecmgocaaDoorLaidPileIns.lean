/- PileIns: contracts of the library laid at this program: the tables of numbers and the facts that they ask. -/
import Derived.Shelf.SlSortCmp.InsertionK
import Derived.Test.YtlnobikecmgocaaDoorProg
namespace Go.Proofs.YtlnobikecmgocaaDoor
open Go.RowKit
set_option linter.unusedVariables false

def layPileIns_ren : Go.Shelf.Ren := ⟨fun | 20 => 37 | n => n, fun | 24 => 42 | 22 => 40 | 3 => 3 | 25 => 44 | 4 => 4 | 0 => 0 | n => n, fun | n => n⟩
theorem layPileIns : Go.Proofs.SlLaysF0.n20 Tryd.prog layPileIns_ren := {
  mixed := by kernel_rfl,
  f20 := ⟨Tryd.f37.name, by decide, Tryd.func37.trans (congrArg some (by kernel_rfl))⟩,
  t0 := Tryd.underlying0,
  a0 := Tryd.isAgg0,
  z0 := Tryd.sizeOf0,
  v0 := Tryd.zeroValue0,
  t3 := Tryd.underlying3,
  a3 := Tryd.isAgg3,
  z3 := Tryd.sizeOf3,
  v3 := Tryd.zeroValue3,
  t4 := Tryd.underlying4,
  a4 := Tryd.isAgg4,
  z4 := Tryd.sizeOf4,
  v4 := Tryd.zeroValue4,
  t22 := Tryd.underlying40,
  a22 := Tryd.isAgg40,
  z22 := Tryd.sizeOf40,
  v22 := Tryd.zeroValue40,
  t25 := Tryd.underlying44,
  a25 := Tryd.isAgg44,
  z25 := Tryd.sizeOf44,
  v25 := Tryd.zeroValue44 }

end Go.Proofs.YtlnobikecmgocaaDoor
