/- PileIns: contracts of the library laid at this program: the tables of numbers and the facts that they ask. -/
import Derived.Shelf.SlSortCmp.InsertionK
import Derived.Test.YtgmejaakpihknaaProg
namespace Go.Proofs.Ytgmejaakpihknaa
open Go.RowKit
set_option linter.unusedVariables false

def layPileIns_ren : Go.Shelf.Ren := ⟨fun | 20 => 102 | n => n, fun | 24 => 66 | 22 => 64 | 3 => 3 | 25 => 68 | 4 => 4 | 0 => 0 | n => n, fun | n => n⟩
theorem layPileIns : Go.Proofs.SlLaysF0.n20 Try.prog layPileIns_ren := {
  mixed := by kernel_rfl,
  f20 := ⟨Try.f102.name, by decide, Try.func102.trans (congrArg some (by kernel_rfl))⟩,
  t0 := Try.underlying0,
  a0 := Try.isAgg0,
  z0 := Try.sizeOf0,
  v0 := Try.zeroValue0,
  t3 := Try.underlying3,
  a3 := Try.isAgg3,
  z3 := Try.sizeOf3,
  v3 := Try.zeroValue3,
  t4 := Try.underlying4,
  a4 := Try.isAgg4,
  z4 := Try.sizeOf4,
  v4 := Try.zeroValue4,
  t22 := Try.underlying64,
  a22 := Try.isAgg64,
  z22 := Try.sizeOf64,
  v22 := Try.zeroValue64,
  t25 := Try.underlying68,
  a25 := Try.isAgg68,
  z25 := Try.sizeOf68,
  v25 := Try.zeroValue68 }

end Go.Proofs.Ytgmejaakpihknaa
