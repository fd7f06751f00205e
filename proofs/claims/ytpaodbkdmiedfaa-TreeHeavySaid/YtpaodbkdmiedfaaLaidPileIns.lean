/- PileIns: contracts of the library laid at this program: the tables of numbers and the facts that they ask. -/
import Derived.Shelf.SlSortCmp.InsertionK
import Derived.Test.YtpaodbkdmiedfaaProg
namespace Go.Proofs.Ytpaodbkdmiedfaa
open Go.RowKit
set_option linter.unusedVariables false

def layPileIns_ren : Go.Shelf.Ren := ⟨fun | 20 => 110 | n => n, fun | 24 => 73 | 22 => 71 | 3 => 3 | 25 => 75 | 4 => 4 | 0 => 0 | n => n, fun | n => n⟩
theorem layPileIns : Go.Proofs.SlLaysF0.n20 Try.prog layPileIns_ren := {
  mixed := by kernel_rfl,
  f20 := ⟨Try.f110.name, by decide, Try.func110.trans (congrArg some (by kernel_rfl))⟩,
  t0 := Try.underlying0,
  a0 := Try.isAgg0,
  z0 := Try.sizeOf0,
  v0 := Try.zeroValue0,
  t3 := Try.underlying3,
  a3 := Try.isAgg3,
  z3 := Try.sizeOf3,
  v3 := Try.zeroValue3,
  t4 := Try.underlying4,
  a4 := Try.isAgg4,
  z4 := Try.sizeOf4,
  v4 := Try.zeroValue4,
  t22 := Try.underlying71,
  a22 := Try.isAgg71,
  z22 := Try.sizeOf71,
  v22 := Try.zeroValue71,
  t25 := Try.underlying75,
  a25 := Try.isAgg75,
  z25 := Try.sizeOf75,
  v25 := Try.zeroValue75 }

end Go.Proofs.Ytpaodbkdmiedfaa
