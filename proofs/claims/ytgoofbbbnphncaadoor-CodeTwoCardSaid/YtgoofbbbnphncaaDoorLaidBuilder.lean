/- Builder: contracts of the library laid at this program: the tables of numbers and the facts that they ask. -/
import Derived.Shelf.Strings.OnBuilder
import Derived.Shelf.Strings.BuilderX
import Derived.Test.YtgoofbbbnphncaaDoorProg
namespace Go.Proofs.YtgoofbbbnphncaaDoor
open Go.RowKit
set_option linter.unusedVariables false

def layWS_ren : Go.Shelf.Ren := ⟨fun | 166 => 53 | 240 => 79 | 276 => 89 | n => n, fun | 70 => 73 | 9 => 9 | 3 => 3 | 75 => 78 | 0 => 0 | 72 => 76 | 37 => 74 | 4 => 4 | 164 => 122 | 80 => 32 | 5 => 5 | 20 => 20 | n => n, fun | n => n⟩
theorem layWS : Go.Proofs.Lays.n166 Tryd.prog layWS_ren := {
  mixed := by kernel_rfl,
  f166 := Tryd.func53.trans (congrArg some (by kernel_rfl)),
  f240 := Tryd.func79.trans (congrArg some (by kernel_rfl)),
  f276 := Tryd.func89.trans (congrArg some (by kernel_rfl)),
  t0 := Tryd.underlying0,
  a0 := Tryd.isAgg0,
  z0 := Tryd.sizeOf0,
  v0 := Tryd.zeroValue0,
  t3 := Tryd.underlying3,
  a3 := Tryd.isAgg3,
  z3 := Tryd.sizeOf3,
  v3 := Tryd.zeroValue3,
  t4 := Tryd.underlying4,
  a4 := Tryd.isAgg4,
  z4 := Tryd.sizeOf4,
  v4 := Tryd.zeroValue4,
  t9 := Tryd.underlying9,
  a9 := Tryd.isAgg9,
  z9 := Tryd.sizeOf9,
  v9 := Tryd.zeroValue9,
  t20 := Tryd.underlying20,
  a20 := Tryd.isAgg20,
  z20 := Tryd.sizeOf20,
  v20 := Tryd.zeroValue20,
  t37 := Tryd.underlying74,
  a37 := Tryd.isAgg74,
  z37 := Tryd.sizeOf74,
  v37 := Tryd.zeroValue74,
  t70 := Tryd.underlying73,
  a70 := Tryd.isAgg73,
  z70 := Tryd.sizeOf73,
  v70 := Tryd.zeroValue73,
  t72 := Tryd.underlying76,
  a72 := Tryd.isAgg76,
  z72 := Tryd.sizeOf76,
  v72 := Tryd.zeroValue76,
  t75 := Tryd.underlying78,
  a75 := Tryd.isAgg78,
  z75 := Tryd.sizeOf78,
  v75 := Tryd.zeroValue78,
  t164 := Tryd.underlying122,
  a164 := Tryd.isAgg122,
  z164 := Tryd.sizeOf122,
  v164 := Tryd.zeroValue122 }

def layBS_ren : Go.Shelf.Ren := ⟨fun | 169 => 54 | n => n, fun | 70 => 73 | 9 => 9 | 0 => 0 | 72 => 76 | 37 => 74 | 127 => 108 | 3 => 3 | 5 => 5 | 20 => 20 | n => n, fun | n => n⟩
theorem layBS : Go.Proofs.Lays.n169 Tryd.prog layBS_ren := {
  mixed := by kernel_rfl,
  f169 := Tryd.func54.trans (congrArg some (by kernel_rfl)),
  t0 := Tryd.underlying0,
  a0 := Tryd.isAgg0,
  z0 := Tryd.sizeOf0,
  v0 := Tryd.zeroValue0,
  t3 := Tryd.underlying3,
  a3 := Tryd.isAgg3,
  z3 := Tryd.sizeOf3,
  v3 := Tryd.zeroValue3,
  t9 := Tryd.underlying9,
  a9 := Tryd.isAgg9,
  z9 := Tryd.sizeOf9,
  v9 := Tryd.zeroValue9,
  t37 := Tryd.underlying74,
  a37 := Tryd.isAgg74,
  z37 := Tryd.sizeOf74,
  v37 := Tryd.zeroValue74,
  t70 := Tryd.underlying73,
  a70 := Tryd.isAgg73,
  z70 := Tryd.sizeOf73,
  v70 := Tryd.zeroValue73,
  t72 := Tryd.underlying76,
  a72 := Tryd.isAgg76,
  z72 := Tryd.sizeOf76,
  v72 := Tryd.zeroValue76,
  t127 := Tryd.underlying108,
  a127 := Tryd.isAgg108,
  z127 := Tryd.sizeOf108,
  v127 := Tryd.zeroValue108 }

end Go.Proofs.YtgoofbbbnphncaaDoor
