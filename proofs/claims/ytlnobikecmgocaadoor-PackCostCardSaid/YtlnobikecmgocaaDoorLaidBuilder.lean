/- Builder: contracts of the library laid at this program: the tables of numbers and the facts that they ask. -/
import Derived.Shelf.Strings.OnBuilder
import Derived.Shelf.Strings.BuilderX
import Derived.Test.YtlnobikecmgocaaDoorProg
namespace Go.Proofs.YtlnobikecmgocaaDoor
open Go.RowKit
set_option linter.unusedVariables false

def layWS_ren : Go.Shelf.Ren := ⟨fun | 166 => 23 | 240 => 34 | 276 => 47 | n => n, fun | 70 => 48 | 9 => 9 | 3 => 3 | 75 => 53 | 0 => 0 | 72 => 51 | 37 => 49 | 4 => 4 | 164 => 81 | 80 => 56 | 5 => 5 | 20 => 20 | n => n, fun | n => n⟩
theorem layWS : Go.Proofs.Lays.n166 Tryd.prog layWS_ren := {
  mixed := by kernel_rfl,
  f166 := Tryd.func23.trans (congrArg some (by kernel_rfl)),
  f240 := Tryd.func34.trans (congrArg some (by kernel_rfl)),
  f276 := Tryd.func47.trans (congrArg some (by kernel_rfl)),
  t0 := Tryd.underlying0,
  a0 := Tryd.isAgg0,
  z0 := Tryd.sizeOf0,
  v0 := Tryd.zeroValue0,
  t3 := Tryd.underlying3,
  a3 := Tryd.isAgg3,
  z3 := Tryd.sizeOf3,
  v3 := Tryd.zeroValue3,
  t4 := Tryd.underlying4,
  a4 := Tryd.isAgg4,
  z4 := Tryd.sizeOf4,
  v4 := Tryd.zeroValue4,
  t9 := Tryd.underlying9,
  a9 := Tryd.isAgg9,
  z9 := Tryd.sizeOf9,
  v9 := Tryd.zeroValue9,
  t20 := Tryd.underlying20,
  a20 := Tryd.isAgg20,
  z20 := Tryd.sizeOf20,
  v20 := Tryd.zeroValue20,
  t37 := Tryd.underlying49,
  a37 := Tryd.isAgg49,
  z37 := Tryd.sizeOf49,
  v37 := Tryd.zeroValue49,
  t70 := Tryd.underlying48,
  a70 := Tryd.isAgg48,
  z70 := Tryd.sizeOf48,
  v70 := Tryd.zeroValue48,
  t72 := Tryd.underlying51,
  a72 := Tryd.isAgg51,
  z72 := Tryd.sizeOf51,
  v72 := Tryd.zeroValue51,
  t75 := Tryd.underlying53,
  a75 := Tryd.isAgg53,
  z75 := Tryd.sizeOf53,
  v75 := Tryd.zeroValue53,
  t164 := Tryd.underlying81,
  a164 := Tryd.isAgg81,
  z164 := Tryd.sizeOf81,
  v164 := Tryd.zeroValue81 }

def layBS_ren : Go.Shelf.Ren := ⟨fun | 169 => 24 | n => n, fun | 70 => 48 | 9 => 9 | 0 => 0 | 72 => 51 | 37 => 49 | 127 => 69 | 3 => 3 | 5 => 5 | 20 => 20 | n => n, fun | n => n⟩
theorem layBS : Go.Proofs.Lays.n169 Tryd.prog layBS_ren := {
  mixed := by kernel_rfl,
  f169 := Tryd.func24.trans (congrArg some (by kernel_rfl)),
  t0 := Tryd.underlying0,
  a0 := Tryd.isAgg0,
  z0 := Tryd.sizeOf0,
  v0 := Tryd.zeroValue0,
  t3 := Tryd.underlying3,
  a3 := Tryd.isAgg3,
  z3 := Tryd.sizeOf3,
  v3 := Tryd.zeroValue3,
  t9 := Tryd.underlying9,
  a9 := Tryd.isAgg9,
  z9 := Tryd.sizeOf9,
  v9 := Tryd.zeroValue9,
  t37 := Tryd.underlying49,
  a37 := Tryd.isAgg49,
  z37 := Tryd.sizeOf49,
  v37 := Tryd.zeroValue49,
  t70 := Tryd.underlying48,
  a70 := Tryd.isAgg48,
  z70 := Tryd.sizeOf48,
  v70 := Tryd.zeroValue48,
  t72 := Tryd.underlying51,
  a72 := Tryd.isAgg51,
  z72 := Tryd.sizeOf51,
  v72 := Tryd.zeroValue51,
  t127 := Tryd.underlying69,
  a127 := Tryd.isAgg69,
  z127 := Tryd.sizeOf69,
  v127 := Tryd.zeroValue69 }

end Go.Proofs.YtlnobikecmgocaaDoor
