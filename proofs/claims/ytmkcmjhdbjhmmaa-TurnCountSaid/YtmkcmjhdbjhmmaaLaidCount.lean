/- Count: contracts of the library laid at this program: the tables of numbers and the facts that they ask. -/
import Derived.Shelf.Strings.Count
import Derived.Test.YtmkcmjhdbjhmmaaProg
namespace Go.Proofs.Ytmkcmjhdbjhmmaa
open Go.RowKit
set_option linter.unusedVariables false

def laysCt_ren : Go.Shelf.Ren := ⟨fun | 138 => 8 | 195 => 13 | 218 => 14 | 143 => 15 | 219 => 19 | 217 => 31 | 225 => 32 | 224 => 33 | 267 => 34 | 266 => 40 | 314 => 41 | n => n, fun | 9 => 9 | 3 => 3 | 4 => 4 | 5 => 5 | 0 => 0 | 46 => 39 | 146 => 59 | 51 => 49 | 20 => 20 | n => n, fun | 1 => 0 | n => n⟩
theorem laysCt : Go.Proofs.Lays.n138 Try.prog laysCt_ren := {
  mixed := by kernel_rfl,
  f138 := Try.func8.trans (congrArg some (by kernel_rfl)),
  f143 := Try.func15.trans (congrArg some (by kernel_rfl)),
  f195 := Try.func13.trans (congrArg some (by kernel_rfl)),
  f217 := Try.func31.trans (congrArg some (by kernel_rfl)),
  f218 := Try.func14.trans (congrArg some (by kernel_rfl)),
  f219 := Try.func19.trans (congrArg some (by kernel_rfl)),
  f224 := Try.func33.trans (congrArg some (by kernel_rfl)),
  f225 := Try.func32.trans (congrArg some (by kernel_rfl)),
  f266 := Try.func40.trans (congrArg some (by kernel_rfl)),
  f267 := Try.func34.trans (congrArg some (by kernel_rfl)),
  f314 := Try.func41.trans (congrArg some (by kernel_rfl)),
  t0 := Try.underlying0,
  a0 := Try.isAgg0,
  z0 := Try.sizeOf0,
  v0 := Try.zeroValue0,
  t3 := Try.underlying3,
  a3 := Try.isAgg3,
  z3 := Try.sizeOf3,
  v3 := Try.zeroValue3,
  t4 := Try.underlying4,
  a4 := Try.isAgg4,
  z4 := Try.sizeOf4,
  v4 := Try.zeroValue4,
  t5 := Try.underlying5,
  a5 := Try.isAgg5,
  z5 := Try.sizeOf5,
  v5 := Try.zeroValue5,
  t9 := Try.underlying9,
  a9 := Try.isAgg9,
  z9 := Try.sizeOf9,
  v9 := Try.zeroValue9,
  t46 := Try.underlying39,
  a46 := Try.isAgg39,
  z46 := Try.sizeOf39,
  v46 := Try.zeroValue39,
  t51 := Try.underlying49,
  a51 := Try.isAgg49,
  z51 := Try.sizeOf49,
  v51 := Try.zeroValue49,
  t146 := Try.underlying59,
  a146 := Try.isAgg59,
  z146 := Try.sizeOf59,
  v146 := Try.zeroValue59,
  g1 := by kernel_rfl }

end Go.Proofs.Ytmkcmjhdbjhmmaa
