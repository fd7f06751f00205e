/- strings.Join: the shelf's contract laid at this program: the table of numbers and the facts that it asks. -/
import Derived.Shelf.Strings.OnBuilder
import Derived.Test.YtkeeggklgdinhaaProg
namespace Go.Proofs.Ytkeeggklgdinhaa
open Go.RowKit
set_option linter.unusedVariables false

def laysJ_ren : Go.Shelf.Ren := ⟨fun | 156 => 23 | 165 => 28 | 166 => 29 | 169 => 30 | 240 => 36 | 241 => 37 | 276 => 40 | 277 => 41 | n => n, fun | 31 => 22 | 9 => 9 | 3 => 3 | 4 => 4 | 0 => 0 | 20 => 20 | 72 => 60 | 76 => 64 | 70 => 57 | 37 => 58 | 75 => 63 | 127 => 71 | 164 => 75 | 5 => 5 | 80 => 66 | n => n, fun | n => n⟩
theorem laysJ : Go.Proofs.Lays.n156 Try.prog laysJ_ren := {
  mixed := by kernel_rfl,
  f156 := Try.func23.trans (congrArg some (by kernel_rfl)),
  f165 := Try.func28.trans (congrArg some (by kernel_rfl)),
  f166 := Try.func29.trans (congrArg some (by kernel_rfl)),
  f169 := Try.func30.trans (congrArg some (by kernel_rfl)),
  f240 := Try.func36.trans (congrArg some (by kernel_rfl)),
  f241 := Try.func37.trans (congrArg some (by kernel_rfl)),
  f276 := Try.func40.trans (congrArg some (by kernel_rfl)),
  f277 := Try.func41.trans (congrArg some (by kernel_rfl)),
  t0 := Try.underlying0,
  a0 := Try.isAgg0,
  z0 := Try.sizeOf0,
  v0 := Try.zeroValue0,
  t3 := Try.underlying3,
  a3 := Try.isAgg3,
  z3 := Try.sizeOf3,
  v3 := Try.zeroValue3,
  t4 := Try.underlying4,
  a4 := Try.isAgg4,
  z4 := Try.sizeOf4,
  v4 := Try.zeroValue4,
  t9 := Try.underlying9,
  a9 := Try.isAgg9,
  z9 := Try.sizeOf9,
  v9 := Try.zeroValue9,
  t20 := Try.underlying20,
  a20 := Try.isAgg20,
  z20 := Try.sizeOf20,
  v20 := Try.zeroValue20,
  t31 := Try.underlying22,
  a31 := Try.isAgg22,
  z31 := Try.sizeOf22,
  v31 := Try.zeroValue22,
  t37 := Try.underlying58,
  a37 := Try.isAgg58,
  z37 := Try.sizeOf58,
  v37 := Try.zeroValue58,
  t70 := Try.underlying57,
  a70 := Try.isAgg57,
  z70 := Try.sizeOf57,
  v70 := Try.zeroValue57,
  t72 := Try.underlying60,
  a72 := Try.isAgg60,
  z72 := Try.sizeOf60,
  v72 := Try.zeroValue60,
  t75 := Try.underlying63,
  a75 := Try.isAgg63,
  z75 := Try.sizeOf63,
  v75 := Try.zeroValue63,
  t76 := Try.underlying64,
  a76 := Try.isAgg64,
  z76 := Try.sizeOf64,
  v76 := Try.zeroValue64,
  t127 := Try.underlying71,
  a127 := Try.isAgg71,
  z127 := Try.sizeOf71,
  v127 := Try.zeroValue71,
  t164 := Try.underlying75,
  a164 := Try.isAgg75,
  z164 := Try.sizeOf75,
  v164 := Try.zeroValue75 }
theorem laysJX : Go.Proofs.Builder.Extra Try.prog laysJ_ren := {
  sizeBuilder := by kernel_rfl, liesBuilder := by kernel_rfl, t5 := Try.underlying5, a5 := Try.isAgg5, z5 := Try.sizeOf5, v5 := Try.zeroValue5, infoByte := by kernel_rfl, cellsByte := by kernel_rfl, sizeByte := by kernel_rfl, neB5 := by decide }

theorem join_any (bk o c : Nat) (xs : List ByteArray) (sep : ByteArray) (w : World)
    (hcells : ∀ (j : Nat) x, xs[j]? = some x → w.cell? ⟨bk, o + j, none⟩ = some (.string x)) (hbk : bk < w.heap.size) (hN : xs.length ≤ 140737488355328) (hcap : xs.length ≤ c)
    (hlen : (Lib.join (xs.map (·.data.toList)) sep.data.toList).length ≤ 140737488355328) :
    Calls Try.prog 23 #[.slice (some ⟨bk, o, none⟩) xs.length c, .string sep] w fun e w' => e = .returned (.string ⟨(Lib.join (xs.map (·.data.toList)) sep.data.toList).toArray⟩) ∧ Below w.heap.size w w' :=
  Any.strings_Join laysJ laysJX bk o c xs sep w hcells hbk hN hcap hlen
theorem join_none (a : Option Addr) (c : Nat) (sep : ByteArray) (w : World) :
    Calls Try.prog 23 #[.slice a 0 c, .string sep] w fun e w' => e = .returned (.string ⟨#[]⟩) ∧ w' = w :=
  Any.strings_Join_none laysJ laysJX a c sep w
end Go.Proofs.Ytkeeggklgdinhaa
