/- strings.Join: the shelf's contract laid at this program: the table of numbers and the facts that it asks. -/
import Derived.Shelf.Strings.OnBuilder
import Derived.Test.YtppbjomobbaeaaaProg
namespace Go.Proofs.Ytppbjomobbaeaaa
open Go.RowKit
set_option linter.unusedVariables false

def laysJ_ren : Go.Shelf.Ren := ⟨fun | 156 => 26 | 165 => 52 | 166 => 53 | 169 => 54 | 240 => 66 | 241 => 67 | 276 => 72 | 277 => 73 | n => n, fun | 31 => 26 | 9 => 9 | 3 => 3 | 4 => 4 | 0 => 0 | 20 => 20 | 72 => 80 | 76 => 84 | 70 => 78 | 37 => 37 | 75 => 83 | 127 => 99 | 164 => 108 | 5 => 5 | 80 => 86 | n => n, fun | n => n⟩
theorem laysJ : Go.Proofs.Lays.n156 Try.prog laysJ_ren := {
  mixed := by kernel_rfl,
  f156 := Try.func26.trans (congrArg some (by kernel_rfl)),
  f165 := Try.func52.trans (congrArg some (by kernel_rfl)),
  f166 := Try.func53.trans (congrArg some (by kernel_rfl)),
  f169 := Try.func54.trans (congrArg some (by kernel_rfl)),
  f240 := Try.func66.trans (congrArg some (by kernel_rfl)),
  f241 := Try.func67.trans (congrArg some (by kernel_rfl)),
  f276 := Try.func72.trans (congrArg some (by kernel_rfl)),
  f277 := Try.func73.trans (congrArg some (by kernel_rfl)),
  t0 := Try.underlying0,
  a0 := Try.isAgg0,
  z0 := Try.sizeOf0,
  v0 := Try.zeroValue0,
  t3 := Try.underlying3,
  a3 := Try.isAgg3,
  z3 := Try.sizeOf3,
  v3 := Try.zeroValue3,
  t4 := Try.underlying4,
  a4 := Try.isAgg4,
  z4 := Try.sizeOf4,
  v4 := Try.zeroValue4,
  t9 := Try.underlying9,
  a9 := Try.isAgg9,
  z9 := Try.sizeOf9,
  v9 := Try.zeroValue9,
  t20 := Try.underlying20,
  a20 := Try.isAgg20,
  z20 := Try.sizeOf20,
  v20 := Try.zeroValue20,
  t31 := Try.underlying26,
  a31 := Try.isAgg26,
  z31 := Try.sizeOf26,
  v31 := Try.zeroValue26,
  t37 := Try.underlying37,
  a37 := Try.isAgg37,
  z37 := Try.sizeOf37,
  v37 := Try.zeroValue37,
  t70 := Try.underlying78,
  a70 := Try.isAgg78,
  z70 := Try.sizeOf78,
  v70 := Try.zeroValue78,
  t72 := Try.underlying80,
  a72 := Try.isAgg80,
  z72 := Try.sizeOf80,
  v72 := Try.zeroValue80,
  t75 := Try.underlying83,
  a75 := Try.isAgg83,
  z75 := Try.sizeOf83,
  v75 := Try.zeroValue83,
  t76 := Try.underlying84,
  a76 := Try.isAgg84,
  z76 := Try.sizeOf84,
  v76 := Try.zeroValue84,
  t127 := Try.underlying99,
  a127 := Try.isAgg99,
  z127 := Try.sizeOf99,
  v127 := Try.zeroValue99,
  t164 := Try.underlying108,
  a164 := Try.isAgg108,
  z164 := Try.sizeOf108,
  v164 := Try.zeroValue108 }
theorem laysJX : Go.Proofs.Builder.Extra Try.prog laysJ_ren := {
  sizeBuilder := by kernel_rfl, liesBuilder := by kernel_rfl, t5 := Try.underlying5, a5 := Try.isAgg5, z5 := Try.sizeOf5, v5 := Try.zeroValue5, infoByte := by kernel_rfl, cellsByte := by kernel_rfl, sizeByte := by kernel_rfl, neB5 := by decide }

theorem join_any (bk o c : Nat) (xs : List ByteArray) (sep : ByteArray) (w : World)
    (hcells : ∀ (j : Nat) x, xs[j]? = some x → w.cell? ⟨bk, o + j, none⟩ = some (.string x)) (hbk : bk < w.heap.size) (hN : xs.length ≤ 140737488355328) (hcap : xs.length ≤ c)
    (hlen : (Lib.join (xs.map (·.data.toList)) sep.data.toList).length ≤ 140737488355328) :
    Calls Try.prog 26 #[.slice (some ⟨bk, o, none⟩) xs.length c, .string sep] w fun e w' => e = .returned (.string ⟨(Lib.join (xs.map (·.data.toList)) sep.data.toList).toArray⟩) ∧ Below w.heap.size w w' :=
  Any.strings_Join laysJ laysJX bk o c xs sep w hcells hbk hN hcap hlen
theorem join_none (a : Option Addr) (c : Nat) (sep : ByteArray) (w : World) :
    Calls Try.prog 26 #[.slice a 0 c, .string sep] w fun e w' => e = .returned (.string ⟨#[]⟩) ∧ w' = w :=
  Any.strings_Join_none laysJ laysJX a c sep w
end Go.Proofs.Ytppbjomobbaeaaa
