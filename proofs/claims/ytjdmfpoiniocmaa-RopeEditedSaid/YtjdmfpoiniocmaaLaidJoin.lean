/- strings.Join: the shelf's contract laid at this program: the table of numbers and the facts that it asks. -/
import Derived.Shelf.Strings.OnBuilder
import Derived.Test.YtjdmfpoiniocmaaProg
namespace Go.Proofs.Ytjdmfpoiniocmaa
open Go.RowKit
set_option linter.unusedVariables false

def laysJ_ren : Go.Shelf.Ren := ⟨fun | 156 => 47 | 165 => 59 | 166 => 60 | 169 => 62 | 240 => 83 | 241 => 84 | 276 => 94 | 277 => 95 | n => n, fun | 31 => 23 | 9 => 9 | 3 => 3 | 4 => 4 | 0 => 0 | 20 => 20 | 72 => 94 | 76 => 98 | 70 => 92 | 37 => 49 | 75 => 97 | 127 => 123 | 164 => 131 | 5 => 5 | 80 => 101 | n => n, fun | n => n⟩
theorem laysJ : Go.Proofs.Lays.n156 Try.prog laysJ_ren := {
  mixed := by kernel_rfl,
  f156 := Try.func47.trans (congrArg some (by kernel_rfl)),
  f165 := Try.func59.trans (congrArg some (by kernel_rfl)),
  f166 := Try.func60.trans (congrArg some (by kernel_rfl)),
  f169 := Try.func62.trans (congrArg some (by kernel_rfl)),
  f240 := Try.func83.trans (congrArg some (by kernel_rfl)),
  f241 := Try.func84.trans (congrArg some (by kernel_rfl)),
  f276 := Try.func94.trans (congrArg some (by kernel_rfl)),
  f277 := Try.func95.trans (congrArg some (by kernel_rfl)),
  t0 := Try.underlying0,
  a0 := Try.isAgg0,
  z0 := Try.sizeOf0,
  v0 := Try.zeroValue0,
  t3 := Try.underlying3,
  a3 := Try.isAgg3,
  z3 := Try.sizeOf3,
  v3 := Try.zeroValue3,
  t4 := Try.underlying4,
  a4 := Try.isAgg4,
  z4 := Try.sizeOf4,
  v4 := Try.zeroValue4,
  t9 := Try.underlying9,
  a9 := Try.isAgg9,
  z9 := Try.sizeOf9,
  v9 := Try.zeroValue9,
  t20 := Try.underlying20,
  a20 := Try.isAgg20,
  z20 := Try.sizeOf20,
  v20 := Try.zeroValue20,
  t31 := Try.underlying23,
  a31 := Try.isAgg23,
  z31 := Try.sizeOf23,
  v31 := Try.zeroValue23,
  t37 := Try.underlying49,
  a37 := Try.isAgg49,
  z37 := Try.sizeOf49,
  v37 := Try.zeroValue49,
  t70 := Try.underlying92,
  a70 := Try.isAgg92,
  z70 := Try.sizeOf92,
  v70 := Try.zeroValue92,
  t72 := Try.underlying94,
  a72 := Try.isAgg94,
  z72 := Try.sizeOf94,
  v72 := Try.zeroValue94,
  t75 := Try.underlying97,
  a75 := Try.isAgg97,
  z75 := Try.sizeOf97,
  v75 := Try.zeroValue97,
  t76 := Try.underlying98,
  a76 := Try.isAgg98,
  z76 := Try.sizeOf98,
  v76 := Try.zeroValue98,
  t127 := Try.underlying123,
  a127 := Try.isAgg123,
  z127 := Try.sizeOf123,
  v127 := Try.zeroValue123,
  t164 := Try.underlying131,
  a164 := Try.isAgg131,
  z164 := Try.sizeOf131,
  v164 := Try.zeroValue131 }
theorem laysJX : Go.Proofs.Builder.Extra Try.prog laysJ_ren := {
  sizeBuilder := by kernel_rfl, liesBuilder := by kernel_rfl, t5 := Try.underlying5, a5 := Try.isAgg5, z5 := Try.sizeOf5, v5 := Try.zeroValue5, infoByte := by kernel_rfl, cellsByte := by kernel_rfl, sizeByte := by kernel_rfl, neB5 := by decide }

theorem join_any (bk o c : Nat) (xs : List ByteArray) (sep : ByteArray) (w : World)
    (hcells : ∀ (j : Nat) x, xs[j]? = some x → w.cell? ⟨bk, o + j, none⟩ = some (.string x)) (hbk : bk < w.heap.size) (hN : xs.length ≤ 140737488355328) (hcap : xs.length ≤ c)
    (hlen : (Lib.join (xs.map (·.data.toList)) sep.data.toList).length ≤ 140737488355328) :
    Calls Try.prog 47 #[.slice (some ⟨bk, o, none⟩) xs.length c, .string sep] w fun e w' => e = .returned (.string ⟨(Lib.join (xs.map (·.data.toList)) sep.data.toList).toArray⟩) ∧ Below w.heap.size w w' :=
  Any.strings_Join laysJ laysJX bk o c xs sep w hcells hbk hN hcap hlen
theorem join_none (a : Option Addr) (c : Nat) (sep : ByteArray) (w : World) :
    Calls Try.prog 47 #[.slice a 0 c, .string sep] w fun e w' => e = .returned (.string ⟨#[]⟩) ∧ w' = w :=
  Any.strings_Join_none laysJ laysJX a c sep w
end Go.Proofs.Ytjdmfpoiniocmaa
