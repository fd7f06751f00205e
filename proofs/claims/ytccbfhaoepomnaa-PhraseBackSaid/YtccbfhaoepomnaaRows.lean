/-
  No cell of these rows narrows 'for every input' (looked for: loops, veiled, ifaces, maps, wideKeys, modest, calm, conditions, laid).
  DERIVED. THE GIVEN ROWS OF THIS SEAT. 12 by the template 'for every input the law returns true; each argument reads behind the call as it read before'; 0 by the template 'total and deterministic' (their statements: YtccbfhaoepomnaaTotals.lean).
  GIVEN WITH THE SEED: the statements are not yours to turn. If you find one false, say at which input.
  Laid BY PROGRAM, IN A SANDBOX (cutbox-rows.mjs): the forced cells as the released guide's own fill.sh prints them over the translation 49a17b0f2da234aa… (all of the seat's roots in one cut). By AI agents, Wed Nov 11 2026. No macro, syntax, notation, axiom, sorry.
-/
import Derived.Test.YtccbfhaoepomnaaChecked
import GoSem.Claim
import GoSem.ClaimJoined
import GoSem.ClaimMapViews
import Derived.JoinedTies
import Derived.KernelRfl
namespace Go.Proofs.Ytccbfhaoepomnaa
/- THE CELL 'sum', in the pinned program and in every row, IS THE sha256 OF THE DUMP (.gsa) THAT YtccbfhaoepomnaaProg.lean LOADS. Nothing in Lean hashes anything: it is a label: what it is worth is what the hold of that sum in a sandbox is worth. -/
noncomputable def Try.pinned : Pinned := { name := "ytccbfhaoepomnaa", sum := "49a17b0f2da234aa21754481be1ed4b6f40b66cd4cb60fbb18c5de6725a3b566", checked := Try.checked }
namespace Rows
def none {H : Type} : Left H := { results := [], args := [] }

/-- 'quillkeep.FrontFew': WHATEVER THE INPUT: true; the input reads as it did. -/
def frontFewSpec : ChangeSpec := { name := "frontFew", fn := fun _ => fun
  | [d] => { results := [.lit (.bool true)], args := [d] }
  | _ => none }
def frontFewRow : OpenClaim := { program := "ytccbfhaoepomnaa", sum := "49a17b0f2da234aa21754481be1ed4b6f40b66cd4cb60fbb18c5de6725a3b566", func := "quillward/quillkeep.FrontFew", spec := "frontFew", apart := false }
def FrontFewSaid : Prop := frontFewRow.holds Try.pinned (OpenSpec.ofChange frontFewSpec)

/-- ITS FALSE NEIGHBOUR: 'it returns false'. Refute it at one input. -/
def frontFewWrong : ChangeSpec := { name := "frontFew", fn := fun _ => fun
  | [d] => { results := [.lit (.bool false)], args := [d] }
  | _ => none }
def FrontFewWrongFalsely : Prop := frontFewRow.holds Try.pinned (OpenSpec.ofChange frontFewWrong)

/-- 'quillkeep.SameJoins': WHATEVER THE INPUT: true; the input reads as it did. -/
def sameJoinsSpec : ChangeSpec := { name := "sameJoins", fn := fun _ => fun
  | [d1, d2, d3, d4, d5] => { results := [.lit (.bool true)], args := [d1, d2, d3, d4, d5] }
  | _ => none }
def sameJoinsRow : OpenClaim := { program := "ytccbfhaoepomnaa", sum := "49a17b0f2da234aa21754481be1ed4b6f40b66cd4cb60fbb18c5de6725a3b566", func := "quillward/quillkeep.SameJoins", spec := "sameJoins", unfollowed := true, recurses := true, apart := false }
def SameJoinsSaid : Prop := sameJoinsRow.holds Try.pinned (OpenSpec.ofChange sameJoinsSpec)

/-- ITS FALSE NEIGHBOUR: 'it returns false'. Refute it at one input. -/
def sameJoinsWrong : ChangeSpec := { name := "sameJoins", fn := fun _ => fun
  | [d1, d2, d3, d4, d5] => { results := [.lit (.bool false)], args := [d1, d2, d3, d4, d5] }
  | _ => none }
def SameJoinsWrongFalsely : Prop := sameJoinsRow.holds Try.pinned (OpenSpec.ofChange sameJoinsWrong)

/-- 'quillkeep.FrontBack': WHATEVER THE INPUT: true; the input reads as it did. -/
def frontBackSpec : ChangeSpec := { name := "frontBack", fn := fun _ => fun
  | [d] => { results := [.lit (.bool true)], args := [d] }
  | _ => none }
def frontBackRow : OpenClaim := { program := "ytccbfhaoepomnaa", sum := "49a17b0f2da234aa21754481be1ed4b6f40b66cd4cb60fbb18c5de6725a3b566", func := "quillward/quillkeep.FrontBack", spec := "frontBack", apart := false }
def FrontBackSaid : Prop := frontBackRow.holds Try.pinned (OpenSpec.ofChange frontBackSpec)

/-- ITS FALSE NEIGHBOUR: 'it returns false'. Refute it at one input. -/
def frontBackWrong : ChangeSpec := { name := "frontBack", fn := fun _ => fun
  | [d] => { results := [.lit (.bool false)], args := [d] }
  | _ => none }
def FrontBackWrongFalsely : Prop := frontBackRow.holds Try.pinned (OpenSpec.ofChange frontBackWrong)

/-- 'quillkeep.FrontOne': WHATEVER THE INPUT: true; the input reads as it did. -/
def frontOneSpec : ChangeSpec := { name := "frontOne", fn := fun _ => fun
  | [d] => { results := [.lit (.bool true)], args := [d] }
  | _ => none }
def frontOneRow : OpenClaim := { program := "ytccbfhaoepomnaa", sum := "49a17b0f2da234aa21754481be1ed4b6f40b66cd4cb60fbb18c5de6725a3b566", func := "quillward/quillkeep.FrontOne", spec := "frontOne", apart := false }
def FrontOneSaid : Prop := frontOneRow.holds Try.pinned (OpenSpec.ofChange frontOneSpec)

/-- ITS FALSE NEIGHBOUR: 'it returns false'. Refute it at one input. -/
def frontOneWrong : ChangeSpec := { name := "frontOne", fn := fun _ => fun
  | [d] => { results := [.lit (.bool false)], args := [d] }
  | _ => none }
def FrontOneWrongFalsely : Prop := frontOneRow.holds Try.pinned (OpenSpec.ofChange frontOneWrong)

/-- 'quillkeep.RunsZero': WHATEVER THE INPUT: true; the input reads as it did. -/
def runsZeroSpec : ChangeSpec := { name := "runsZero", fn := fun _ => fun
  | [d] => { results := [.lit (.bool true)], args := [d] }
  | _ => none }
def runsZeroRow : OpenClaim := { program := "ytccbfhaoepomnaa", sum := "49a17b0f2da234aa21754481be1ed4b6f40b66cd4cb60fbb18c5de6725a3b566", func := "quillward/quillkeep.RunsZero", spec := "runsZero", apart := false }
def RunsZeroSaid : Prop := runsZeroRow.holds Try.pinned (OpenSpec.ofChange runsZeroSpec)

/-- ITS FALSE NEIGHBOUR: 'it returns false'. Refute it at one input. -/
def runsZeroWrong : ChangeSpec := { name := "runsZero", fn := fun _ => fun
  | [d] => { results := [.lit (.bool false)], args := [d] }
  | _ => none }
def RunsZeroWrongFalsely : Prop := runsZeroRow.holds Try.pinned (OpenSpec.ofChange runsZeroWrong)

/-- 'quillkeep.DistSwaps': WHATEVER THE INPUT: true; the input reads as it did. -/
def distSwapsSpec : ChangeSpec := { name := "distSwaps", fn := fun _ => fun
  | [d1, d2, d3] => { results := [.lit (.bool true)], args := [d1, d2, d3] }
  | _ => none }
def distSwapsRow : OpenClaim := { program := "ytccbfhaoepomnaa", sum := "49a17b0f2da234aa21754481be1ed4b6f40b66cd4cb60fbb18c5de6725a3b566", func := "quillward/quillkeep.DistSwaps", spec := "distSwaps", unfollowed := true, recurses := true, apart := false }
def DistSwapsSaid : Prop := distSwapsRow.holds Try.pinned (OpenSpec.ofChange distSwapsSpec)

/-- ITS FALSE NEIGHBOUR: 'it returns false'. Refute it at one input. -/
def distSwapsWrong : ChangeSpec := { name := "distSwaps", fn := fun _ => fun
  | [d1, d2, d3] => { results := [.lit (.bool false)], args := [d1, d2, d3] }
  | _ => none }
def DistSwapsWrongFalsely : Prop := distSwapsRow.holds Try.pinned (OpenSpec.ofChange distSwapsWrong)

/-- 'quillkeep.SameBounds': WHATEVER THE INPUT: true; the input reads as it did. -/
def sameBoundsSpec : ChangeSpec := { name := "sameBounds", fn := fun _ => fun
  | [d1, d2] => { results := [.lit (.bool true)], args := [d1, d2] }
  | _ => none }
def sameBoundsRow : OpenClaim := { program := "ytccbfhaoepomnaa", sum := "49a17b0f2da234aa21754481be1ed4b6f40b66cd4cb60fbb18c5de6725a3b566", func := "quillward/quillkeep.SameBounds", spec := "sameBounds", unfollowed := true, recurses := true, apart := false }
def SameBoundsSaid : Prop := sameBoundsRow.holds Try.pinned (OpenSpec.ofChange sameBoundsSpec)

/-- ITS FALSE NEIGHBOUR: 'it returns false'. Refute it at one input. -/
def sameBoundsWrong : ChangeSpec := { name := "sameBounds", fn := fun _ => fun
  | [d1, d2] => { results := [.lit (.bool false)], args := [d1, d2] }
  | _ => none }
def SameBoundsWrongFalsely : Prop := sameBoundsRow.holds Try.pinned (OpenSpec.ofChange sameBoundsWrong)

/-- 'quillkeep.SameWord': WHATEVER THE INPUT: true; the input reads as it did. -/
def sameWordSpec : ChangeSpec := { name := "sameWord", fn := fun _ => fun
  | [d1, d2, d3] => { results := [.lit (.bool true)], args := [d1, d2, d3] }
  | _ => none }
def sameWordRow : OpenClaim := { program := "ytccbfhaoepomnaa", sum := "49a17b0f2da234aa21754481be1ed4b6f40b66cd4cb60fbb18c5de6725a3b566", func := "quillward/quillkeep.SameWord", spec := "sameWord", unfollowed := true, recurses := true, apart := false }
def SameWordSaid : Prop := sameWordRow.holds Try.pinned (OpenSpec.ofChange sameWordSpec)

/-- ITS FALSE NEIGHBOUR: 'it returns false'. Refute it at one input. -/
def sameWordWrong : ChangeSpec := { name := "sameWord", fn := fun _ => fun
  | [d1, d2, d3] => { results := [.lit (.bool false)], args := [d1, d2, d3] }
  | _ => none }
def SameWordWrongFalsely : Prop := sameWordRow.holds Try.pinned (OpenSpec.ofChange sameWordWrong)

/-- 'quillkeep.DistSame': WHATEVER THE INPUT: true; the input reads as it did. -/
def distSameSpec : ChangeSpec := { name := "distSame", fn := fun _ => fun
  | [d1, d2] => { results := [.lit (.bool true)], args := [d1, d2] }
  | _ => none }
def distSameRow : OpenClaim := { program := "ytccbfhaoepomnaa", sum := "49a17b0f2da234aa21754481be1ed4b6f40b66cd4cb60fbb18c5de6725a3b566", func := "quillward/quillkeep.DistSame", spec := "distSame", unfollowed := true, recurses := true, apart := false }
def DistSameSaid : Prop := distSameRow.holds Try.pinned (OpenSpec.ofChange distSameSpec)

/-- ITS FALSE NEIGHBOUR: 'it returns false'. Refute it at one input. -/
def distSameWrong : ChangeSpec := { name := "distSame", fn := fun _ => fun
  | [d1, d2] => { results := [.lit (.bool false)], args := [d1, d2] }
  | _ => none }
def DistSameWrongFalsely : Prop := distSameRow.holds Try.pinned (OpenSpec.ofChange distSameWrong)

/-- 'quillkeep.DistNear': WHATEVER THE INPUT: true; the input reads as it did. -/
def distNearSpec : ChangeSpec := { name := "distNear", fn := fun _ => fun
  | [d1, d2, d3, d4, d5] => { results := [.lit (.bool true)], args := [d1, d2, d3, d4, d5] }
  | _ => none }
def distNearRow : OpenClaim := { program := "ytccbfhaoepomnaa", sum := "49a17b0f2da234aa21754481be1ed4b6f40b66cd4cb60fbb18c5de6725a3b566", func := "quillward/quillkeep.DistNear", spec := "distNear", unfollowed := true, recurses := true, apart := false }
def DistNearSaid : Prop := distNearRow.holds Try.pinned (OpenSpec.ofChange distNearSpec)

/-- ITS FALSE NEIGHBOUR: 'it returns false'. Refute it at one input. -/
def distNearWrong : ChangeSpec := { name := "distNear", fn := fun _ => fun
  | [d1, d2, d3, d4, d5] => { results := [.lit (.bool false)], args := [d1, d2, d3, d4, d5] }
  | _ => none }
def DistNearWrongFalsely : Prop := distNearRow.holds Try.pinned (OpenSpec.ofChange distNearWrong)

/-- 'quillkeep.RingLine': WHATEVER THE INPUT: true; the input reads as it did. -/
def ringLineSpec : ChangeSpec := { name := "ringLine", fn := fun _ => fun
  | [d1, d2, d3] => { results := [.lit (.bool true)], args := [d1, d2, d3] }
  | _ => none }
def ringLineRow : OpenClaim := { program := "ytccbfhaoepomnaa", sum := "49a17b0f2da234aa21754481be1ed4b6f40b66cd4cb60fbb18c5de6725a3b566", func := "quillward/quillkeep.RingLine", spec := "ringLine", apart := false }
def RingLineSaid : Prop := ringLineRow.holds Try.pinned (OpenSpec.ofChange ringLineSpec)

/-- ITS FALSE NEIGHBOUR: 'it returns false'. Refute it at one input. -/
def ringLineWrong : ChangeSpec := { name := "ringLine", fn := fun _ => fun
  | [d1, d2, d3] => { results := [.lit (.bool false)], args := [d1, d2, d3] }
  | _ => none }
def RingLineWrongFalsely : Prop := ringLineRow.holds Try.pinned (OpenSpec.ofChange ringLineWrong)

/-- 'quillkeep.PhraseBack': WHATEVER THE INPUT: true; the input reads as it did. -/
def phraseBackSpec : ChangeSpec := { name := "phraseBack", fn := fun _ => fun
  | [d] => { results := [.lit (.bool true)], args := [d] }
  | _ => none }
def phraseBackRow : OpenClaim := { program := "ytccbfhaoepomnaa", sum := "49a17b0f2da234aa21754481be1ed4b6f40b66cd4cb60fbb18c5de6725a3b566", func := "quillward/quillkeep.PhraseBack", spec := "phraseBack", unfollowed := true, recurses := true, apart := false }
def PhraseBackSaid : Prop := phraseBackRow.holds Try.pinned (OpenSpec.ofChange phraseBackSpec)

/-- ITS FALSE NEIGHBOUR: 'it returns false'. Refute it at one input. -/
def phraseBackWrong : ChangeSpec := { name := "phraseBack", fn := fun _ => fun
  | [d] => { results := [.lit (.bool false)], args := [d] }
  | _ => none }
def PhraseBackWrongFalsely : Prop := phraseBackRow.holds Try.pinned (OpenSpec.ofChange phraseBackWrong)

/- THE SECOND FORM. 'bulk': how many values and letters a reading holds, each counted each time it is reached (what is shared counts as often as it is met; a slice's spare places count too). A statement '..UptoSaid' is the law's where the arguments, and the package variables that the reading takes, are together of bulk at most 1048576: NARROWER than '..Said'. Prove '..Said' where nothing that the law and all that it calls make is longer than what came in: it says more and counts as full. Else prove '..UptoSaid'. A law counts once. -/
mutual
def uptoBulk {H : Type} : DataW H → Nat
  | .lit (.string bytes) => bytes.length + 1
  | .lit _ => 1
  | .nil => 1
  | .ptr d => uptoBulk d + 1
  | .slice elems spare => uptoBulkAll elems + uptoBulkAll spare + 1
  | .agg parts => uptoBulkAll parts + 1
  | .iface _ d => uptoBulk d + 1
  | .map entries => uptoBulkEntries entries + 1
  | .held _ => 1
def uptoBulkAll {H : Type} : List (DataW H) → Nat
  | [] => 0
  | d :: r => uptoBulk d + uptoBulkAll r
def uptoBulkEntries {H : Type} : List (Lit × DataW H) → Nat
  | [] => 0
  | x :: r => uptoBulkEntry x + uptoBulkEntries r
def uptoBulkEntry {H : Type} : Lit × DataW H → Nat
  | (.string bytes, d) => bytes.length + uptoBulk d + 1
  | (_, d) => uptoBulk d + 1
 end
def uptoSmall : (H : Type) → List (DataW H) → Bool := fun _ ds => decide (uptoBulkAll ds ≤ 1048576)
def OpenSpec.upto (s : _root_.Go.ChangeSpec) : _root_.Go.OpenSpec := { _root_.Go.OpenSpec.ofChange s with cond := some uptoSmall }

/-- 'quillkeep.FrontFew', WHERE WHAT IT READS IS OF BULK AT MOST 1048576: true; the input reads as it did. -/
def frontFewUptoRow : OpenClaim := { program := "ytccbfhaoepomnaa", sum := "49a17b0f2da234aa21754481be1ed4b6f40b66cd4cb60fbb18c5de6725a3b566", func := "quillward/quillkeep.FrontFew", spec := "frontFew", apart := false, narrowed := true }
def FrontFewUptoSaid : Prop := frontFewUptoRow.holds Try.pinned (OpenSpec.upto frontFewSpec)

/-- 'quillkeep.SameJoins', WHERE WHAT IT READS IS OF BULK AT MOST 1048576: true; the input reads as it did. -/
def sameJoinsUptoRow : OpenClaim := { program := "ytccbfhaoepomnaa", sum := "49a17b0f2da234aa21754481be1ed4b6f40b66cd4cb60fbb18c5de6725a3b566", func := "quillward/quillkeep.SameJoins", spec := "sameJoins", unfollowed := true, recurses := true, apart := false, narrowed := true }
def SameJoinsUptoSaid : Prop := sameJoinsUptoRow.holds Try.pinned (OpenSpec.upto sameJoinsSpec)

/-- 'quillkeep.FrontBack', WHERE WHAT IT READS IS OF BULK AT MOST 1048576: true; the input reads as it did. -/
def frontBackUptoRow : OpenClaim := { program := "ytccbfhaoepomnaa", sum := "49a17b0f2da234aa21754481be1ed4b6f40b66cd4cb60fbb18c5de6725a3b566", func := "quillward/quillkeep.FrontBack", spec := "frontBack", apart := false, narrowed := true }
def FrontBackUptoSaid : Prop := frontBackUptoRow.holds Try.pinned (OpenSpec.upto frontBackSpec)

/-- 'quillkeep.FrontOne', WHERE WHAT IT READS IS OF BULK AT MOST 1048576: true; the input reads as it did. -/
def frontOneUptoRow : OpenClaim := { program := "ytccbfhaoepomnaa", sum := "49a17b0f2da234aa21754481be1ed4b6f40b66cd4cb60fbb18c5de6725a3b566", func := "quillward/quillkeep.FrontOne", spec := "frontOne", apart := false, narrowed := true }
def FrontOneUptoSaid : Prop := frontOneUptoRow.holds Try.pinned (OpenSpec.upto frontOneSpec)

/-- 'quillkeep.RunsZero', WHERE WHAT IT READS IS OF BULK AT MOST 1048576: true; the input reads as it did. -/
def runsZeroUptoRow : OpenClaim := { program := "ytccbfhaoepomnaa", sum := "49a17b0f2da234aa21754481be1ed4b6f40b66cd4cb60fbb18c5de6725a3b566", func := "quillward/quillkeep.RunsZero", spec := "runsZero", apart := false, narrowed := true }
def RunsZeroUptoSaid : Prop := runsZeroUptoRow.holds Try.pinned (OpenSpec.upto runsZeroSpec)

/-- 'quillkeep.DistSwaps', WHERE WHAT IT READS IS OF BULK AT MOST 1048576: true; the input reads as it did. -/
def distSwapsUptoRow : OpenClaim := { program := "ytccbfhaoepomnaa", sum := "49a17b0f2da234aa21754481be1ed4b6f40b66cd4cb60fbb18c5de6725a3b566", func := "quillward/quillkeep.DistSwaps", spec := "distSwaps", unfollowed := true, recurses := true, apart := false, narrowed := true }
def DistSwapsUptoSaid : Prop := distSwapsUptoRow.holds Try.pinned (OpenSpec.upto distSwapsSpec)

/-- 'quillkeep.SameBounds', WHERE WHAT IT READS IS OF BULK AT MOST 1048576: true; the input reads as it did. -/
def sameBoundsUptoRow : OpenClaim := { program := "ytccbfhaoepomnaa", sum := "49a17b0f2da234aa21754481be1ed4b6f40b66cd4cb60fbb18c5de6725a3b566", func := "quillward/quillkeep.SameBounds", spec := "sameBounds", unfollowed := true, recurses := true, apart := false, narrowed := true }
def SameBoundsUptoSaid : Prop := sameBoundsUptoRow.holds Try.pinned (OpenSpec.upto sameBoundsSpec)

/-- 'quillkeep.SameWord', WHERE WHAT IT READS IS OF BULK AT MOST 1048576: true; the input reads as it did. -/
def sameWordUptoRow : OpenClaim := { program := "ytccbfhaoepomnaa", sum := "49a17b0f2da234aa21754481be1ed4b6f40b66cd4cb60fbb18c5de6725a3b566", func := "quillward/quillkeep.SameWord", spec := "sameWord", unfollowed := true, recurses := true, apart := false, narrowed := true }
def SameWordUptoSaid : Prop := sameWordUptoRow.holds Try.pinned (OpenSpec.upto sameWordSpec)

/-- 'quillkeep.DistSame', WHERE WHAT IT READS IS OF BULK AT MOST 1048576: true; the input reads as it did. -/
def distSameUptoRow : OpenClaim := { program := "ytccbfhaoepomnaa", sum := "49a17b0f2da234aa21754481be1ed4b6f40b66cd4cb60fbb18c5de6725a3b566", func := "quillward/quillkeep.DistSame", spec := "distSame", unfollowed := true, recurses := true, apart := false, narrowed := true }
def DistSameUptoSaid : Prop := distSameUptoRow.holds Try.pinned (OpenSpec.upto distSameSpec)

/-- 'quillkeep.DistNear', WHERE WHAT IT READS IS OF BULK AT MOST 1048576: true; the input reads as it did. -/
def distNearUptoRow : OpenClaim := { program := "ytccbfhaoepomnaa", sum := "49a17b0f2da234aa21754481be1ed4b6f40b66cd4cb60fbb18c5de6725a3b566", func := "quillward/quillkeep.DistNear", spec := "distNear", unfollowed := true, recurses := true, apart := false, narrowed := true }
def DistNearUptoSaid : Prop := distNearUptoRow.holds Try.pinned (OpenSpec.upto distNearSpec)

/-- 'quillkeep.RingLine', WHERE WHAT IT READS IS OF BULK AT MOST 1048576: true; the input reads as it did. -/
def ringLineUptoRow : OpenClaim := { program := "ytccbfhaoepomnaa", sum := "49a17b0f2da234aa21754481be1ed4b6f40b66cd4cb60fbb18c5de6725a3b566", func := "quillward/quillkeep.RingLine", spec := "ringLine", apart := false, narrowed := true }
def RingLineUptoSaid : Prop := ringLineUptoRow.holds Try.pinned (OpenSpec.upto ringLineSpec)

/-- 'quillkeep.PhraseBack', WHERE WHAT IT READS IS OF BULK AT MOST 1048576: true; the input reads as it did. -/
def phraseBackUptoRow : OpenClaim := { program := "ytccbfhaoepomnaa", sum := "49a17b0f2da234aa21754481be1ed4b6f40b66cd4cb60fbb18c5de6725a3b566", func := "quillward/quillkeep.PhraseBack", spec := "phraseBack", unfollowed := true, recurses := true, apart := false, narrowed := true }
def PhraseBackUptoSaid : Prop := phraseBackUptoRow.holds Try.pinned (OpenSpec.upto phraseBackSpec)

end Rows
end Go.Proofs.Ytccbfhaoepomnaa
