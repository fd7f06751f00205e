/-
  No cell of these rows narrows 'for every input' (looked for: loops, veiled, ifaces, maps, wideKeys, modest, calm, conditions, laid).
  DERIVED. THE GIVEN ROWS OF THIS SEAT. 12 by the template 'for every input the law returns true; each argument reads behind the call as it read before'; 0 by the template 'total and deterministic' (their statements: YtndnglaohjbapaaTotals.lean).
  GIVEN WITH THE SEED: the statements are not yours to turn. If you find one false, say at which input.
  Laid BY PROGRAM, IN A SANDBOX (cutbox-rows.mjs): the forced cells as the released guide's own fill.sh prints them over the translation fe6b9d58f087060c… (all of the seat's roots in one cut). By AI agents, Wed Nov 11 2026. No macro, syntax, notation, axiom, sorry.
-/
import Derived.Test.YtndnglaohjbapaaChecked
import GoSem.Claim
import GoSem.ClaimJoined
import GoSem.ClaimMapViews
import Derived.JoinedTies
import Derived.KernelRfl
namespace Go.Proofs.Ytndnglaohjbapaa
/- THE CELL 'sum', in the pinned program and in every row, IS THE sha256 OF THE DUMP (.gsa) THAT YtndnglaohjbapaaProg.lean LOADS. Nothing in Lean hashes anything: it is a label: what it is worth is what the hold of that sum in a sandbox is worth. -/
noncomputable def Try.pinned : Pinned := { name := "ytndnglaohjbapaa", sum := "fe6b9d58f087060c891b513b192d255c7a77ffcca2ea20989a0f19edec468098", checked := Try.checked }
namespace Rows
def none {H : Type} : Left H := { results := [], args := [] }

/-- 'quillkeep.SumThree': WHATEVER THE INPUT: true; the input reads as it did. -/
def sumThreeSpec : ChangeSpec := { name := "sumThree", fn := fun _ => fun
  | [d1, d2, d3] => { results := [.lit (.bool true)], args := [d1, d2, d3] }
  | _ => none }
def sumThreeRow : OpenClaim := { program := "ytndnglaohjbapaa", sum := "fe6b9d58f087060c891b513b192d255c7a77ffcca2ea20989a0f19edec468098", func := "quillward/quillkeep.SumThree", spec := "sumThree", apart := false }
def SumThreeSaid : Prop := sumThreeRow.holds Try.pinned (OpenSpec.ofChange sumThreeSpec)

/-- ITS FALSE NEIGHBOUR: 'it returns false'. Refute it at one input. -/
def sumThreeWrong : ChangeSpec := { name := "sumThree", fn := fun _ => fun
  | [d1, d2, d3] => { results := [.lit (.bool false)], args := [d1, d2, d3] }
  | _ => none }
def SumThreeWrongFalsely : Prop := sumThreeRow.holds Try.pinned (OpenSpec.ofChange sumThreeWrong)

/-- 'quillkeep.SumBurst': WHATEVER THE INPUT: true; the input reads as it did. -/
def sumBurstSpec : ChangeSpec := { name := "sumBurst", fn := fun _ => fun
  | [d1, d2, d3] => { results := [.lit (.bool true)], args := [d1, d2, d3] }
  | _ => none }
def sumBurstRow : OpenClaim := { program := "ytndnglaohjbapaa", sum := "fe6b9d58f087060c891b513b192d255c7a77ffcca2ea20989a0f19edec468098", func := "quillward/quillkeep.SumBurst", spec := "sumBurst", apart := false }
def SumBurstSaid : Prop := sumBurstRow.holds Try.pinned (OpenSpec.ofChange sumBurstSpec)

/-- ITS FALSE NEIGHBOUR: 'it returns false'. Refute it at one input. -/
def sumBurstWrong : ChangeSpec := { name := "sumBurst", fn := fun _ => fun
  | [d1, d2, d3] => { results := [.lit (.bool false)], args := [d1, d2, d3] }
  | _ => none }
def SumBurstWrongFalsely : Prop := sumBurstRow.holds Try.pinned (OpenSpec.ofChange sumBurstWrong)

/-- 'quillkeep.RingWitt': WHATEVER THE INPUT: true; the input reads as it did. -/
def ringWittSpec : ChangeSpec := { name := "ringWitt", fn := fun _ => fun
  | [d1, d2] => { results := [.lit (.bool true)], args := [d1, d2] }
  | _ => none }
def ringWittRow : OpenClaim := { program := "ytndnglaohjbapaa", sum := "fe6b9d58f087060c891b513b192d255c7a77ffcca2ea20989a0f19edec468098", func := "quillward/quillkeep.RingWitt", spec := "ringWitt", apart := false }
def RingWittSaid : Prop := ringWittRow.holds Try.pinned (OpenSpec.ofChange ringWittSpec)

/-- ITS FALSE NEIGHBOUR: 'it returns false'. Refute it at one input. -/
def ringWittWrong : ChangeSpec := { name := "ringWitt", fn := fun _ => fun
  | [d1, d2] => { results := [.lit (.bool false)], args := [d1, d2] }
  | _ => none }
def RingWittWrongFalsely : Prop := ringWittRow.holds Try.pinned (OpenSpec.ofChange ringWittWrong)

/-- 'quillkeep.DistMetric': WHATEVER THE INPUT: true; the input reads as it did. -/
def distMetricSpec : ChangeSpec := { name := "distMetric", fn := fun _ => fun
  | [d1, d2, d3] => { results := [.lit (.bool true)], args := [d1, d2, d3] }
  | _ => none }
def distMetricRow : OpenClaim := { program := "ytndnglaohjbapaa", sum := "fe6b9d58f087060c891b513b192d255c7a77ffcca2ea20989a0f19edec468098", func := "quillward/quillkeep.DistMetric", spec := "distMetric", apart := false }
def DistMetricSaid : Prop := distMetricRow.holds Try.pinned (OpenSpec.ofChange distMetricSpec)

/-- ITS FALSE NEIGHBOUR: 'it returns false'. Refute it at one input. -/
def distMetricWrong : ChangeSpec := { name := "distMetric", fn := fun _ => fun
  | [d1, d2, d3] => { results := [.lit (.bool false)], args := [d1, d2, d3] }
  | _ => none }
def DistMetricWrongFalsely : Prop := distMetricRow.holds Try.pinned (OpenSpec.ofChange distMetricWrong)

/-- 'quillkeep.DistTurned': WHATEVER THE INPUT: true; the input reads as it did. -/
def distTurnedSpec : ChangeSpec := { name := "distTurned", fn := fun _ => fun
  | [d1, d2, d3] => { results := [.lit (.bool true)], args := [d1, d2, d3] }
  | _ => none }
def distTurnedRow : OpenClaim := { program := "ytndnglaohjbapaa", sum := "fe6b9d58f087060c891b513b192d255c7a77ffcca2ea20989a0f19edec468098", func := "quillward/quillkeep.DistTurned", spec := "distTurned", apart := false }
def DistTurnedSaid : Prop := distTurnedRow.holds Try.pinned (OpenSpec.ofChange distTurnedSpec)

/-- ITS FALSE NEIGHBOUR: 'it returns false'. Refute it at one input. -/
def distTurnedWrong : ChangeSpec := { name := "distTurned", fn := fun _ => fun
  | [d1, d2, d3] => { results := [.lit (.bool false)], args := [d1, d2, d3] }
  | _ => none }
def DistTurnedWrongFalsely : Prop := distTurnedRow.holds Try.pinned (OpenSpec.ofChange distTurnedWrong)

/-- 'quillkeep.EditParts': WHATEVER THE INPUT: true; the input reads as it did. -/
def editPartsSpec : ChangeSpec := { name := "editParts", fn := fun _ => fun
  | [d1, d2, d3] => { results := [.lit (.bool true)], args := [d1, d2, d3] }
  | _ => none }
def editPartsRow : OpenClaim := { program := "ytndnglaohjbapaa", sum := "fe6b9d58f087060c891b513b192d255c7a77ffcca2ea20989a0f19edec468098", func := "quillward/quillkeep.EditParts", spec := "editParts", apart := false }
def EditPartsSaid : Prop := editPartsRow.holds Try.pinned (OpenSpec.ofChange editPartsSpec)

/-- ITS FALSE NEIGHBOUR: 'it returns false'. Refute it at one input. -/
def editPartsWrong : ChangeSpec := { name := "editParts", fn := fun _ => fun
  | [d1, d2, d3] => { results := [.lit (.bool false)], args := [d1, d2, d3] }
  | _ => none }
def EditPartsWrongFalsely : Prop := editPartsRow.holds Try.pinned (OpenSpec.ofChange editPartsWrong)

/-- 'quillkeep.LyndonEnds': WHATEVER THE INPUT: true; the input reads as it did. -/
def lyndonEndsSpec : ChangeSpec := { name := "lyndonEnds", fn := fun _ => fun
  | [d1, d2] => { results := [.lit (.bool true)], args := [d1, d2] }
  | _ => none }
def lyndonEndsRow : OpenClaim := { program := "ytndnglaohjbapaa", sum := "fe6b9d58f087060c891b513b192d255c7a77ffcca2ea20989a0f19edec468098", func := "quillward/quillkeep.LyndonEnds", spec := "lyndonEnds", apart := false }
def LyndonEndsSaid : Prop := lyndonEndsRow.holds Try.pinned (OpenSpec.ofChange lyndonEndsSpec)

/-- ITS FALSE NEIGHBOUR: 'it returns false'. Refute it at one input. -/
def lyndonEndsWrong : ChangeSpec := { name := "lyndonEnds", fn := fun _ => fun
  | [d1, d2] => { results := [.lit (.bool false)], args := [d1, d2] }
  | _ => none }
def LyndonEndsWrongFalsely : Prop := lyndonEndsRow.holds Try.pinned (OpenSpec.ofChange lyndonEndsWrong)

/-- 'quillkeep.MirrorArms': WHATEVER THE INPUT: true; the input reads as it did. -/
def mirrorArmsSpec : ChangeSpec := { name := "mirrorArms", fn := fun _ => fun
  | [d1, d2] => { results := [.lit (.bool true)], args := [d1, d2] }
  | _ => none }
def mirrorArmsRow : OpenClaim := { program := "ytndnglaohjbapaa", sum := "fe6b9d58f087060c891b513b192d255c7a77ffcca2ea20989a0f19edec468098", func := "quillward/quillkeep.MirrorArms", spec := "mirrorArms", apart := false }
def MirrorArmsSaid : Prop := mirrorArmsRow.holds Try.pinned (OpenSpec.ofChange mirrorArmsSpec)

/-- ITS FALSE NEIGHBOUR: 'it returns false'. Refute it at one input. -/
def mirrorArmsWrong : ChangeSpec := { name := "mirrorArms", fn := fun _ => fun
  | [d1, d2] => { results := [.lit (.bool false)], args := [d1, d2] }
  | _ => none }
def MirrorArmsWrongFalsely : Prop := mirrorArmsRow.holds Try.pinned (OpenSpec.ofChange mirrorArmsWrong)

/-- 'quillkeep.DistJoins': WHATEVER THE INPUT: true; the input reads as it did. -/
def distJoinsSpec : ChangeSpec := { name := "distJoins", fn := fun _ => fun
  | [d1, d2, d3, d4] => { results := [.lit (.bool true)], args := [d1, d2, d3, d4] }
  | _ => none }
def distJoinsRow : OpenClaim := { program := "ytndnglaohjbapaa", sum := "fe6b9d58f087060c891b513b192d255c7a77ffcca2ea20989a0f19edec468098", func := "quillward/quillkeep.DistJoins", spec := "distJoins", unfollowed := true, recurses := true, apart := false }
def DistJoinsSaid : Prop := distJoinsRow.holds Try.pinned (OpenSpec.ofChange distJoinsSpec)

/-- ITS FALSE NEIGHBOUR: 'it returns false'. Refute it at one input. -/
def distJoinsWrong : ChangeSpec := { name := "distJoins", fn := fun _ => fun
  | [d1, d2, d3, d4] => { results := [.lit (.bool false)], args := [d1, d2, d3, d4] }
  | _ => none }
def DistJoinsWrongFalsely : Prop := distJoinsRow.holds Try.pinned (OpenSpec.ofChange distJoinsWrong)

/-- 'quillkeep.RunsBack': WHATEVER THE INPUT: true; the input reads as it did. -/
def runsBackSpec : ChangeSpec := { name := "runsBack", fn := fun _ => fun
  | [d1, d2] => { results := [.lit (.bool true)], args := [d1, d2] }
  | _ => none }
def runsBackRow : OpenClaim := { program := "ytndnglaohjbapaa", sum := "fe6b9d58f087060c891b513b192d255c7a77ffcca2ea20989a0f19edec468098", func := "quillward/quillkeep.RunsBack", spec := "runsBack", apart := false }
def RunsBackSaid : Prop := runsBackRow.holds Try.pinned (OpenSpec.ofChange runsBackSpec)

/-- ITS FALSE NEIGHBOUR: 'it returns false'. Refute it at one input. -/
def runsBackWrong : ChangeSpec := { name := "runsBack", fn := fun _ => fun
  | [d1, d2] => { results := [.lit (.bool false)], args := [d1, d2] }
  | _ => none }
def RunsBackWrongFalsely : Prop := runsBackRow.holds Try.pinned (OpenSpec.ofChange runsBackWrong)

/-- 'quillkeep.RingMany': WHATEVER THE INPUT: true; the input reads as it did. -/
def ringManySpec : ChangeSpec := { name := "ringMany", fn := fun _ => fun
  | [d1, d2] => { results := [.lit (.bool true)], args := [d1, d2] }
  | _ => none }
def ringManyRow : OpenClaim := { program := "ytndnglaohjbapaa", sum := "fe6b9d58f087060c891b513b192d255c7a77ffcca2ea20989a0f19edec468098", func := "quillward/quillkeep.RingMany", spec := "ringMany", apart := false }
def RingManySaid : Prop := ringManyRow.holds Try.pinned (OpenSpec.ofChange ringManySpec)

/-- ITS FALSE NEIGHBOUR: 'it returns false'. Refute it at one input. -/
def ringManyWrong : ChangeSpec := { name := "ringMany", fn := fun _ => fun
  | [d1, d2] => { results := [.lit (.bool false)], args := [d1, d2] }
  | _ => none }
def RingManyWrongFalsely : Prop := ringManyRow.holds Try.pinned (OpenSpec.ofChange ringManyWrong)

/-- 'quillkeep.PhraseFront': WHATEVER THE INPUT: true; the input reads as it did. -/
def phraseFrontSpec : ChangeSpec := { name := "phraseFront", fn := fun _ => fun
  | [d1, d2] => { results := [.lit (.bool true)], args := [d1, d2] }
  | _ => none }
def phraseFrontRow : OpenClaim := { program := "ytndnglaohjbapaa", sum := "fe6b9d58f087060c891b513b192d255c7a77ffcca2ea20989a0f19edec468098", func := "quillward/quillkeep.PhraseFront", spec := "phraseFront", unfollowed := true, recurses := true, apart := false }
def PhraseFrontSaid : Prop := phraseFrontRow.holds Try.pinned (OpenSpec.ofChange phraseFrontSpec)

/-- ITS FALSE NEIGHBOUR: 'it returns false'. Refute it at one input. -/
def phraseFrontWrong : ChangeSpec := { name := "phraseFront", fn := fun _ => fun
  | [d1, d2] => { results := [.lit (.bool false)], args := [d1, d2] }
  | _ => none }
def PhraseFrontWrongFalsely : Prop := phraseFrontRow.holds Try.pinned (OpenSpec.ofChange phraseFrontWrong)

/- THE SECOND FORM. 'bulk': how many values and letters a reading holds, each counted each time it is reached (what is shared counts as often as it is met; a slice's spare places count too). A statement '..UptoSaid' is the law's where the arguments, and the package variables that the reading takes, are together of bulk at most 1048576: NARROWER than '..Said'. Prove '..Said' where nothing that the law and all that it calls make is longer than what came in: it says more and counts as full. Else prove '..UptoSaid'. A law counts once. -/
mutual
def uptoBulk {H : Type} : DataW H → Nat
  | .lit (.string bytes) => bytes.length + 1
  | .lit _ => 1
  | .nil => 1
  | .ptr d => uptoBulk d + 1
  | .slice elems spare => uptoBulkAll elems + uptoBulkAll spare + 1
  | .agg parts => uptoBulkAll parts + 1
  | .iface _ d => uptoBulk d + 1
  | .map entries => uptoBulkEntries entries + 1
  | .held _ => 1
def uptoBulkAll {H : Type} : List (DataW H) → Nat
  | [] => 0
  | d :: r => uptoBulk d + uptoBulkAll r
def uptoBulkEntries {H : Type} : List (Lit × DataW H) → Nat
  | [] => 0
  | x :: r => uptoBulkEntry x + uptoBulkEntries r
def uptoBulkEntry {H : Type} : Lit × DataW H → Nat
  | (.string bytes, d) => bytes.length + uptoBulk d + 1
  | (_, d) => uptoBulk d + 1
 end
def uptoSmall : (H : Type) → List (DataW H) → Bool := fun _ ds => decide (uptoBulkAll ds ≤ 1048576)
def OpenSpec.upto (s : _root_.Go.ChangeSpec) : _root_.Go.OpenSpec := { _root_.Go.OpenSpec.ofChange s with cond := some uptoSmall }

/-- 'quillkeep.SumThree', WHERE WHAT IT READS IS OF BULK AT MOST 1048576: true; the input reads as it did. -/
def sumThreeUptoRow : OpenClaim := { program := "ytndnglaohjbapaa", sum := "fe6b9d58f087060c891b513b192d255c7a77ffcca2ea20989a0f19edec468098", func := "quillward/quillkeep.SumThree", spec := "sumThree", apart := false, narrowed := true }
def SumThreeUptoSaid : Prop := sumThreeUptoRow.holds Try.pinned (OpenSpec.upto sumThreeSpec)

/-- 'quillkeep.SumBurst', WHERE WHAT IT READS IS OF BULK AT MOST 1048576: true; the input reads as it did. -/
def sumBurstUptoRow : OpenClaim := { program := "ytndnglaohjbapaa", sum := "fe6b9d58f087060c891b513b192d255c7a77ffcca2ea20989a0f19edec468098", func := "quillward/quillkeep.SumBurst", spec := "sumBurst", apart := false, narrowed := true }
def SumBurstUptoSaid : Prop := sumBurstUptoRow.holds Try.pinned (OpenSpec.upto sumBurstSpec)

/-- 'quillkeep.RingWitt', WHERE WHAT IT READS IS OF BULK AT MOST 1048576: true; the input reads as it did. -/
def ringWittUptoRow : OpenClaim := { program := "ytndnglaohjbapaa", sum := "fe6b9d58f087060c891b513b192d255c7a77ffcca2ea20989a0f19edec468098", func := "quillward/quillkeep.RingWitt", spec := "ringWitt", apart := false, narrowed := true }
def RingWittUptoSaid : Prop := ringWittUptoRow.holds Try.pinned (OpenSpec.upto ringWittSpec)

/-- 'quillkeep.DistMetric', WHERE WHAT IT READS IS OF BULK AT MOST 1048576: true; the input reads as it did. -/
def distMetricUptoRow : OpenClaim := { program := "ytndnglaohjbapaa", sum := "fe6b9d58f087060c891b513b192d255c7a77ffcca2ea20989a0f19edec468098", func := "quillward/quillkeep.DistMetric", spec := "distMetric", apart := false, narrowed := true }
def DistMetricUptoSaid : Prop := distMetricUptoRow.holds Try.pinned (OpenSpec.upto distMetricSpec)

/-- 'quillkeep.DistTurned', WHERE WHAT IT READS IS OF BULK AT MOST 1048576: true; the input reads as it did. -/
def distTurnedUptoRow : OpenClaim := { program := "ytndnglaohjbapaa", sum := "fe6b9d58f087060c891b513b192d255c7a77ffcca2ea20989a0f19edec468098", func := "quillward/quillkeep.DistTurned", spec := "distTurned", apart := false, narrowed := true }
def DistTurnedUptoSaid : Prop := distTurnedUptoRow.holds Try.pinned (OpenSpec.upto distTurnedSpec)

/-- 'quillkeep.EditParts', WHERE WHAT IT READS IS OF BULK AT MOST 1048576: true; the input reads as it did. -/
def editPartsUptoRow : OpenClaim := { program := "ytndnglaohjbapaa", sum := "fe6b9d58f087060c891b513b192d255c7a77ffcca2ea20989a0f19edec468098", func := "quillward/quillkeep.EditParts", spec := "editParts", apart := false, narrowed := true }
def EditPartsUptoSaid : Prop := editPartsUptoRow.holds Try.pinned (OpenSpec.upto editPartsSpec)

/-- 'quillkeep.LyndonEnds', WHERE WHAT IT READS IS OF BULK AT MOST 1048576: true; the input reads as it did. -/
def lyndonEndsUptoRow : OpenClaim := { program := "ytndnglaohjbapaa", sum := "fe6b9d58f087060c891b513b192d255c7a77ffcca2ea20989a0f19edec468098", func := "quillward/quillkeep.LyndonEnds", spec := "lyndonEnds", apart := false, narrowed := true }
def LyndonEndsUptoSaid : Prop := lyndonEndsUptoRow.holds Try.pinned (OpenSpec.upto lyndonEndsSpec)

/-- 'quillkeep.MirrorArms', WHERE WHAT IT READS IS OF BULK AT MOST 1048576: true; the input reads as it did. -/
def mirrorArmsUptoRow : OpenClaim := { program := "ytndnglaohjbapaa", sum := "fe6b9d58f087060c891b513b192d255c7a77ffcca2ea20989a0f19edec468098", func := "quillward/quillkeep.MirrorArms", spec := "mirrorArms", apart := false, narrowed := true }
def MirrorArmsUptoSaid : Prop := mirrorArmsUptoRow.holds Try.pinned (OpenSpec.upto mirrorArmsSpec)

/-- 'quillkeep.DistJoins', WHERE WHAT IT READS IS OF BULK AT MOST 1048576: true; the input reads as it did. -/
def distJoinsUptoRow : OpenClaim := { program := "ytndnglaohjbapaa", sum := "fe6b9d58f087060c891b513b192d255c7a77ffcca2ea20989a0f19edec468098", func := "quillward/quillkeep.DistJoins", spec := "distJoins", unfollowed := true, recurses := true, apart := false, narrowed := true }
def DistJoinsUptoSaid : Prop := distJoinsUptoRow.holds Try.pinned (OpenSpec.upto distJoinsSpec)

/-- 'quillkeep.RunsBack', WHERE WHAT IT READS IS OF BULK AT MOST 1048576: true; the input reads as it did. -/
def runsBackUptoRow : OpenClaim := { program := "ytndnglaohjbapaa", sum := "fe6b9d58f087060c891b513b192d255c7a77ffcca2ea20989a0f19edec468098", func := "quillward/quillkeep.RunsBack", spec := "runsBack", apart := false, narrowed := true }
def RunsBackUptoSaid : Prop := runsBackUptoRow.holds Try.pinned (OpenSpec.upto runsBackSpec)

/-- 'quillkeep.RingMany', WHERE WHAT IT READS IS OF BULK AT MOST 1048576: true; the input reads as it did. -/
def ringManyUptoRow : OpenClaim := { program := "ytndnglaohjbapaa", sum := "fe6b9d58f087060c891b513b192d255c7a77ffcca2ea20989a0f19edec468098", func := "quillward/quillkeep.RingMany", spec := "ringMany", apart := false, narrowed := true }
def RingManyUptoSaid : Prop := ringManyUptoRow.holds Try.pinned (OpenSpec.upto ringManySpec)

/-- 'quillkeep.PhraseFront', WHERE WHAT IT READS IS OF BULK AT MOST 1048576: true; the input reads as it did. -/
def phraseFrontUptoRow : OpenClaim := { program := "ytndnglaohjbapaa", sum := "fe6b9d58f087060c891b513b192d255c7a77ffcca2ea20989a0f19edec468098", func := "quillward/quillkeep.PhraseFront", spec := "phraseFront", unfollowed := true, recurses := true, apart := false, narrowed := true }
def PhraseFrontUptoSaid : Prop := phraseFrontUptoRow.holds Try.pinned (OpenSpec.upto phraseFrontSpec)

end Rows
end Go.Proofs.Ytndnglaohjbapaa
