/-
  No cell of these rows narrows 'for every input' (looked for: loops, veiled, ifaces, maps, wideKeys, modest, calm, conditions, laid).
  DERIVED. THE GIVEN ROWS OF THIS SEAT. 11 by the template 'for every input the law returns true; each argument reads behind the call as it read before'; 0 by the template 'total and deterministic' (their statements: YtookbaaicpapnaaTotals.lean).
  GIVEN WITH THE SEED: the statements are not yours to turn. If you find one false, say at which input.
  Laid BY PROGRAM, IN A SANDBOX (cutbox-rows.mjs): the forced cells as the released guide's own fill.sh prints them over the translation 829874f78160b0fc… (all of the seat's roots in one cut). By AI agents, Wed Nov 11 2026. No macro, syntax, notation, axiom, sorry.
-/
import Derived.Test.YtookbaaicpapnaaChecked
import GoSem.Claim
import GoSem.ClaimJoined
import GoSem.ClaimMapViews
import Derived.JoinedTies
import Derived.KernelRfl
namespace Go.Proofs.Ytookbaaicpapnaa
/- THE CELL 'sum', in the pinned program and in every row, IS THE sha256 OF THE DUMP (.gsa) THAT YtookbaaicpapnaaProg.lean LOADS. Nothing in Lean hashes anything: it is a label: what it is worth is what the hold of that sum in a sandbox is worth. -/
noncomputable def Try.pinned : Pinned := { name := "ytookbaaicpapnaa", sum := "829874f78160b0fcad296494fbb37c745f3c12a48d66631c6ffca324811ba07a", checked := Try.checked }
namespace Rows
def none {H : Type} : Left H := { results := [], args := [] }

/-- 'quillkeep.MergeSelf': WHATEVER THE INPUT: true; the input reads as it did. -/
def mergeSelfSpec : ChangeSpec := { name := "mergeSelf", fn := fun _ => fun
  | [d1, d2] => { results := [.lit (.bool true)], args := [d1, d2] }
  | _ => none }
def mergeSelfRow : OpenClaim := { program := "ytookbaaicpapnaa", sum := "829874f78160b0fcad296494fbb37c745f3c12a48d66631c6ffca324811ba07a", func := "quillward/quillkeep.MergeSelf", spec := "mergeSelf", unfollowed := true, recurses := true, apart := false }
def MergeSelfSaid : Prop := mergeSelfRow.holds Try.pinned (OpenSpec.ofChange mergeSelfSpec)

/-- ITS FALSE NEIGHBOUR: 'it returns false'. Refute it at one input. -/
def mergeSelfWrong : ChangeSpec := { name := "mergeSelf", fn := fun _ => fun
  | [d1, d2] => { results := [.lit (.bool false)], args := [d1, d2] }
  | _ => none }
def MergeSelfWrongFalsely : Prop := mergeSelfRow.holds Try.pinned (OpenSpec.ofChange mergeSelfWrong)

/-- 'quillkeep.MergeClash': WHATEVER THE INPUT: true; the input reads as it did. -/
def mergeClashSpec : ChangeSpec := { name := "mergeClash", fn := fun _ => fun
  | [d1, d2, d3] => { results := [.lit (.bool true)], args := [d1, d2, d3] }
  | _ => none }
def mergeClashRow : OpenClaim := { program := "ytookbaaicpapnaa", sum := "829874f78160b0fcad296494fbb37c745f3c12a48d66631c6ffca324811ba07a", func := "quillward/quillkeep.MergeClash", spec := "mergeClash", unfollowed := true, recurses := true, apart := false }
def MergeClashSaid : Prop := mergeClashRow.holds Try.pinned (OpenSpec.ofChange mergeClashSpec)

/-- ITS FALSE NEIGHBOUR: 'it returns false'. Refute it at one input. -/
def mergeClashWrong : ChangeSpec := { name := "mergeClash", fn := fun _ => fun
  | [d1, d2, d3] => { results := [.lit (.bool false)], args := [d1, d2, d3] }
  | _ => none }
def MergeClashWrongFalsely : Prop := mergeClashRow.holds Try.pinned (OpenSpec.ofChange mergeClashWrong)

/-- 'quillkeep.MergeMeets': WHATEVER THE INPUT: true; the input reads as it did. -/
def mergeMeetsSpec : ChangeSpec := { name := "mergeMeets", fn := fun _ => fun
  | [d1, d2, d3] => { results := [.lit (.bool true)], args := [d1, d2, d3] }
  | _ => none }
def mergeMeetsRow : OpenClaim := { program := "ytookbaaicpapnaa", sum := "829874f78160b0fcad296494fbb37c745f3c12a48d66631c6ffca324811ba07a", func := "quillward/quillkeep.MergeMeets", spec := "mergeMeets", unfollowed := true, recurses := true, apart := false }
def MergeMeetsSaid : Prop := mergeMeetsRow.holds Try.pinned (OpenSpec.ofChange mergeMeetsSpec)

/-- ITS FALSE NEIGHBOUR: 'it returns false'. Refute it at one input. -/
def mergeMeetsWrong : ChangeSpec := { name := "mergeMeets", fn := fun _ => fun
  | [d1, d2, d3] => { results := [.lit (.bool false)], args := [d1, d2, d3] }
  | _ => none }
def MergeMeetsWrongFalsely : Prop := mergeMeetsRow.holds Try.pinned (OpenSpec.ofChange mergeMeetsWrong)

/-- 'quillkeep.TrimGroups': WHATEVER THE INPUT: true; the input reads as it did. -/
def trimGroupsSpec : ChangeSpec := { name := "trimGroups", fn := fun _ => fun
  | [d1, d2, d3] => { results := [.lit (.bool true)], args := [d1, d2, d3] }
  | _ => none }
def trimGroupsRow : OpenClaim := { program := "ytookbaaicpapnaa", sum := "829874f78160b0fcad296494fbb37c745f3c12a48d66631c6ffca324811ba07a", func := "quillward/quillkeep.TrimGroups", spec := "trimGroups", apart := false }
def TrimGroupsSaid : Prop := trimGroupsRow.holds Try.pinned (OpenSpec.ofChange trimGroupsSpec)

/-- ITS FALSE NEIGHBOUR: 'it returns false'. Refute it at one input. -/
def trimGroupsWrong : ChangeSpec := { name := "trimGroups", fn := fun _ => fun
  | [d1, d2, d3] => { results := [.lit (.bool false)], args := [d1, d2, d3] }
  | _ => none }
def TrimGroupsWrongFalsely : Prop := trimGroupsRow.holds Try.pinned (OpenSpec.ofChange trimGroupsWrong)

/-- 'quillkeep.TrimUndone': WHATEVER THE INPUT: true; the input reads as it did. -/
def trimUndoneSpec : ChangeSpec := { name := "trimUndone", fn := fun _ => fun
  | [d1, d2] => { results := [.lit (.bool true)], args := [d1, d2] }
  | _ => none }
def trimUndoneRow : OpenClaim := { program := "ytookbaaicpapnaa", sum := "829874f78160b0fcad296494fbb37c745f3c12a48d66631c6ffca324811ba07a", func := "quillward/quillkeep.TrimUndone", spec := "trimUndone", unfollowed := true, recurses := true, apart := false }
def TrimUndoneSaid : Prop := trimUndoneRow.holds Try.pinned (OpenSpec.ofChange trimUndoneSpec)

/-- ITS FALSE NEIGHBOUR: 'it returns false'. Refute it at one input. -/
def trimUndoneWrong : ChangeSpec := { name := "trimUndone", fn := fun _ => fun
  | [d1, d2] => { results := [.lit (.bool false)], args := [d1, d2] }
  | _ => none }
def TrimUndoneWrongFalsely : Prop := trimUndoneRow.holds Try.pinned (OpenSpec.ofChange trimUndoneWrong)

/-- 'quillkeep.TrimSame': WHATEVER THE INPUT: true; the input reads as it did. -/
def trimSameSpec : ChangeSpec := { name := "trimSame", fn := fun _ => fun
  | [d1, d2] => { results := [.lit (.bool true)], args := [d1, d2] }
  | _ => none }
def trimSameRow : OpenClaim := { program := "ytookbaaicpapnaa", sum := "829874f78160b0fcad296494fbb37c745f3c12a48d66631c6ffca324811ba07a", func := "quillward/quillkeep.TrimSame", spec := "trimSame", apart := false }
def TrimSameSaid : Prop := trimSameRow.holds Try.pinned (OpenSpec.ofChange trimSameSpec)

/-- ITS FALSE NEIGHBOUR: 'it returns false'. Refute it at one input. -/
def trimSameWrong : ChangeSpec := { name := "trimSame", fn := fun _ => fun
  | [d1, d2] => { results := [.lit (.bool false)], args := [d1, d2] }
  | _ => none }
def TrimSameWrongFalsely : Prop := trimSameRow.holds Try.pinned (OpenSpec.ofChange trimSameWrong)

/-- 'quillkeep.DiffMetric': WHATEVER THE INPUT: true; the input reads as it did. -/
def diffMetricSpec : ChangeSpec := { name := "diffMetric", fn := fun _ => fun
  | [d1, d2, d3] => { results := [.lit (.bool true)], args := [d1, d2, d3] }
  | _ => none }
def diffMetricRow : OpenClaim := { program := "ytookbaaicpapnaa", sum := "829874f78160b0fcad296494fbb37c745f3c12a48d66631c6ffca324811ba07a", func := "quillward/quillkeep.DiffMetric", spec := "diffMetric", unfollowed := true, recurses := true, apart := false }
def DiffMetricSaid : Prop := diffMetricRow.holds Try.pinned (OpenSpec.ofChange diffMetricSpec)

/-- ITS FALSE NEIGHBOUR: 'it returns false'. Refute it at one input. -/
def diffMetricWrong : ChangeSpec := { name := "diffMetric", fn := fun _ => fun
  | [d1, d2, d3] => { results := [.lit (.bool false)], args := [d1, d2, d3] }
  | _ => none }
def DiffMetricWrongFalsely : Prop := diffMetricRow.holds Try.pinned (OpenSpec.ofChange diffMetricWrong)

/-- 'quillkeep.DiffMakes': WHATEVER THE INPUT: true; the input reads as it did. -/
def diffMakesSpec : ChangeSpec := { name := "diffMakes", fn := fun _ => fun
  | [d1, d2] => { results := [.lit (.bool true)], args := [d1, d2] }
  | _ => none }
def diffMakesRow : OpenClaim := { program := "ytookbaaicpapnaa", sum := "829874f78160b0fcad296494fbb37c745f3c12a48d66631c6ffca324811ba07a", func := "quillward/quillkeep.DiffMakes", spec := "diffMakes", unfollowed := true, recurses := true, apart := false }
def DiffMakesSaid : Prop := diffMakesRow.holds Try.pinned (OpenSpec.ofChange diffMakesSpec)

/-- ITS FALSE NEIGHBOUR: 'it returns false'. Refute it at one input. -/
def diffMakesWrong : ChangeSpec := { name := "diffMakes", fn := fun _ => fun
  | [d1, d2] => { results := [.lit (.bool false)], args := [d1, d2] }
  | _ => none }
def DiffMakesWrongFalsely : Prop := diffMakesRow.holds Try.pinned (OpenSpec.ofChange diffMakesWrong)

/-- 'quillkeep.DiffLeast': WHATEVER THE INPUT: true; the input reads as it did. -/
def diffLeastSpec : ChangeSpec := { name := "diffLeast", fn := fun _ => fun
  | [d1, d2] => { results := [.lit (.bool true)], args := [d1, d2] }
  | _ => none }
def diffLeastRow : OpenClaim := { program := "ytookbaaicpapnaa", sum := "829874f78160b0fcad296494fbb37c745f3c12a48d66631c6ffca324811ba07a", func := "quillward/quillkeep.DiffLeast", spec := "diffLeast", unfollowed := true, recurses := true, apart := false }
def DiffLeastSaid : Prop := diffLeastRow.holds Try.pinned (OpenSpec.ofChange diffLeastSpec)

/-- ITS FALSE NEIGHBOUR: 'it returns false'. Refute it at one input. -/
def diffLeastWrong : ChangeSpec := { name := "diffLeast", fn := fun _ => fun
  | [d1, d2] => { results := [.lit (.bool false)], args := [d1, d2] }
  | _ => none }
def DiffLeastWrongFalsely : Prop := diffLeastRow.holds Try.pinned (OpenSpec.ofChange diffLeastWrong)

/-- 'quillkeep.UndoBack': WHATEVER THE INPUT: true; the input reads as it did. -/
def undoBackSpec : ChangeSpec := { name := "undoBack", fn := fun _ => fun
  | [d1, d2, d3] => { results := [.lit (.bool true)], args := [d1, d2, d3] }
  | _ => none }
def undoBackRow : OpenClaim := { program := "ytookbaaicpapnaa", sum := "829874f78160b0fcad296494fbb37c745f3c12a48d66631c6ffca324811ba07a", func := "quillward/quillkeep.UndoBack", spec := "undoBack", unfollowed := true, recurses := true, apart := false }
def UndoBackSaid : Prop := undoBackRow.holds Try.pinned (OpenSpec.ofChange undoBackSpec)

/-- ITS FALSE NEIGHBOUR: 'it returns false'. Refute it at one input. -/
def undoBackWrong : ChangeSpec := { name := "undoBack", fn := fun _ => fun
  | [d1, d2, d3] => { results := [.lit (.bool false)], args := [d1, d2, d3] }
  | _ => none }
def UndoBackWrongFalsely : Prop := undoBackRow.holds Try.pinned (OpenSpec.ofChange undoBackWrong)

/-- 'quillkeep.UndoNew': WHATEVER THE INPUT: true; the input reads as it did. -/
def undoNewSpec : ChangeSpec := { name := "undoNew", fn := fun _ => fun
  | [d1, d2, d3, d4] => { results := [.lit (.bool true)], args := [d1, d2, d3, d4] }
  | _ => none }
def undoNewRow : OpenClaim := { program := "ytookbaaicpapnaa", sum := "829874f78160b0fcad296494fbb37c745f3c12a48d66631c6ffca324811ba07a", func := "quillward/quillkeep.UndoNew", spec := "undoNew", unfollowed := true, recurses := true, apart := false }
def UndoNewSaid : Prop := undoNewRow.holds Try.pinned (OpenSpec.ofChange undoNewSpec)

/-- ITS FALSE NEIGHBOUR: 'it returns false'. Refute it at one input. -/
def undoNewWrong : ChangeSpec := { name := "undoNew", fn := fun _ => fun
  | [d1, d2, d3, d4] => { results := [.lit (.bool false)], args := [d1, d2, d3, d4] }
  | _ => none }
def UndoNewWrongFalsely : Prop := undoNewRow.holds Try.pinned (OpenSpec.ofChange undoNewWrong)

/- THE SECOND FORM. 'bulk': how many values and letters a reading holds, each counted each time it is reached (what is shared counts as often as it is met; a slice's spare places count too). A statement '..UptoSaid' is the law's where the arguments, and the package variables that the reading takes, are together of bulk at most 1048576: NARROWER than '..Said'. Prove '..Said' where nothing that the law and all that it calls make is longer than what came in: it says more and counts as full. Else prove '..UptoSaid'. A law counts once. -/
mutual
def uptoBulk {H : Type} : DataW H → Nat
  | .lit (.string bytes) => bytes.length + 1
  | .lit _ => 1
  | .nil => 1
  | .ptr d => uptoBulk d + 1
  | .slice elems spare => uptoBulkAll elems + uptoBulkAll spare + 1
  | .agg parts => uptoBulkAll parts + 1
  | .iface _ d => uptoBulk d + 1
  | .map entries => uptoBulkEntries entries + 1
  | .held _ => 1
def uptoBulkAll {H : Type} : List (DataW H) → Nat
  | [] => 0
  | d :: r => uptoBulk d + uptoBulkAll r
def uptoBulkEntries {H : Type} : List (Lit × DataW H) → Nat
  | [] => 0
  | x :: r => uptoBulkEntry x + uptoBulkEntries r
def uptoBulkEntry {H : Type} : Lit × DataW H → Nat
  | (.string bytes, d) => bytes.length + uptoBulk d + 1
  | (_, d) => uptoBulk d + 1
 end
def uptoSmall : (H : Type) → List (DataW H) → Bool := fun _ ds => decide (uptoBulkAll ds ≤ 1048576)
def OpenSpec.upto (s : _root_.Go.ChangeSpec) : _root_.Go.OpenSpec := { _root_.Go.OpenSpec.ofChange s with cond := some uptoSmall }

/-- 'quillkeep.MergeSelf', WHERE WHAT IT READS IS OF BULK AT MOST 1048576: true; the input reads as it did. -/
def mergeSelfUptoRow : OpenClaim := { program := "ytookbaaicpapnaa", sum := "829874f78160b0fcad296494fbb37c745f3c12a48d66631c6ffca324811ba07a", func := "quillward/quillkeep.MergeSelf", spec := "mergeSelf", unfollowed := true, recurses := true, apart := false, narrowed := true }
def MergeSelfUptoSaid : Prop := mergeSelfUptoRow.holds Try.pinned (OpenSpec.upto mergeSelfSpec)

/-- 'quillkeep.MergeClash', WHERE WHAT IT READS IS OF BULK AT MOST 1048576: true; the input reads as it did. -/
def mergeClashUptoRow : OpenClaim := { program := "ytookbaaicpapnaa", sum := "829874f78160b0fcad296494fbb37c745f3c12a48d66631c6ffca324811ba07a", func := "quillward/quillkeep.MergeClash", spec := "mergeClash", unfollowed := true, recurses := true, apart := false, narrowed := true }
def MergeClashUptoSaid : Prop := mergeClashUptoRow.holds Try.pinned (OpenSpec.upto mergeClashSpec)

/-- 'quillkeep.MergeMeets', WHERE WHAT IT READS IS OF BULK AT MOST 1048576: true; the input reads as it did. -/
def mergeMeetsUptoRow : OpenClaim := { program := "ytookbaaicpapnaa", sum := "829874f78160b0fcad296494fbb37c745f3c12a48d66631c6ffca324811ba07a", func := "quillward/quillkeep.MergeMeets", spec := "mergeMeets", unfollowed := true, recurses := true, apart := false, narrowed := true }
def MergeMeetsUptoSaid : Prop := mergeMeetsUptoRow.holds Try.pinned (OpenSpec.upto mergeMeetsSpec)

/-- 'quillkeep.TrimGroups', WHERE WHAT IT READS IS OF BULK AT MOST 1048576: true; the input reads as it did. -/
def trimGroupsUptoRow : OpenClaim := { program := "ytookbaaicpapnaa", sum := "829874f78160b0fcad296494fbb37c745f3c12a48d66631c6ffca324811ba07a", func := "quillward/quillkeep.TrimGroups", spec := "trimGroups", apart := false, narrowed := true }
def TrimGroupsUptoSaid : Prop := trimGroupsUptoRow.holds Try.pinned (OpenSpec.upto trimGroupsSpec)

/-- 'quillkeep.TrimUndone', WHERE WHAT IT READS IS OF BULK AT MOST 1048576: true; the input reads as it did. -/
def trimUndoneUptoRow : OpenClaim := { program := "ytookbaaicpapnaa", sum := "829874f78160b0fcad296494fbb37c745f3c12a48d66631c6ffca324811ba07a", func := "quillward/quillkeep.TrimUndone", spec := "trimUndone", unfollowed := true, recurses := true, apart := false, narrowed := true }
def TrimUndoneUptoSaid : Prop := trimUndoneUptoRow.holds Try.pinned (OpenSpec.upto trimUndoneSpec)

/-- 'quillkeep.TrimSame', WHERE WHAT IT READS IS OF BULK AT MOST 1048576: true; the input reads as it did. -/
def trimSameUptoRow : OpenClaim := { program := "ytookbaaicpapnaa", sum := "829874f78160b0fcad296494fbb37c745f3c12a48d66631c6ffca324811ba07a", func := "quillward/quillkeep.TrimSame", spec := "trimSame", apart := false, narrowed := true }
def TrimSameUptoSaid : Prop := trimSameUptoRow.holds Try.pinned (OpenSpec.upto trimSameSpec)

/-- 'quillkeep.DiffMetric', WHERE WHAT IT READS IS OF BULK AT MOST 1048576: true; the input reads as it did. -/
def diffMetricUptoRow : OpenClaim := { program := "ytookbaaicpapnaa", sum := "829874f78160b0fcad296494fbb37c745f3c12a48d66631c6ffca324811ba07a", func := "quillward/quillkeep.DiffMetric", spec := "diffMetric", unfollowed := true, recurses := true, apart := false, narrowed := true }
def DiffMetricUptoSaid : Prop := diffMetricUptoRow.holds Try.pinned (OpenSpec.upto diffMetricSpec)

/-- 'quillkeep.DiffMakes', WHERE WHAT IT READS IS OF BULK AT MOST 1048576: true; the input reads as it did. -/
def diffMakesUptoRow : OpenClaim := { program := "ytookbaaicpapnaa", sum := "829874f78160b0fcad296494fbb37c745f3c12a48d66631c6ffca324811ba07a", func := "quillward/quillkeep.DiffMakes", spec := "diffMakes", unfollowed := true, recurses := true, apart := false, narrowed := true }
def DiffMakesUptoSaid : Prop := diffMakesUptoRow.holds Try.pinned (OpenSpec.upto diffMakesSpec)

/-- 'quillkeep.DiffLeast', WHERE WHAT IT READS IS OF BULK AT MOST 1048576: true; the input reads as it did. -/
def diffLeastUptoRow : OpenClaim := { program := "ytookbaaicpapnaa", sum := "829874f78160b0fcad296494fbb37c745f3c12a48d66631c6ffca324811ba07a", func := "quillward/quillkeep.DiffLeast", spec := "diffLeast", unfollowed := true, recurses := true, apart := false, narrowed := true }
def DiffLeastUptoSaid : Prop := diffLeastUptoRow.holds Try.pinned (OpenSpec.upto diffLeastSpec)

/-- 'quillkeep.UndoBack', WHERE WHAT IT READS IS OF BULK AT MOST 1048576: true; the input reads as it did. -/
def undoBackUptoRow : OpenClaim := { program := "ytookbaaicpapnaa", sum := "829874f78160b0fcad296494fbb37c745f3c12a48d66631c6ffca324811ba07a", func := "quillward/quillkeep.UndoBack", spec := "undoBack", unfollowed := true, recurses := true, apart := false, narrowed := true }
def UndoBackUptoSaid : Prop := undoBackUptoRow.holds Try.pinned (OpenSpec.upto undoBackSpec)

/-- 'quillkeep.UndoNew', WHERE WHAT IT READS IS OF BULK AT MOST 1048576: true; the input reads as it did. -/
def undoNewUptoRow : OpenClaim := { program := "ytookbaaicpapnaa", sum := "829874f78160b0fcad296494fbb37c745f3c12a48d66631c6ffca324811ba07a", func := "quillward/quillkeep.UndoNew", spec := "undoNew", unfollowed := true, recurses := true, apart := false, narrowed := true }
def UndoNewUptoSaid : Prop := undoNewUptoRow.holds Try.pinned (OpenSpec.upto undoNewSpec)

end Rows
end Go.Proofs.Ytookbaaicpapnaa
