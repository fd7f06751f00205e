/-
  No cell of these rows narrows 'for every input' (looked for: loops, veiled, ifaces, maps, wideKeys, modest, calm, conditions, laid).
  DERIVED. THE GIVEN ROWS OF THIS SEAT. 9 by the template 'for every input the law returns true; each argument reads behind the call as it read before'; 0 by the template 'total and deterministic' (their statements: YtbcendaiakeabaaTotals.lean).
  GIVEN WITH THE SEED: the statements are not yours to turn. If you find one false, say at which input.
  Laid BY PROGRAM, IN A SANDBOX (cutbox-rows.mjs): the forced cells as the released guide's own fill.sh prints them over the translation 39a442c543914653… (all of the seat's roots in one cut). By AI agents, Wed Nov 11 2026. No macro, syntax, notation, axiom, sorry.
-/
import Derived.Test.YtbcendaiakeabaaChecked
import GoSem.Claim
import GoSem.ClaimJoined
import GoSem.ClaimMapViews
import Derived.JoinedTies
import Derived.KernelRfl
namespace Go.Proofs.Ytbcendaiakeabaa
/- THE CELL 'sum', in the pinned program and in every row, IS THE sha256 OF THE DUMP (.gsa) THAT YtbcendaiakeabaaProg.lean LOADS. Nothing in Lean hashes anything: it is a label: what it is worth is what the hold of that sum in a sandbox is worth. -/
noncomputable def Try.pinned : Pinned := { name := "ytbcendaiakeabaa", sum := "39a442c543914653f77d8488f067150a6663b745aabfa63ba79ed14f7013fa79", checked := Try.checked }
namespace Rows
def none {H : Type} : Left H := { results := [], args := [] }

/-- 'quilltop.TopMirror': WHATEVER THE INPUT: true; the input reads as it did. -/
def topMirrorSpec : ChangeSpec := { name := "topMirror", fn := fun _ => fun
  | [d] => { results := [.lit (.bool true)], args := [d] }
  | _ => none }
def topMirrorRow : OpenClaim := { program := "ytbcendaiakeabaa", sum := "39a442c543914653f77d8488f067150a6663b745aabfa63ba79ed14f7013fa79", func := "quillward/quilltop.TopMirror", spec := "topMirror", inPlace := ["internal/bytealg.abigen_runtime_cmpstring"], unfollowed := true, recurses := true, apart := false }
def TopMirrorSaid : Prop := topMirrorRow.holds Try.pinned (OpenSpec.ofChange topMirrorSpec)

/-- ITS FALSE NEIGHBOUR: 'it returns false'. Refute it at one input. -/
def topMirrorWrong : ChangeSpec := { name := "topMirror", fn := fun _ => fun
  | [d] => { results := [.lit (.bool false)], args := [d] }
  | _ => none }
def TopMirrorWrongFalsely : Prop := topMirrorRow.holds Try.pinned (OpenSpec.ofChange topMirrorWrong)

/-- 'quillkeep.SameWord': WHATEVER THE INPUT: true; the input reads as it did. -/
def sameWordSpec : ChangeSpec := { name := "sameWord", fn := fun _ => fun
  | [d1, d2, d3] => { results := [.lit (.bool true)], args := [d1, d2, d3] }
  | _ => none }
def sameWordRow : OpenClaim := { program := "ytbcendaiakeabaa", sum := "39a442c543914653f77d8488f067150a6663b745aabfa63ba79ed14f7013fa79", func := "quillward/quillkeep.SameWord", spec := "sameWord", unfollowed := true, recurses := true, apart := false }
def SameWordSaid : Prop := sameWordRow.holds Try.pinned (OpenSpec.ofChange sameWordSpec)

/-- ITS FALSE NEIGHBOUR: 'it returns false'. Refute it at one input. -/
def sameWordWrong : ChangeSpec := { name := "sameWord", fn := fun _ => fun
  | [d1, d2, d3] => { results := [.lit (.bool false)], args := [d1, d2, d3] }
  | _ => none }
def SameWordWrongFalsely : Prop := sameWordRow.holds Try.pinned (OpenSpec.ofChange sameWordWrong)

/-- 'quilltop.TopPowers': WHATEVER THE INPUT: true; the input reads as it did. -/
def topPowersSpec : ChangeSpec := { name := "topPowers", fn := fun _ => fun
  | [d1, d2] => { results := [.lit (.bool true)], args := [d1, d2] }
  | _ => none }
def topPowersRow : OpenClaim := { program := "ytbcendaiakeabaa", sum := "39a442c543914653f77d8488f067150a6663b745aabfa63ba79ed14f7013fa79", func := "quillward/quilltop.TopPowers", spec := "topPowers", inPlace := ["internal/abi.NoEscape", "internal/bytealg.MakeNoZero", "internal/bytealg.abigen_runtime_cmpstring"], unfollowed := true, recurses := true, apart := false }
def TopPowersSaid : Prop := topPowersRow.holds Try.pinned (OpenSpec.ofChange topPowersSpec)

/-- ITS FALSE NEIGHBOUR: 'it returns false'. Refute it at one input. -/
def topPowersWrong : ChangeSpec := { name := "topPowers", fn := fun _ => fun
  | [d1, d2] => { results := [.lit (.bool false)], args := [d1, d2] }
  | _ => none }
def TopPowersWrongFalsely : Prop := topPowersRow.holds Try.pinned (OpenSpec.ofChange topPowersWrong)

/-- 'quillkeep.RingLine': WHATEVER THE INPUT: true; the input reads as it did. -/
def ringLineSpec : ChangeSpec := { name := "ringLine", fn := fun _ => fun
  | [d1, d2, d3] => { results := [.lit (.bool true)], args := [d1, d2, d3] }
  | _ => none }
def ringLineRow : OpenClaim := { program := "ytbcendaiakeabaa", sum := "39a442c543914653f77d8488f067150a6663b745aabfa63ba79ed14f7013fa79", func := "quillward/quillkeep.RingLine", spec := "ringLine", apart := false }
def RingLineSaid : Prop := ringLineRow.holds Try.pinned (OpenSpec.ofChange ringLineSpec)

/-- ITS FALSE NEIGHBOUR: 'it returns false'. Refute it at one input. -/
def ringLineWrong : ChangeSpec := { name := "ringLine", fn := fun _ => fun
  | [d1, d2, d3] => { results := [.lit (.bool false)], args := [d1, d2, d3] }
  | _ => none }
def RingLineWrongFalsely : Prop := ringLineRow.holds Try.pinned (OpenSpec.ofChange ringLineWrong)

/-- 'quillkeep.SeekFronts': WHATEVER THE INPUT: true; the input reads as it did. -/
def seekFrontsSpec : ChangeSpec := { name := "seekFronts", fn := fun _ => fun
  | [d1, d2] => { results := [.lit (.bool true)], args := [d1, d2] }
  | _ => none }
def seekFrontsRow : OpenClaim := { program := "ytbcendaiakeabaa", sum := "39a442c543914653f77d8488f067150a6663b745aabfa63ba79ed14f7013fa79", func := "quillward/quillkeep.SeekFronts", spec := "seekFronts", unfollowed := true, recurses := true, apart := false }
def SeekFrontsSaid : Prop := seekFrontsRow.holds Try.pinned (OpenSpec.ofChange seekFrontsSpec)

/-- ITS FALSE NEIGHBOUR: 'it returns false'. Refute it at one input. -/
def seekFrontsWrong : ChangeSpec := { name := "seekFronts", fn := fun _ => fun
  | [d1, d2] => { results := [.lit (.bool false)], args := [d1, d2] }
  | _ => none }
def SeekFrontsWrongFalsely : Prop := seekFrontsRow.holds Try.pinned (OpenSpec.ofChange seekFrontsWrong)

/-- 'quillkeep.SeekPuts': WHATEVER THE INPUT: true; the input reads as it did. -/
def seekPutsSpec : ChangeSpec := { name := "seekPuts", fn := fun _ => fun
  | [d1, d2, d3] => { results := [.lit (.bool true)], args := [d1, d2, d3] }
  | _ => none }
def seekPutsRow : OpenClaim := { program := "ytbcendaiakeabaa", sum := "39a442c543914653f77d8488f067150a6663b745aabfa63ba79ed14f7013fa79", func := "quillward/quillkeep.SeekPuts", spec := "seekPuts", inPlace := ["internal/bytealg.IndexByteString", "internal/bytealg.IndexString"], named := ["internal/bytealg.MaxLen"], apart := false }
def SeekPutsSaid : Prop := seekPutsRow.holds Try.pinned (OpenSpec.ofChange seekPutsSpec)

/-- ITS FALSE NEIGHBOUR: 'it returns false'. Refute it at one input. -/
def seekPutsWrong : ChangeSpec := { name := "seekPuts", fn := fun _ => fun
  | [d1, d2, d3] => { results := [.lit (.bool false)], args := [d1, d2, d3] }
  | _ => none }
def SeekPutsWrongFalsely : Prop := seekPutsRow.holds Try.pinned (OpenSpec.ofChange seekPutsWrong)

/-- 'quillkeep.TreeShannon': WHATEVER THE INPUT: true; the input reads as it did. -/
def treeShannonSpec : ChangeSpec := { name := "treeShannon", fn := fun _ => fun
  | [d] => { results := [.lit (.bool true)], args := [d] }
  | _ => none }
def treeShannonRow : OpenClaim := { program := "ytbcendaiakeabaa", sum := "39a442c543914653f77d8488f067150a6663b745aabfa63ba79ed14f7013fa79", func := "quillward/quillkeep.TreeShannon", spec := "treeShannon", unfollowed := true, recurses := true, apart := false }
def TreeShannonSaid : Prop := treeShannonRow.holds Try.pinned (OpenSpec.ofChange treeShannonSpec)

/-- ITS FALSE NEIGHBOUR: 'it returns false'. Refute it at one input. -/
def treeShannonWrong : ChangeSpec := { name := "treeShannon", fn := fun _ => fun
  | [d] => { results := [.lit (.bool false)], args := [d] }
  | _ => none }
def TreeShannonWrongFalsely : Prop := treeShannonRow.holds Try.pinned (OpenSpec.ofChange treeShannonWrong)

/-- 'quillkeep.TreeLeast': WHATEVER THE INPUT: true; the input reads as it did. -/
def treeLeastSpec : ChangeSpec := { name := "treeLeast", fn := fun _ => fun
  | [d1, d2] => { results := [.lit (.bool true)], args := [d1, d2] }
  | _ => none }
def treeLeastRow : OpenClaim := { program := "ytbcendaiakeabaa", sum := "39a442c543914653f77d8488f067150a6663b745aabfa63ba79ed14f7013fa79", func := "quillward/quillkeep.TreeLeast", spec := "treeLeast", unfollowed := true, recurses := true, apart := false }
def TreeLeastSaid : Prop := treeLeastRow.holds Try.pinned (OpenSpec.ofChange treeLeastSpec)

/-- ITS FALSE NEIGHBOUR: 'it returns false'. Refute it at one input. -/
def treeLeastWrong : ChangeSpec := { name := "treeLeast", fn := fun _ => fun
  | [d1, d2] => { results := [.lit (.bool false)], args := [d1, d2] }
  | _ => none }
def TreeLeastWrongFalsely : Prop := treeLeastRow.holds Try.pinned (OpenSpec.ofChange treeLeastWrong)

/-- 'quillkeep.TreeHeavy': WHATEVER THE INPUT: true; the input reads as it did. -/
def treeHeavySpec : ChangeSpec := { name := "treeHeavy", fn := fun _ => fun
  | [d1, d2] => { results := [.lit (.bool true)], args := [d1, d2] }
  | _ => none }
def treeHeavyRow : OpenClaim := { program := "ytbcendaiakeabaa", sum := "39a442c543914653f77d8488f067150a6663b745aabfa63ba79ed14f7013fa79", func := "quillward/quillkeep.TreeHeavy", spec := "treeHeavy", unfollowed := true, recurses := true, apart := false }
def TreeHeavySaid : Prop := treeHeavyRow.holds Try.pinned (OpenSpec.ofChange treeHeavySpec)

/-- ITS FALSE NEIGHBOUR: 'it returns false'. Refute it at one input. -/
def treeHeavyWrong : ChangeSpec := { name := "treeHeavy", fn := fun _ => fun
  | [d1, d2] => { results := [.lit (.bool false)], args := [d1, d2] }
  | _ => none }
def TreeHeavyWrongFalsely : Prop := treeHeavyRow.holds Try.pinned (OpenSpec.ofChange treeHeavyWrong)

/- THE SECOND FORM. 'bulk': how many values and letters a reading holds, each counted each time it is reached (what is shared counts as often as it is met; a slice's spare places count too). A statement '..UptoSaid' is the law's where the arguments, and the package variables that the reading takes, are together of bulk at most 1048576: NARROWER than '..Said'. Prove '..Said' where nothing that the law and all that it calls make is longer than what came in: it says more and counts as full. Else prove '..UptoSaid'. A law counts once. -/
mutual
def uptoBulk {H : Type} : DataW H → Nat
  | .lit (.string bytes) => bytes.length + 1
  | .lit _ => 1
  | .nil => 1
  | .ptr d => uptoBulk d + 1
  | .slice elems spare => uptoBulkAll elems + uptoBulkAll spare + 1
  | .agg parts => uptoBulkAll parts + 1
  | .iface _ d => uptoBulk d + 1
  | .map entries => uptoBulkEntries entries + 1
  | .held _ => 1
def uptoBulkAll {H : Type} : List (DataW H) → Nat
  | [] => 0
  | d :: r => uptoBulk d + uptoBulkAll r
def uptoBulkEntries {H : Type} : List (Lit × DataW H) → Nat
  | [] => 0
  | x :: r => uptoBulkEntry x + uptoBulkEntries r
def uptoBulkEntry {H : Type} : Lit × DataW H → Nat
  | (.string bytes, d) => bytes.length + uptoBulk d + 1
  | (_, d) => uptoBulk d + 1
 end
def uptoSmall : (H : Type) → List (DataW H) → Bool := fun _ ds => decide (uptoBulkAll ds ≤ 1048576)
def OpenSpec.upto (s : _root_.Go.ChangeSpec) : _root_.Go.OpenSpec := { _root_.Go.OpenSpec.ofChange s with cond := some uptoSmall }

/-- 'quilltop.TopMirror', WHERE WHAT IT READS IS OF BULK AT MOST 1048576: true; the input reads as it did. -/
def topMirrorUptoRow : OpenClaim := { program := "ytbcendaiakeabaa", sum := "39a442c543914653f77d8488f067150a6663b745aabfa63ba79ed14f7013fa79", func := "quillward/quilltop.TopMirror", spec := "topMirror", inPlace := ["internal/bytealg.abigen_runtime_cmpstring"], unfollowed := true, recurses := true, apart := false, narrowed := true }
def TopMirrorUptoSaid : Prop := topMirrorUptoRow.holds Try.pinned (OpenSpec.upto topMirrorSpec)

/-- 'quillkeep.SameWord', WHERE WHAT IT READS IS OF BULK AT MOST 1048576: true; the input reads as it did. -/
def sameWordUptoRow : OpenClaim := { program := "ytbcendaiakeabaa", sum := "39a442c543914653f77d8488f067150a6663b745aabfa63ba79ed14f7013fa79", func := "quillward/quillkeep.SameWord", spec := "sameWord", unfollowed := true, recurses := true, apart := false, narrowed := true }
def SameWordUptoSaid : Prop := sameWordUptoRow.holds Try.pinned (OpenSpec.upto sameWordSpec)

/-- 'quilltop.TopPowers', WHERE WHAT IT READS IS OF BULK AT MOST 1048576: true; the input reads as it did. -/
def topPowersUptoRow : OpenClaim := { program := "ytbcendaiakeabaa", sum := "39a442c543914653f77d8488f067150a6663b745aabfa63ba79ed14f7013fa79", func := "quillward/quilltop.TopPowers", spec := "topPowers", inPlace := ["internal/abi.NoEscape", "internal/bytealg.MakeNoZero", "internal/bytealg.abigen_runtime_cmpstring"], unfollowed := true, recurses := true, apart := false, narrowed := true }
def TopPowersUptoSaid : Prop := topPowersUptoRow.holds Try.pinned (OpenSpec.upto topPowersSpec)

/-- 'quillkeep.RingLine', WHERE WHAT IT READS IS OF BULK AT MOST 1048576: true; the input reads as it did. -/
def ringLineUptoRow : OpenClaim := { program := "ytbcendaiakeabaa", sum := "39a442c543914653f77d8488f067150a6663b745aabfa63ba79ed14f7013fa79", func := "quillward/quillkeep.RingLine", spec := "ringLine", apart := false, narrowed := true }
def RingLineUptoSaid : Prop := ringLineUptoRow.holds Try.pinned (OpenSpec.upto ringLineSpec)

/-- 'quillkeep.SeekFronts', WHERE WHAT IT READS IS OF BULK AT MOST 1048576: true; the input reads as it did. -/
def seekFrontsUptoRow : OpenClaim := { program := "ytbcendaiakeabaa", sum := "39a442c543914653f77d8488f067150a6663b745aabfa63ba79ed14f7013fa79", func := "quillward/quillkeep.SeekFronts", spec := "seekFronts", unfollowed := true, recurses := true, apart := false, narrowed := true }
def SeekFrontsUptoSaid : Prop := seekFrontsUptoRow.holds Try.pinned (OpenSpec.upto seekFrontsSpec)

/-- 'quillkeep.SeekPuts', WHERE WHAT IT READS IS OF BULK AT MOST 1048576: true; the input reads as it did. -/
def seekPutsUptoRow : OpenClaim := { program := "ytbcendaiakeabaa", sum := "39a442c543914653f77d8488f067150a6663b745aabfa63ba79ed14f7013fa79", func := "quillward/quillkeep.SeekPuts", spec := "seekPuts", inPlace := ["internal/bytealg.IndexByteString", "internal/bytealg.IndexString"], named := ["internal/bytealg.MaxLen"], apart := false, narrowed := true }
def SeekPutsUptoSaid : Prop := seekPutsUptoRow.holds Try.pinned (OpenSpec.upto seekPutsSpec)

/-- 'quillkeep.TreeShannon', WHERE WHAT IT READS IS OF BULK AT MOST 1048576: true; the input reads as it did. -/
def treeShannonUptoRow : OpenClaim := { program := "ytbcendaiakeabaa", sum := "39a442c543914653f77d8488f067150a6663b745aabfa63ba79ed14f7013fa79", func := "quillward/quillkeep.TreeShannon", spec := "treeShannon", unfollowed := true, recurses := true, apart := false, narrowed := true }
def TreeShannonUptoSaid : Prop := treeShannonUptoRow.holds Try.pinned (OpenSpec.upto treeShannonSpec)

/-- 'quillkeep.TreeLeast', WHERE WHAT IT READS IS OF BULK AT MOST 1048576: true; the input reads as it did. -/
def treeLeastUptoRow : OpenClaim := { program := "ytbcendaiakeabaa", sum := "39a442c543914653f77d8488f067150a6663b745aabfa63ba79ed14f7013fa79", func := "quillward/quillkeep.TreeLeast", spec := "treeLeast", unfollowed := true, recurses := true, apart := false, narrowed := true }
def TreeLeastUptoSaid : Prop := treeLeastUptoRow.holds Try.pinned (OpenSpec.upto treeLeastSpec)

/-- 'quillkeep.TreeHeavy', WHERE WHAT IT READS IS OF BULK AT MOST 1048576: true; the input reads as it did. -/
def treeHeavyUptoRow : OpenClaim := { program := "ytbcendaiakeabaa", sum := "39a442c543914653f77d8488f067150a6663b745aabfa63ba79ed14f7013fa79", func := "quillward/quillkeep.TreeHeavy", spec := "treeHeavy", unfollowed := true, recurses := true, apart := false, narrowed := true }
def TreeHeavyUptoSaid : Prop := treeHeavyUptoRow.holds Try.pinned (OpenSpec.upto treeHeavySpec)

end Rows
end Go.Proofs.Ytbcendaiakeabaa
