/-
  No cell of these rows narrows 'for every input' (looked for: loops, veiled, ifaces, maps, wideKeys, modest, calm, conditions, laid).
  DERIVED. THE GIVEN ROWS OF THIS SEAT. 10 by the template 'for every input the law returns true; each argument reads behind the call as it read before'; 0 by the template 'total and deterministic' (their statements: YtjdmfpoiniocmaaTotals.lean).
  GIVEN WITH THE SEED: the statements are not yours to turn. If you find one false, say at which input.
  Laid BY PROGRAM, IN A SANDBOX (cutbox-rows.mjs): the forced cells as the released guide's own fill.sh prints them over the translation 29af1f128c3a1e23… (all of the seat's roots in one cut). By AI agents, Wed Nov 11 2026. No macro, syntax, notation, axiom, sorry.
-/
import Derived.Test.YtjdmfpoiniocmaaChecked
import GoSem.Claim
import GoSem.ClaimJoined
import GoSem.ClaimMapViews
import Derived.JoinedTies
import Derived.KernelRfl
namespace Go.Proofs.Ytjdmfpoiniocmaa
/- THE CELL 'sum', in the pinned program and in every row, IS THE sha256 OF THE DUMP (.gsa) THAT YtjdmfpoiniocmaaProg.lean LOADS. Nothing in Lean hashes anything: it is a label: what it is worth is what the hold of that sum in a sandbox is worth. -/
noncomputable def Try.pinned : Pinned := { name := "ytjdmfpoiniocmaa", sum := "29af1f128c3a1e23879752c52f6b0e04e6a1cdce82251a38d6cc6484b5b1727b", checked := Try.checked }
namespace Rows
def none {H : Type} : Left H := { results := [], args := [] }

/-- 'quillkeep.RopeSame': WHATEVER THE INPUT: true; the input reads as it did. -/
def ropeSameSpec : ChangeSpec := { name := "ropeSame", fn := fun _ => fun
  | [d1, d2, d3, d4] => { results := [.lit (.bool true)], args := [d1, d2, d3, d4] }
  | _ => none }
def ropeSameRow : OpenClaim := { program := "ytjdmfpoiniocmaa", sum := "29af1f128c3a1e23879752c52f6b0e04e6a1cdce82251a38d6cc6484b5b1727b", func := "quillward/quillkeep.RopeSame", spec := "ropeSame", inPlace := ["internal/abi.NoEscape", "internal/bytealg.MakeNoZero"], unfollowed := true, recurses := true, apart := false }
def RopeSameSaid : Prop := ropeSameRow.holds Try.pinned (OpenSpec.ofChange ropeSameSpec)

/-- ITS FALSE NEIGHBOUR: 'it returns false'. Refute it at one input. -/
def ropeSameWrong : ChangeSpec := { name := "ropeSame", fn := fun _ => fun
  | [d1, d2, d3, d4] => { results := [.lit (.bool false)], args := [d1, d2, d3, d4] }
  | _ => none }
def RopeSameWrongFalsely : Prop := ropeSameRow.holds Try.pinned (OpenSpec.ofChange ropeSameWrong)

/-- 'quillkeep.RopeLaws': WHATEVER THE INPUT: true; the input reads as it did. -/
def ropeLawsSpec : ChangeSpec := { name := "ropeLaws", fn := fun _ => fun
  | [d1, d2, d3, d4] => { results := [.lit (.bool true)], args := [d1, d2, d3, d4] }
  | _ => none }
def ropeLawsRow : OpenClaim := { program := "ytjdmfpoiniocmaa", sum := "29af1f128c3a1e23879752c52f6b0e04e6a1cdce82251a38d6cc6484b5b1727b", func := "quillward/quillkeep.RopeLaws", spec := "ropeLaws", inPlace := ["internal/abi.NoEscape", "internal/bytealg.MakeNoZero"], unfollowed := true, recurses := true, apart := false }
def RopeLawsSaid : Prop := ropeLawsRow.holds Try.pinned (OpenSpec.ofChange ropeLawsSpec)

/-- ITS FALSE NEIGHBOUR: 'it returns false'. Refute it at one input. -/
def ropeLawsWrong : ChangeSpec := { name := "ropeLaws", fn := fun _ => fun
  | [d1, d2, d3, d4] => { results := [.lit (.bool false)], args := [d1, d2, d3, d4] }
  | _ => none }
def RopeLawsWrongFalsely : Prop := ropeLawsRow.holds Try.pinned (OpenSpec.ofChange ropeLawsWrong)

/-- 'quillkeep.RopeEdited': WHATEVER THE INPUT: true; the input reads as it did. -/
def ropeEditedSpec : ChangeSpec := { name := "ropeEdited", fn := fun _ => fun
  | [d1, d2] => { results := [.lit (.bool true)], args := [d1, d2] }
  | _ => none }
def ropeEditedRow : OpenClaim := { program := "ytjdmfpoiniocmaa", sum := "29af1f128c3a1e23879752c52f6b0e04e6a1cdce82251a38d6cc6484b5b1727b", func := "quillward/quillkeep.RopeEdited", spec := "ropeEdited", inPlace := ["internal/abi.NoEscape", "internal/bytealg.MakeNoZero"], apart := false }
def RopeEditedSaid : Prop := ropeEditedRow.holds Try.pinned (OpenSpec.ofChange ropeEditedSpec)

/-- ITS FALSE NEIGHBOUR: 'it returns false'. Refute it at one input. -/
def ropeEditedWrong : ChangeSpec := { name := "ropeEdited", fn := fun _ => fun
  | [d1, d2] => { results := [.lit (.bool false)], args := [d1, d2] }
  | _ => none }
def RopeEditedWrongFalsely : Prop := ropeEditedRow.holds Try.pinned (OpenSpec.ofChange ropeEditedWrong)

/-- 'quillkeep.SeekPuts': WHATEVER THE INPUT: true; the input reads as it did. -/
def seekPutsSpec : ChangeSpec := { name := "seekPuts", fn := fun _ => fun
  | [d1, d2, d3] => { results := [.lit (.bool true)], args := [d1, d2, d3] }
  | _ => none }
def seekPutsRow : OpenClaim := { program := "ytjdmfpoiniocmaa", sum := "29af1f128c3a1e23879752c52f6b0e04e6a1cdce82251a38d6cc6484b5b1727b", func := "quillward/quillkeep.SeekPuts", spec := "seekPuts", inPlace := ["internal/bytealg.IndexByteString", "internal/bytealg.IndexString"], named := ["internal/bytealg.MaxLen"], apart := false }
def SeekPutsSaid : Prop := seekPutsRow.holds Try.pinned (OpenSpec.ofChange seekPutsSpec)

/-- ITS FALSE NEIGHBOUR: 'it returns false'. Refute it at one input. -/
def seekPutsWrong : ChangeSpec := { name := "seekPuts", fn := fun _ => fun
  | [d1, d2, d3] => { results := [.lit (.bool false)], args := [d1, d2, d3] }
  | _ => none }
def SeekPutsWrongFalsely : Prop := seekPutsRow.holds Try.pinned (OpenSpec.ofChange seekPutsWrong)

/-- 'quillkeep.PhraseFew': WHATEVER THE INPUT: true; the input reads as it did. -/
def phraseFewSpec : ChangeSpec := { name := "phraseFew", fn := fun _ => fun
  | [d1, d2] => { results := [.lit (.bool true)], args := [d1, d2] }
  | _ => none }
def phraseFewRow : OpenClaim := { program := "ytjdmfpoiniocmaa", sum := "29af1f128c3a1e23879752c52f6b0e04e6a1cdce82251a38d6cc6484b5b1727b", func := "quillward/quillkeep.PhraseFew", spec := "phraseFew", inPlace := ["internal/abi.NoEscape", "internal/bytealg.MakeNoZero"], apart := false }
def PhraseFewSaid : Prop := phraseFewRow.holds Try.pinned (OpenSpec.ofChange phraseFewSpec)

/-- ITS FALSE NEIGHBOUR: 'it returns false'. Refute it at one input. -/
def phraseFewWrong : ChangeSpec := { name := "phraseFew", fn := fun _ => fun
  | [d1, d2] => { results := [.lit (.bool false)], args := [d1, d2] }
  | _ => none }
def PhraseFewWrongFalsely : Prop := phraseFewRow.holds Try.pinned (OpenSpec.ofChange phraseFewWrong)

/-- 'quillkeep.RopesOwn': WHATEVER THE INPUT: true; the input reads as it did. -/
def ropesOwnSpec : ChangeSpec := { name := "ropesOwn", fn := fun _ => fun
  | [d1, d2, d3, d4] => { results := [.lit (.bool true)], args := [d1, d2, d3, d4] }
  | _ => none }
def ropesOwnRow : OpenClaim := { program := "ytjdmfpoiniocmaa", sum := "29af1f128c3a1e23879752c52f6b0e04e6a1cdce82251a38d6cc6484b5b1727b", func := "quillward/quillkeep.RopesOwn", spec := "ropesOwn", inPlace := ["internal/abi.NoEscape", "internal/bytealg.MakeNoZero", "internal/bytealg.IndexByteString", "internal/bytealg.IndexString"], unfollowed := true, recurses := true, named := ["internal/bytealg.MaxLen"], apart := false }
def RopesOwnSaid : Prop := ropesOwnRow.holds Try.pinned (OpenSpec.ofChange ropesOwnSpec)

/-- ITS FALSE NEIGHBOUR: 'it returns false'. Refute it at one input. -/
def ropesOwnWrong : ChangeSpec := { name := "ropesOwn", fn := fun _ => fun
  | [d1, d2, d3, d4] => { results := [.lit (.bool false)], args := [d1, d2, d3, d4] }
  | _ => none }
def RopesOwnWrongFalsely : Prop := ropesOwnRow.holds Try.pinned (OpenSpec.ofChange ropesOwnWrong)

/-- 'quillkeep.TreeShannon': WHATEVER THE INPUT: true; the input reads as it did. -/
def treeShannonSpec : ChangeSpec := { name := "treeShannon", fn := fun _ => fun
  | [d] => { results := [.lit (.bool true)], args := [d] }
  | _ => none }
def treeShannonRow : OpenClaim := { program := "ytjdmfpoiniocmaa", sum := "29af1f128c3a1e23879752c52f6b0e04e6a1cdce82251a38d6cc6484b5b1727b", func := "quillward/quillkeep.TreeShannon", spec := "treeShannon", unfollowed := true, recurses := true, apart := false }
def TreeShannonSaid : Prop := treeShannonRow.holds Try.pinned (OpenSpec.ofChange treeShannonSpec)

/-- ITS FALSE NEIGHBOUR: 'it returns false'. Refute it at one input. -/
def treeShannonWrong : ChangeSpec := { name := "treeShannon", fn := fun _ => fun
  | [d] => { results := [.lit (.bool false)], args := [d] }
  | _ => none }
def TreeShannonWrongFalsely : Prop := treeShannonRow.holds Try.pinned (OpenSpec.ofChange treeShannonWrong)

/-- 'quillkeep.TreeLeast': WHATEVER THE INPUT: true; the input reads as it did. -/
def treeLeastSpec : ChangeSpec := { name := "treeLeast", fn := fun _ => fun
  | [d1, d2] => { results := [.lit (.bool true)], args := [d1, d2] }
  | _ => none }
def treeLeastRow : OpenClaim := { program := "ytjdmfpoiniocmaa", sum := "29af1f128c3a1e23879752c52f6b0e04e6a1cdce82251a38d6cc6484b5b1727b", func := "quillward/quillkeep.TreeLeast", spec := "treeLeast", unfollowed := true, recurses := true, apart := false }
def TreeLeastSaid : Prop := treeLeastRow.holds Try.pinned (OpenSpec.ofChange treeLeastSpec)

/-- ITS FALSE NEIGHBOUR: 'it returns false'. Refute it at one input. -/
def treeLeastWrong : ChangeSpec := { name := "treeLeast", fn := fun _ => fun
  | [d1, d2] => { results := [.lit (.bool false)], args := [d1, d2] }
  | _ => none }
def TreeLeastWrongFalsely : Prop := treeLeastRow.holds Try.pinned (OpenSpec.ofChange treeLeastWrong)

/-- 'quillkeep.TreeHeavy': WHATEVER THE INPUT: true; the input reads as it did. -/
def treeHeavySpec : ChangeSpec := { name := "treeHeavy", fn := fun _ => fun
  | [d1, d2] => { results := [.lit (.bool true)], args := [d1, d2] }
  | _ => none }
def treeHeavyRow : OpenClaim := { program := "ytjdmfpoiniocmaa", sum := "29af1f128c3a1e23879752c52f6b0e04e6a1cdce82251a38d6cc6484b5b1727b", func := "quillward/quillkeep.TreeHeavy", spec := "treeHeavy", unfollowed := true, recurses := true, apart := false }
def TreeHeavySaid : Prop := treeHeavyRow.holds Try.pinned (OpenSpec.ofChange treeHeavySpec)

/-- ITS FALSE NEIGHBOUR: 'it returns false'. Refute it at one input. -/
def treeHeavyWrong : ChangeSpec := { name := "treeHeavy", fn := fun _ => fun
  | [d1, d2] => { results := [.lit (.bool false)], args := [d1, d2] }
  | _ => none }
def TreeHeavyWrongFalsely : Prop := treeHeavyRow.holds Try.pinned (OpenSpec.ofChange treeHeavyWrong)

/-- 'quilltop.TopPowers': WHATEVER THE INPUT: true; the input reads as it did. -/
def topPowersSpec : ChangeSpec := { name := "topPowers", fn := fun _ => fun
  | [d1, d2] => { results := [.lit (.bool true)], args := [d1, d2] }
  | _ => none }
def topPowersRow : OpenClaim := { program := "ytjdmfpoiniocmaa", sum := "29af1f128c3a1e23879752c52f6b0e04e6a1cdce82251a38d6cc6484b5b1727b", func := "quillward/quilltop.TopPowers", spec := "topPowers", inPlace := ["internal/abi.NoEscape", "internal/bytealg.MakeNoZero", "internal/bytealg.abigen_runtime_cmpstring"], unfollowed := true, recurses := true, apart := false }
def TopPowersSaid : Prop := topPowersRow.holds Try.pinned (OpenSpec.ofChange topPowersSpec)

/-- ITS FALSE NEIGHBOUR: 'it returns false'. Refute it at one input. -/
def topPowersWrong : ChangeSpec := { name := "topPowers", fn := fun _ => fun
  | [d1, d2] => { results := [.lit (.bool false)], args := [d1, d2] }
  | _ => none }
def TopPowersWrongFalsely : Prop := topPowersRow.holds Try.pinned (OpenSpec.ofChange topPowersWrong)

/- THE SECOND FORM. 'bulk': how many values and letters a reading holds, each counted each time it is reached (what is shared counts as often as it is met; a slice's spare places count too). A statement '..UptoSaid' is the law's where the arguments, and the package variables that the reading takes, are together of bulk at most 1048576: NARROWER than '..Said'. Prove '..Said' where nothing that the law and all that it calls make is longer than what came in: it says more and counts as full. Else prove '..UptoSaid'. A law counts once. -/
mutual
def uptoBulk {H : Type} : DataW H → Nat
  | .lit (.string bytes) => bytes.length + 1
  | .lit _ => 1
  | .nil => 1
  | .ptr d => uptoBulk d + 1
  | .slice elems spare => uptoBulkAll elems + uptoBulkAll spare + 1
  | .agg parts => uptoBulkAll parts + 1
  | .iface _ d => uptoBulk d + 1
  | .map entries => uptoBulkEntries entries + 1
  | .held _ => 1
def uptoBulkAll {H : Type} : List (DataW H) → Nat
  | [] => 0
  | d :: r => uptoBulk d + uptoBulkAll r
def uptoBulkEntries {H : Type} : List (Lit × DataW H) → Nat
  | [] => 0
  | x :: r => uptoBulkEntry x + uptoBulkEntries r
def uptoBulkEntry {H : Type} : Lit × DataW H → Nat
  | (.string bytes, d) => bytes.length + uptoBulk d + 1
  | (_, d) => uptoBulk d + 1
 end
def uptoSmall : (H : Type) → List (DataW H) → Bool := fun _ ds => decide (uptoBulkAll ds ≤ 1048576)
def OpenSpec.upto (s : _root_.Go.ChangeSpec) : _root_.Go.OpenSpec := { _root_.Go.OpenSpec.ofChange s with cond := some uptoSmall }

/-- 'quillkeep.RopeSame', WHERE WHAT IT READS IS OF BULK AT MOST 1048576: true; the input reads as it did. -/
def ropeSameUptoRow : OpenClaim := { program := "ytjdmfpoiniocmaa", sum := "29af1f128c3a1e23879752c52f6b0e04e6a1cdce82251a38d6cc6484b5b1727b", func := "quillward/quillkeep.RopeSame", spec := "ropeSame", inPlace := ["internal/abi.NoEscape", "internal/bytealg.MakeNoZero"], unfollowed := true, recurses := true, apart := false, narrowed := true }
def RopeSameUptoSaid : Prop := ropeSameUptoRow.holds Try.pinned (OpenSpec.upto ropeSameSpec)

/-- 'quillkeep.RopeLaws', WHERE WHAT IT READS IS OF BULK AT MOST 1048576: true; the input reads as it did. -/
def ropeLawsUptoRow : OpenClaim := { program := "ytjdmfpoiniocmaa", sum := "29af1f128c3a1e23879752c52f6b0e04e6a1cdce82251a38d6cc6484b5b1727b", func := "quillward/quillkeep.RopeLaws", spec := "ropeLaws", inPlace := ["internal/abi.NoEscape", "internal/bytealg.MakeNoZero"], unfollowed := true, recurses := true, apart := false, narrowed := true }
def RopeLawsUptoSaid : Prop := ropeLawsUptoRow.holds Try.pinned (OpenSpec.upto ropeLawsSpec)

/-- 'quillkeep.RopeEdited', WHERE WHAT IT READS IS OF BULK AT MOST 1048576: true; the input reads as it did. -/
def ropeEditedUptoRow : OpenClaim := { program := "ytjdmfpoiniocmaa", sum := "29af1f128c3a1e23879752c52f6b0e04e6a1cdce82251a38d6cc6484b5b1727b", func := "quillward/quillkeep.RopeEdited", spec := "ropeEdited", inPlace := ["internal/abi.NoEscape", "internal/bytealg.MakeNoZero"], apart := false, narrowed := true }
def RopeEditedUptoSaid : Prop := ropeEditedUptoRow.holds Try.pinned (OpenSpec.upto ropeEditedSpec)

/-- 'quillkeep.SeekPuts', WHERE WHAT IT READS IS OF BULK AT MOST 1048576: true; the input reads as it did. -/
def seekPutsUptoRow : OpenClaim := { program := "ytjdmfpoiniocmaa", sum := "29af1f128c3a1e23879752c52f6b0e04e6a1cdce82251a38d6cc6484b5b1727b", func := "quillward/quillkeep.SeekPuts", spec := "seekPuts", inPlace := ["internal/bytealg.IndexByteString", "internal/bytealg.IndexString"], named := ["internal/bytealg.MaxLen"], apart := false, narrowed := true }
def SeekPutsUptoSaid : Prop := seekPutsUptoRow.holds Try.pinned (OpenSpec.upto seekPutsSpec)

/-- 'quillkeep.PhraseFew', WHERE WHAT IT READS IS OF BULK AT MOST 1048576: true; the input reads as it did. -/
def phraseFewUptoRow : OpenClaim := { program := "ytjdmfpoiniocmaa", sum := "29af1f128c3a1e23879752c52f6b0e04e6a1cdce82251a38d6cc6484b5b1727b", func := "quillward/quillkeep.PhraseFew", spec := "phraseFew", inPlace := ["internal/abi.NoEscape", "internal/bytealg.MakeNoZero"], apart := false, narrowed := true }
def PhraseFewUptoSaid : Prop := phraseFewUptoRow.holds Try.pinned (OpenSpec.upto phraseFewSpec)

/-- 'quillkeep.RopesOwn', WHERE WHAT IT READS IS OF BULK AT MOST 1048576: true; the input reads as it did. -/
def ropesOwnUptoRow : OpenClaim := { program := "ytjdmfpoiniocmaa", sum := "29af1f128c3a1e23879752c52f6b0e04e6a1cdce82251a38d6cc6484b5b1727b", func := "quillward/quillkeep.RopesOwn", spec := "ropesOwn", inPlace := ["internal/abi.NoEscape", "internal/bytealg.MakeNoZero", "internal/bytealg.IndexByteString", "internal/bytealg.IndexString"], unfollowed := true, recurses := true, named := ["internal/bytealg.MaxLen"], apart := false, narrowed := true }
def RopesOwnUptoSaid : Prop := ropesOwnUptoRow.holds Try.pinned (OpenSpec.upto ropesOwnSpec)

/-- 'quillkeep.TreeShannon', WHERE WHAT IT READS IS OF BULK AT MOST 1048576: true; the input reads as it did. -/
def treeShannonUptoRow : OpenClaim := { program := "ytjdmfpoiniocmaa", sum := "29af1f128c3a1e23879752c52f6b0e04e6a1cdce82251a38d6cc6484b5b1727b", func := "quillward/quillkeep.TreeShannon", spec := "treeShannon", unfollowed := true, recurses := true, apart := false, narrowed := true }
def TreeShannonUptoSaid : Prop := treeShannonUptoRow.holds Try.pinned (OpenSpec.upto treeShannonSpec)

/-- 'quillkeep.TreeLeast', WHERE WHAT IT READS IS OF BULK AT MOST 1048576: true; the input reads as it did. -/
def treeLeastUptoRow : OpenClaim := { program := "ytjdmfpoiniocmaa", sum := "29af1f128c3a1e23879752c52f6b0e04e6a1cdce82251a38d6cc6484b5b1727b", func := "quillward/quillkeep.TreeLeast", spec := "treeLeast", unfollowed := true, recurses := true, apart := false, narrowed := true }
def TreeLeastUptoSaid : Prop := treeLeastUptoRow.holds Try.pinned (OpenSpec.upto treeLeastSpec)

/-- 'quillkeep.TreeHeavy', WHERE WHAT IT READS IS OF BULK AT MOST 1048576: true; the input reads as it did. -/
def treeHeavyUptoRow : OpenClaim := { program := "ytjdmfpoiniocmaa", sum := "29af1f128c3a1e23879752c52f6b0e04e6a1cdce82251a38d6cc6484b5b1727b", func := "quillward/quillkeep.TreeHeavy", spec := "treeHeavy", unfollowed := true, recurses := true, apart := false, narrowed := true }
def TreeHeavyUptoSaid : Prop := treeHeavyUptoRow.holds Try.pinned (OpenSpec.upto treeHeavySpec)

/-- 'quilltop.TopPowers', WHERE WHAT IT READS IS OF BULK AT MOST 1048576: true; the input reads as it did. -/
def topPowersUptoRow : OpenClaim := { program := "ytjdmfpoiniocmaa", sum := "29af1f128c3a1e23879752c52f6b0e04e6a1cdce82251a38d6cc6484b5b1727b", func := "quillward/quilltop.TopPowers", spec := "topPowers", inPlace := ["internal/abi.NoEscape", "internal/bytealg.MakeNoZero", "internal/bytealg.abigen_runtime_cmpstring"], unfollowed := true, recurses := true, apart := false, narrowed := true }
def TopPowersUptoSaid : Prop := topPowersUptoRow.holds Try.pinned (OpenSpec.upto topPowersSpec)

end Rows
end Go.Proofs.Ytjdmfpoiniocmaa
