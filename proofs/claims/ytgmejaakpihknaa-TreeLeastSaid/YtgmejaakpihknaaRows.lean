/-
  No cell of these rows narrows 'for every input' (looked for: loops, veiled, ifaces, maps, wideKeys, modest, calm, conditions, laid).
  DERIVED. THE GIVEN ROWS OF THIS SEAT. 9 by the template 'for every input the law returns true; each argument reads behind the call as it read before'; 0 by the template 'total and deterministic' (their statements: YtgmejaakpihknaaTotals.lean).
  GIVEN WITH THE SEED: the statements are not yours to turn. If you find one false, say at which input.
  Laid BY PROGRAM, IN A SANDBOX (cutbox-rows.mjs): the forced cells as the released guide's own fill.sh prints them over the translation b64ca2d3cb2c89d7… (all of the seat's roots in one cut). By AI agents, Wed Nov 11 2026. No macro, syntax, notation, axiom, sorry.
-/
import Derived.Test.YtgmejaakpihknaaChecked
import GoSem.Claim
import GoSem.ClaimJoined
import GoSem.ClaimMapViews
import Derived.JoinedTies
import Derived.KernelRfl
namespace Go.Proofs.Ytgmejaakpihknaa
/- THE CELL 'sum', in the pinned program and in every row, IS THE sha256 OF THE DUMP (.gsa) THAT YtgmejaakpihknaaProg.lean LOADS. Nothing in Lean hashes anything: it is a label: what it is worth is what the hold of that sum in a sandbox is worth. -/
noncomputable def Try.pinned : Pinned := { name := "ytgmejaakpihknaa", sum := "b64ca2d3cb2c89d71a100165f97761e5123380d70d0382d78a3c886a2f3f900e", checked := Try.checked }
namespace Rows
def none {H : Type} : Left H := { results := [], args := [] }

/-- 'quillkeep.TreeShannon': WHATEVER THE INPUT: true; the input reads as it did. -/
def treeShannonSpec : ChangeSpec := { name := "treeShannon", fn := fun _ => fun
  | [d] => { results := [.lit (.bool true)], args := [d] }
  | _ => none }
def treeShannonRow : OpenClaim := { program := "ytgmejaakpihknaa", sum := "b64ca2d3cb2c89d71a100165f97761e5123380d70d0382d78a3c886a2f3f900e", func := "quillward/quillkeep.TreeShannon", spec := "treeShannon", unfollowed := true, recurses := true, apart := false }
def TreeShannonSaid : Prop := treeShannonRow.holds Try.pinned (OpenSpec.ofChange treeShannonSpec)

/-- ITS FALSE NEIGHBOUR: 'it returns false'. Refute it at one input. -/
def treeShannonWrong : ChangeSpec := { name := "treeShannon", fn := fun _ => fun
  | [d] => { results := [.lit (.bool false)], args := [d] }
  | _ => none }
def TreeShannonWrongFalsely : Prop := treeShannonRow.holds Try.pinned (OpenSpec.ofChange treeShannonWrong)

/-- 'quillkeep.TreeLeast': WHATEVER THE INPUT: true; the input reads as it did. -/
def treeLeastSpec : ChangeSpec := { name := "treeLeast", fn := fun _ => fun
  | [d1, d2] => { results := [.lit (.bool true)], args := [d1, d2] }
  | _ => none }
def treeLeastRow : OpenClaim := { program := "ytgmejaakpihknaa", sum := "b64ca2d3cb2c89d71a100165f97761e5123380d70d0382d78a3c886a2f3f900e", func := "quillward/quillkeep.TreeLeast", spec := "treeLeast", unfollowed := true, recurses := true, apart := false }
def TreeLeastSaid : Prop := treeLeastRow.holds Try.pinned (OpenSpec.ofChange treeLeastSpec)

/-- ITS FALSE NEIGHBOUR: 'it returns false'. Refute it at one input. -/
def treeLeastWrong : ChangeSpec := { name := "treeLeast", fn := fun _ => fun
  | [d1, d2] => { results := [.lit (.bool false)], args := [d1, d2] }
  | _ => none }
def TreeLeastWrongFalsely : Prop := treeLeastRow.holds Try.pinned (OpenSpec.ofChange treeLeastWrong)

/-- 'quillkeep.TreeHeavy': WHATEVER THE INPUT: true; the input reads as it did. -/
def treeHeavySpec : ChangeSpec := { name := "treeHeavy", fn := fun _ => fun
  | [d1, d2] => { results := [.lit (.bool true)], args := [d1, d2] }
  | _ => none }
def treeHeavyRow : OpenClaim := { program := "ytgmejaakpihknaa", sum := "b64ca2d3cb2c89d71a100165f97761e5123380d70d0382d78a3c886a2f3f900e", func := "quillward/quillkeep.TreeHeavy", spec := "treeHeavy", unfollowed := true, recurses := true, apart := false }
def TreeHeavySaid : Prop := treeHeavyRow.holds Try.pinned (OpenSpec.ofChange treeHeavySpec)

/-- ITS FALSE NEIGHBOUR: 'it returns false'. Refute it at one input. -/
def treeHeavyWrong : ChangeSpec := { name := "treeHeavy", fn := fun _ => fun
  | [d1, d2] => { results := [.lit (.bool false)], args := [d1, d2] }
  | _ => none }
def TreeHeavyWrongFalsely : Prop := treeHeavyRow.holds Try.pinned (OpenSpec.ofChange treeHeavyWrong)

/-- 'quillkeep.TurnSame': WHATEVER THE INPUT: true; the input reads as it did. -/
def turnSameSpec : ChangeSpec := { name := "turnSame", fn := fun _ => fun
  | [d1, d2] => { results := [.lit (.bool true)], args := [d1, d2] }
  | _ => none }
def turnSameRow : OpenClaim := { program := "ytgmejaakpihknaa", sum := "b64ca2d3cb2c89d71a100165f97761e5123380d70d0382d78a3c886a2f3f900e", func := "quillward/quillkeep.TurnSame", spec := "turnSame", inPlace := ["internal/bytealg.abigen_runtime_cmpstring"], unfollowed := true, recurses := true, apart := false }
def TurnSameSaid : Prop := turnSameRow.holds Try.pinned (OpenSpec.ofChange turnSameSpec)

/-- ITS FALSE NEIGHBOUR: 'it returns false'. Refute it at one input. -/
def turnSameWrong : ChangeSpec := { name := "turnSame", fn := fun _ => fun
  | [d1, d2] => { results := [.lit (.bool false)], args := [d1, d2] }
  | _ => none }
def TurnSameWrongFalsely : Prop := turnSameRow.holds Try.pinned (OpenSpec.ofChange turnSameWrong)

/-- 'quillkeep.TurnOnly': WHATEVER THE INPUT: true; the input reads as it did. -/
def turnOnlySpec : ChangeSpec := { name := "turnOnly", fn := fun _ => fun
  | [d1, d2, d3] => { results := [.lit (.bool true)], args := [d1, d2, d3] }
  | _ => none }
def turnOnlyRow : OpenClaim := { program := "ytgmejaakpihknaa", sum := "b64ca2d3cb2c89d71a100165f97761e5123380d70d0382d78a3c886a2f3f900e", func := "quillward/quillkeep.TurnOnly", spec := "turnOnly", inPlace := ["internal/bytealg.abigen_runtime_cmpstring"], unfollowed := true, recurses := true, apart := false }
def TurnOnlySaid : Prop := turnOnlyRow.holds Try.pinned (OpenSpec.ofChange turnOnlySpec)

/-- ITS FALSE NEIGHBOUR: 'it returns false'. Refute it at one input. -/
def turnOnlyWrong : ChangeSpec := { name := "turnOnly", fn := fun _ => fun
  | [d1, d2, d3] => { results := [.lit (.bool false)], args := [d1, d2, d3] }
  | _ => none }
def TurnOnlyWrongFalsely : Prop := turnOnlyRow.holds Try.pinned (OpenSpec.ofChange turnOnlyWrong)

/-- 'quillkeep.TurnBack': WHATEVER THE INPUT: true; the input reads as it did. -/
def turnBackSpec : ChangeSpec := { name := "turnBack", fn := fun _ => fun
  | [d] => { results := [.lit (.bool true)], args := [d] }
  | _ => none }
def turnBackRow : OpenClaim := { program := "ytgmejaakpihknaa", sum := "b64ca2d3cb2c89d71a100165f97761e5123380d70d0382d78a3c886a2f3f900e", func := "quillward/quillkeep.TurnBack", spec := "turnBack", inPlace := ["internal/bytealg.abigen_runtime_cmpstring"], unfollowed := true, recurses := true, apart := false }
def TurnBackSaid : Prop := turnBackRow.holds Try.pinned (OpenSpec.ofChange turnBackSpec)

/-- ITS FALSE NEIGHBOUR: 'it returns false'. Refute it at one input. -/
def turnBackWrong : ChangeSpec := { name := "turnBack", fn := fun _ => fun
  | [d] => { results := [.lit (.bool false)], args := [d] }
  | _ => none }
def TurnBackWrongFalsely : Prop := turnBackRow.holds Try.pinned (OpenSpec.ofChange turnBackWrong)

/-- 'quillkeep.TurnCount': WHATEVER THE INPUT: true; the input reads as it did. -/
def turnCountSpec : ChangeSpec := { name := "turnCount", fn := fun _ => fun
  | [d1, d2] => { results := [.lit (.bool true)], args := [d1, d2] }
  | _ => none }
def turnCountRow : OpenClaim := { program := "ytgmejaakpihknaa", sum := "b64ca2d3cb2c89d71a100165f97761e5123380d70d0382d78a3c886a2f3f900e", func := "quillward/quillkeep.TurnCount", spec := "turnCount", inPlace := ["internal/bytealg.CountString", "internal/bytealg.IndexByteString", "internal/bytealg.IndexString", "internal/bytealg.abigen_runtime_cmpstring"], unfollowed := true, recurses := true, named := ["internal/bytealg.MaxLen"], apart := false }
def TurnCountSaid : Prop := turnCountRow.holds Try.pinned (OpenSpec.ofChange turnCountSpec)

/-- ITS FALSE NEIGHBOUR: 'it returns false'. Refute it at one input. -/
def turnCountWrong : ChangeSpec := { name := "turnCount", fn := fun _ => fun
  | [d1, d2] => { results := [.lit (.bool false)], args := [d1, d2] }
  | _ => none }
def TurnCountWrongFalsely : Prop := turnCountRow.holds Try.pinned (OpenSpec.ofChange turnCountWrong)

/-- 'quillkeep.SuffixTwice': WHATEVER THE INPUT: true; the input reads as it did. -/
def suffixTwiceSpec : ChangeSpec := { name := "suffixTwice", fn := fun _ => fun
  | [d1, d2, d3, d4] => { results := [.lit (.bool true)], args := [d1, d2, d3, d4] }
  | _ => none }
def suffixTwiceRow : OpenClaim := { program := "ytgmejaakpihknaa", sum := "b64ca2d3cb2c89d71a100165f97761e5123380d70d0382d78a3c886a2f3f900e", func := "quillward/quillkeep.SuffixTwice", spec := "suffixTwice", inPlace := ["internal/bytealg.abigen_runtime_cmpstring", "internal/bytealg.IndexByteString", "internal/bytealg.IndexString"], unfollowed := true, recurses := true, named := ["internal/bytealg.MaxLen"], apart := false }
def SuffixTwiceSaid : Prop := suffixTwiceRow.holds Try.pinned (OpenSpec.ofChange suffixTwiceSpec)

/-- ITS FALSE NEIGHBOUR: 'it returns false'. Refute it at one input. -/
def suffixTwiceWrong : ChangeSpec := { name := "suffixTwice", fn := fun _ => fun
  | [d1, d2, d3, d4] => { results := [.lit (.bool false)], args := [d1, d2, d3, d4] }
  | _ => none }
def SuffixTwiceWrongFalsely : Prop := suffixTwiceRow.holds Try.pinned (OpenSpec.ofChange suffixTwiceWrong)

/-- 'quillkeep.WordsOwn': WHATEVER THE INPUT: true; the input reads as it did. -/
def wordsOwnSpec : ChangeSpec := { name := "wordsOwn", fn := fun _ => fun
  | [d1, d2] => { results := [.lit (.bool true)], args := [d1, d2] }
  | _ => none }
def wordsOwnRow : OpenClaim := { program := "ytgmejaakpihknaa", sum := "b64ca2d3cb2c89d71a100165f97761e5123380d70d0382d78a3c886a2f3f900e", func := "quillward/quillkeep.WordsOwn", spec := "wordsOwn", inPlace := ["internal/bytealg.abigen_runtime_cmpstring"], unfollowed := true, recurses := true, apart := false }
def WordsOwnSaid : Prop := wordsOwnRow.holds Try.pinned (OpenSpec.ofChange wordsOwnSpec)

/-- ITS FALSE NEIGHBOUR: 'it returns false'. Refute it at one input. -/
def wordsOwnWrong : ChangeSpec := { name := "wordsOwn", fn := fun _ => fun
  | [d1, d2] => { results := [.lit (.bool false)], args := [d1, d2] }
  | _ => none }
def WordsOwnWrongFalsely : Prop := wordsOwnRow.holds Try.pinned (OpenSpec.ofChange wordsOwnWrong)

/- THE SECOND FORM. 'bulk': how many values and letters a reading holds, each counted each time it is reached (what is shared counts as often as it is met; a slice's spare places count too). A statement '..UptoSaid' is the law's where the arguments, and the package variables that the reading takes, are together of bulk at most 1048576: NARROWER than '..Said'. Prove '..Said' where nothing that the law and all that it calls make is longer than what came in: it says more and counts as full. Else prove '..UptoSaid'. A law counts once. -/
mutual
def uptoBulk {H : Type} : DataW H → Nat
  | .lit (.string bytes) => bytes.length + 1
  | .lit _ => 1
  | .nil => 1
  | .ptr d => uptoBulk d + 1
  | .slice elems spare => uptoBulkAll elems + uptoBulkAll spare + 1
  | .agg parts => uptoBulkAll parts + 1
  | .iface _ d => uptoBulk d + 1
  | .map entries => uptoBulkEntries entries + 1
  | .held _ => 1
def uptoBulkAll {H : Type} : List (DataW H) → Nat
  | [] => 0
  | d :: r => uptoBulk d + uptoBulkAll r
def uptoBulkEntries {H : Type} : List (Lit × DataW H) → Nat
  | [] => 0
  | x :: r => uptoBulkEntry x + uptoBulkEntries r
def uptoBulkEntry {H : Type} : Lit × DataW H → Nat
  | (.string bytes, d) => bytes.length + uptoBulk d + 1
  | (_, d) => uptoBulk d + 1
 end
def uptoSmall : (H : Type) → List (DataW H) → Bool := fun _ ds => decide (uptoBulkAll ds ≤ 1048576)
def OpenSpec.upto (s : _root_.Go.ChangeSpec) : _root_.Go.OpenSpec := { _root_.Go.OpenSpec.ofChange s with cond := some uptoSmall }

/-- 'quillkeep.TreeShannon', WHERE WHAT IT READS IS OF BULK AT MOST 1048576: true; the input reads as it did. -/
def treeShannonUptoRow : OpenClaim := { program := "ytgmejaakpihknaa", sum := "b64ca2d3cb2c89d71a100165f97761e5123380d70d0382d78a3c886a2f3f900e", func := "quillward/quillkeep.TreeShannon", spec := "treeShannon", unfollowed := true, recurses := true, apart := false, narrowed := true }
def TreeShannonUptoSaid : Prop := treeShannonUptoRow.holds Try.pinned (OpenSpec.upto treeShannonSpec)

/-- 'quillkeep.TreeLeast', WHERE WHAT IT READS IS OF BULK AT MOST 1048576: true; the input reads as it did. -/
def treeLeastUptoRow : OpenClaim := { program := "ytgmejaakpihknaa", sum := "b64ca2d3cb2c89d71a100165f97761e5123380d70d0382d78a3c886a2f3f900e", func := "quillward/quillkeep.TreeLeast", spec := "treeLeast", unfollowed := true, recurses := true, apart := false, narrowed := true }
def TreeLeastUptoSaid : Prop := treeLeastUptoRow.holds Try.pinned (OpenSpec.upto treeLeastSpec)

/-- 'quillkeep.TreeHeavy', WHERE WHAT IT READS IS OF BULK AT MOST 1048576: true; the input reads as it did. -/
def treeHeavyUptoRow : OpenClaim := { program := "ytgmejaakpihknaa", sum := "b64ca2d3cb2c89d71a100165f97761e5123380d70d0382d78a3c886a2f3f900e", func := "quillward/quillkeep.TreeHeavy", spec := "treeHeavy", unfollowed := true, recurses := true, apart := false, narrowed := true }
def TreeHeavyUptoSaid : Prop := treeHeavyUptoRow.holds Try.pinned (OpenSpec.upto treeHeavySpec)

/-- 'quillkeep.TurnSame', WHERE WHAT IT READS IS OF BULK AT MOST 1048576: true; the input reads as it did. -/
def turnSameUptoRow : OpenClaim := { program := "ytgmejaakpihknaa", sum := "b64ca2d3cb2c89d71a100165f97761e5123380d70d0382d78a3c886a2f3f900e", func := "quillward/quillkeep.TurnSame", spec := "turnSame", inPlace := ["internal/bytealg.abigen_runtime_cmpstring"], unfollowed := true, recurses := true, apart := false, narrowed := true }
def TurnSameUptoSaid : Prop := turnSameUptoRow.holds Try.pinned (OpenSpec.upto turnSameSpec)

/-- 'quillkeep.TurnOnly', WHERE WHAT IT READS IS OF BULK AT MOST 1048576: true; the input reads as it did. -/
def turnOnlyUptoRow : OpenClaim := { program := "ytgmejaakpihknaa", sum := "b64ca2d3cb2c89d71a100165f97761e5123380d70d0382d78a3c886a2f3f900e", func := "quillward/quillkeep.TurnOnly", spec := "turnOnly", inPlace := ["internal/bytealg.abigen_runtime_cmpstring"], unfollowed := true, recurses := true, apart := false, narrowed := true }
def TurnOnlyUptoSaid : Prop := turnOnlyUptoRow.holds Try.pinned (OpenSpec.upto turnOnlySpec)

/-- 'quillkeep.TurnBack', WHERE WHAT IT READS IS OF BULK AT MOST 1048576: true; the input reads as it did. -/
def turnBackUptoRow : OpenClaim := { program := "ytgmejaakpihknaa", sum := "b64ca2d3cb2c89d71a100165f97761e5123380d70d0382d78a3c886a2f3f900e", func := "quillward/quillkeep.TurnBack", spec := "turnBack", inPlace := ["internal/bytealg.abigen_runtime_cmpstring"], unfollowed := true, recurses := true, apart := false, narrowed := true }
def TurnBackUptoSaid : Prop := turnBackUptoRow.holds Try.pinned (OpenSpec.upto turnBackSpec)

/-- 'quillkeep.TurnCount', WHERE WHAT IT READS IS OF BULK AT MOST 1048576: true; the input reads as it did. -/
def turnCountUptoRow : OpenClaim := { program := "ytgmejaakpihknaa", sum := "b64ca2d3cb2c89d71a100165f97761e5123380d70d0382d78a3c886a2f3f900e", func := "quillward/quillkeep.TurnCount", spec := "turnCount", inPlace := ["internal/bytealg.CountString", "internal/bytealg.IndexByteString", "internal/bytealg.IndexString", "internal/bytealg.abigen_runtime_cmpstring"], unfollowed := true, recurses := true, named := ["internal/bytealg.MaxLen"], apart := false, narrowed := true }
def TurnCountUptoSaid : Prop := turnCountUptoRow.holds Try.pinned (OpenSpec.upto turnCountSpec)

/-- 'quillkeep.SuffixTwice', WHERE WHAT IT READS IS OF BULK AT MOST 1048576: true; the input reads as it did. -/
def suffixTwiceUptoRow : OpenClaim := { program := "ytgmejaakpihknaa", sum := "b64ca2d3cb2c89d71a100165f97761e5123380d70d0382d78a3c886a2f3f900e", func := "quillward/quillkeep.SuffixTwice", spec := "suffixTwice", inPlace := ["internal/bytealg.abigen_runtime_cmpstring", "internal/bytealg.IndexByteString", "internal/bytealg.IndexString"], unfollowed := true, recurses := true, named := ["internal/bytealg.MaxLen"], apart := false, narrowed := true }
def SuffixTwiceUptoSaid : Prop := suffixTwiceUptoRow.holds Try.pinned (OpenSpec.upto suffixTwiceSpec)

/-- 'quillkeep.WordsOwn', WHERE WHAT IT READS IS OF BULK AT MOST 1048576: true; the input reads as it did. -/
def wordsOwnUptoRow : OpenClaim := { program := "ytgmejaakpihknaa", sum := "b64ca2d3cb2c89d71a100165f97761e5123380d70d0382d78a3c886a2f3f900e", func := "quillward/quillkeep.WordsOwn", spec := "wordsOwn", inPlace := ["internal/bytealg.abigen_runtime_cmpstring"], unfollowed := true, recurses := true, apart := false, narrowed := true }
def WordsOwnUptoSaid : Prop := wordsOwnUptoRow.holds Try.pinned (OpenSpec.upto wordsOwnSpec)

end Rows
end Go.Proofs.Ytgmejaakpihknaa
