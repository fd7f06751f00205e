/-
  No cell of these rows narrows 'for every input' (looked for: loops, veiled, ifaces, maps, wideKeys, modest, calm, conditions, laid).
  DERIVED. THE GIVEN ROWS OF THIS SEAT. 12 by the template 'for every input the law returns true; each argument reads behind the call as it read before'; 0 by the template 'total and deterministic' (their statements: YtpaodbkdmiedfaaTotals.lean).
  GIVEN WITH THE SEED: the statements are not yours to turn. If you find one false, say at which input.
  Laid BY PROGRAM, IN A SANDBOX (cutbox-rows.mjs): the forced cells as the released guide's own fill.sh prints them over the translation 7c1b43a594113d6b… (all of the seat's roots in one cut). By AI agents, Wed Nov 11 2026. No macro, syntax, notation, axiom, sorry.
-/
import Derived.Test.YtpaodbkdmiedfaaChecked
import GoSem.Claim
import GoSem.ClaimJoined
import GoSem.ClaimMapViews
import Derived.JoinedTies
import Derived.KernelRfl
namespace Go.Proofs.Ytpaodbkdmiedfaa
/- THE CELL 'sum', in the pinned program and in every row, IS THE sha256 OF THE DUMP (.gsa) THAT YtpaodbkdmiedfaaProg.lean LOADS. Nothing in Lean hashes anything: it is a label: what it is worth is what the hold of that sum in a sandbox is worth. -/
noncomputable def Try.pinned : Pinned := { name := "ytpaodbkdmiedfaa", sum := "7c1b43a594113d6bce9b7e45fc74d92db3770453e7e0013332147120f6feda81", checked := Try.checked }
namespace Rows
def none {H : Type} : Left H := { results := [], args := [] }

/-- 'quillkeep.TreeShannon': WHATEVER THE INPUT: true; the input reads as it did. -/
def treeShannonSpec : ChangeSpec := { name := "treeShannon", fn := fun _ => fun
  | [d] => { results := [.lit (.bool true)], args := [d] }
  | _ => none }
def treeShannonRow : OpenClaim := { program := "ytpaodbkdmiedfaa", sum := "7c1b43a594113d6bce9b7e45fc74d92db3770453e7e0013332147120f6feda81", func := "quillward/quillkeep.TreeShannon", spec := "treeShannon", unfollowed := true, recurses := true, apart := false }
def TreeShannonSaid : Prop := treeShannonRow.holds Try.pinned (OpenSpec.ofChange treeShannonSpec)

/-- ITS FALSE NEIGHBOUR: 'it returns false'. Refute it at one input. -/
def treeShannonWrong : ChangeSpec := { name := "treeShannon", fn := fun _ => fun
  | [d] => { results := [.lit (.bool false)], args := [d] }
  | _ => none }
def TreeShannonWrongFalsely : Prop := treeShannonRow.holds Try.pinned (OpenSpec.ofChange treeShannonWrong)

/-- 'quillkeep.TreeHeavy': WHATEVER THE INPUT: true; the input reads as it did. -/
def treeHeavySpec : ChangeSpec := { name := "treeHeavy", fn := fun _ => fun
  | [d1, d2] => { results := [.lit (.bool true)], args := [d1, d2] }
  | _ => none }
def treeHeavyRow : OpenClaim := { program := "ytpaodbkdmiedfaa", sum := "7c1b43a594113d6bce9b7e45fc74d92db3770453e7e0013332147120f6feda81", func := "quillward/quillkeep.TreeHeavy", spec := "treeHeavy", unfollowed := true, recurses := true, apart := false }
def TreeHeavySaid : Prop := treeHeavyRow.holds Try.pinned (OpenSpec.ofChange treeHeavySpec)

/-- ITS FALSE NEIGHBOUR: 'it returns false'. Refute it at one input. -/
def treeHeavyWrong : ChangeSpec := { name := "treeHeavy", fn := fun _ => fun
  | [d1, d2] => { results := [.lit (.bool false)], args := [d1, d2] }
  | _ => none }
def TreeHeavyWrongFalsely : Prop := treeHeavyRow.holds Try.pinned (OpenSpec.ofChange treeHeavyWrong)

/-- 'quillkeep.SuffixCommon': WHATEVER THE INPUT: true; the input reads as it did. -/
def suffixCommonSpec : ChangeSpec := { name := "suffixCommon", fn := fun _ => fun
  | [d1, d2, d3] => { results := [.lit (.bool true)], args := [d1, d2, d3] }
  | _ => none }
def suffixCommonRow : OpenClaim := { program := "ytpaodbkdmiedfaa", sum := "7c1b43a594113d6bce9b7e45fc74d92db3770453e7e0013332147120f6feda81", func := "quillward/quillkeep.SuffixCommon", spec := "suffixCommon", inPlace := ["internal/bytealg.abigen_runtime_cmpstring"], unfollowed := true, recurses := true, apart := false }
def SuffixCommonSaid : Prop := suffixCommonRow.holds Try.pinned (OpenSpec.ofChange suffixCommonSpec)

/-- ITS FALSE NEIGHBOUR: 'it returns false'. Refute it at one input. -/
def suffixCommonWrong : ChangeSpec := { name := "suffixCommon", fn := fun _ => fun
  | [d1, d2, d3] => { results := [.lit (.bool false)], args := [d1, d2, d3] }
  | _ => none }
def SuffixCommonWrongFalsely : Prop := suffixCommonRow.holds Try.pinned (OpenSpec.ofChange suffixCommonWrong)

/-- 'quillkeep.LyndonSuffix': WHATEVER THE INPUT: true; the input reads as it did. -/
def lyndonSuffixSpec : ChangeSpec := { name := "lyndonSuffix", fn := fun _ => fun
  | [d] => { results := [.lit (.bool true)], args := [d] }
  | _ => none }
def lyndonSuffixRow : OpenClaim := { program := "ytpaodbkdmiedfaa", sum := "7c1b43a594113d6bce9b7e45fc74d92db3770453e7e0013332147120f6feda81", func := "quillward/quillkeep.LyndonSuffix", spec := "lyndonSuffix", inPlace := ["internal/bytealg.abigen_runtime_cmpstring"], unfollowed := true, recurses := true, apart := false }
def LyndonSuffixSaid : Prop := lyndonSuffixRow.holds Try.pinned (OpenSpec.ofChange lyndonSuffixSpec)

/-- ITS FALSE NEIGHBOUR: 'it returns false'. Refute it at one input. -/
def lyndonSuffixWrong : ChangeSpec := { name := "lyndonSuffix", fn := fun _ => fun
  | [d] => { results := [.lit (.bool false)], args := [d] }
  | _ => none }
def LyndonSuffixWrongFalsely : Prop := lyndonSuffixRow.holds Try.pinned (OpenSpec.ofChange lyndonSuffixWrong)

/-- 'quillkeep.SuffixTwice': WHATEVER THE INPUT: true; the input reads as it did. -/
def suffixTwiceSpec : ChangeSpec := { name := "suffixTwice", fn := fun _ => fun
  | [d1, d2, d3, d4] => { results := [.lit (.bool true)], args := [d1, d2, d3, d4] }
  | _ => none }
def suffixTwiceRow : OpenClaim := { program := "ytpaodbkdmiedfaa", sum := "7c1b43a594113d6bce9b7e45fc74d92db3770453e7e0013332147120f6feda81", func := "quillward/quillkeep.SuffixTwice", spec := "suffixTwice", inPlace := ["internal/bytealg.abigen_runtime_cmpstring", "internal/bytealg.IndexByteString", "internal/bytealg.IndexString"], unfollowed := true, recurses := true, named := ["internal/bytealg.MaxLen"], apart := false }
def SuffixTwiceSaid : Prop := suffixTwiceRow.holds Try.pinned (OpenSpec.ofChange suffixTwiceSpec)

/-- ITS FALSE NEIGHBOUR: 'it returns false'. Refute it at one input. -/
def suffixTwiceWrong : ChangeSpec := { name := "suffixTwice", fn := fun _ => fun
  | [d1, d2, d3, d4] => { results := [.lit (.bool false)], args := [d1, d2, d3, d4] }
  | _ => none }
def SuffixTwiceWrongFalsely : Prop := suffixTwiceRow.holds Try.pinned (OpenSpec.ofChange suffixTwiceWrong)

/-- 'quillkeep.SuffixUnlike': WHATEVER THE INPUT: true; the input reads as it did. -/
def suffixUnlikeSpec : ChangeSpec := { name := "suffixUnlike", fn := fun _ => fun
  | [d1, d2] => { results := [.lit (.bool true)], args := [d1, d2] }
  | _ => none }
def suffixUnlikeRow : OpenClaim := { program := "ytpaodbkdmiedfaa", sum := "7c1b43a594113d6bce9b7e45fc74d92db3770453e7e0013332147120f6feda81", func := "quillward/quillkeep.SuffixUnlike", spec := "suffixUnlike", inPlace := ["internal/bytealg.abigen_runtime_cmpstring", "internal/abi.NoEscape", "internal/bytealg.MakeNoZero"], unfollowed := true, recurses := true, apart := false }
def SuffixUnlikeSaid : Prop := suffixUnlikeRow.holds Try.pinned (OpenSpec.ofChange suffixUnlikeSpec)

/-- ITS FALSE NEIGHBOUR: 'it returns false'. Refute it at one input. -/
def suffixUnlikeWrong : ChangeSpec := { name := "suffixUnlike", fn := fun _ => fun
  | [d1, d2] => { results := [.lit (.bool false)], args := [d1, d2] }
  | _ => none }
def SuffixUnlikeWrongFalsely : Prop := suffixUnlikeRow.holds Try.pinned (OpenSpec.ofChange suffixUnlikeWrong)

/-- 'quillkeep.MirrorFew': WHATEVER THE INPUT: true; the input reads as it did. -/
def mirrorFewSpec : ChangeSpec := { name := "mirrorFew", fn := fun _ => fun
  | [d1, d2] => { results := [.lit (.bool true)], args := [d1, d2] }
  | _ => none }
def mirrorFewRow : OpenClaim := { program := "ytpaodbkdmiedfaa", sum := "7c1b43a594113d6bce9b7e45fc74d92db3770453e7e0013332147120f6feda81", func := "quillward/quillkeep.MirrorFew", spec := "mirrorFew", unfollowed := true, recurses := true, apart := false }
def MirrorFewSaid : Prop := mirrorFewRow.holds Try.pinned (OpenSpec.ofChange mirrorFewSpec)

/-- ITS FALSE NEIGHBOUR: 'it returns false'. Refute it at one input. -/
def mirrorFewWrong : ChangeSpec := { name := "mirrorFew", fn := fun _ => fun
  | [d1, d2] => { results := [.lit (.bool false)], args := [d1, d2] }
  | _ => none }
def MirrorFewWrongFalsely : Prop := mirrorFewRow.holds Try.pinned (OpenSpec.ofChange mirrorFewWrong)

/-- 'quillkeep.MirrorLongest': WHATEVER THE INPUT: true; the input reads as it did. -/
def mirrorLongestSpec : ChangeSpec := { name := "mirrorLongest", fn := fun _ => fun
  | [d1, d2, d3] => { results := [.lit (.bool true)], args := [d1, d2, d3] }
  | _ => none }
def mirrorLongestRow : OpenClaim := { program := "ytpaodbkdmiedfaa", sum := "7c1b43a594113d6bce9b7e45fc74d92db3770453e7e0013332147120f6feda81", func := "quillward/quillkeep.MirrorLongest", spec := "mirrorLongest", inPlace := ["internal/bytealg.IndexByteString", "internal/bytealg.IndexString"], unfollowed := true, recurses := true, named := ["internal/bytealg.MaxLen"], apart := false }
def MirrorLongestSaid : Prop := mirrorLongestRow.holds Try.pinned (OpenSpec.ofChange mirrorLongestSpec)

/-- ITS FALSE NEIGHBOUR: 'it returns false'. Refute it at one input. -/
def mirrorLongestWrong : ChangeSpec := { name := "mirrorLongest", fn := fun _ => fun
  | [d1, d2, d3] => { results := [.lit (.bool false)], args := [d1, d2, d3] }
  | _ => none }
def MirrorLongestWrongFalsely : Prop := mirrorLongestRow.holds Try.pinned (OpenSpec.ofChange mirrorLongestWrong)

/-- 'quillkeep.TrieFronts': WHATEVER THE INPUT: true; the input reads as it did. -/
def trieFrontsSpec : ChangeSpec := { name := "trieFronts", fn := fun _ => fun
  | [d1, d2, d3] => { results := [.lit (.bool true)], args := [d1, d2, d3] }
  | _ => none }
def trieFrontsRow : OpenClaim := { program := "ytpaodbkdmiedfaa", sum := "7c1b43a594113d6bce9b7e45fc74d92db3770453e7e0013332147120f6feda81", func := "quillward/quillkeep.TrieFronts", spec := "trieFronts", unfollowed := true, recurses := true, apart := false }
def TrieFrontsSaid : Prop := trieFrontsRow.holds Try.pinned (OpenSpec.ofChange trieFrontsSpec)

/-- ITS FALSE NEIGHBOUR: 'it returns false'. Refute it at one input. -/
def trieFrontsWrong : ChangeSpec := { name := "trieFronts", fn := fun _ => fun
  | [d1, d2, d3] => { results := [.lit (.bool false)], args := [d1, d2, d3] }
  | _ => none }
def TrieFrontsWrongFalsely : Prop := trieFrontsRow.holds Try.pinned (OpenSpec.ofChange trieFrontsWrong)

/-- 'quillkeep.TrieNested': WHATEVER THE INPUT: true; the input reads as it did. -/
def trieNestedSpec : ChangeSpec := { name := "trieNested", fn := fun _ => fun
  | [d1, d2] => { results := [.lit (.bool true)], args := [d1, d2] }
  | _ => none }
def trieNestedRow : OpenClaim := { program := "ytpaodbkdmiedfaa", sum := "7c1b43a594113d6bce9b7e45fc74d92db3770453e7e0013332147120f6feda81", func := "quillward/quillkeep.TrieNested", spec := "trieNested", unfollowed := true, recurses := true, apart := false }
def TrieNestedSaid : Prop := trieNestedRow.holds Try.pinned (OpenSpec.ofChange trieNestedSpec)

/-- ITS FALSE NEIGHBOUR: 'it returns false'. Refute it at one input. -/
def trieNestedWrong : ChangeSpec := { name := "trieNested", fn := fun _ => fun
  | [d1, d2] => { results := [.lit (.bool false)], args := [d1, d2] }
  | _ => none }
def TrieNestedWrongFalsely : Prop := trieNestedRow.holds Try.pinned (OpenSpec.ofChange trieNestedWrong)

/-- 'quillkeep.TrieMore': WHATEVER THE INPUT: true; the input reads as it did. -/
def trieMoreSpec : ChangeSpec := { name := "trieMore", fn := fun _ => fun
  | [d1, d2, d3] => { results := [.lit (.bool true)], args := [d1, d2, d3] }
  | _ => none }
def trieMoreRow : OpenClaim := { program := "ytpaodbkdmiedfaa", sum := "7c1b43a594113d6bce9b7e45fc74d92db3770453e7e0013332147120f6feda81", func := "quillward/quillkeep.TrieMore", spec := "trieMore", unfollowed := true, recurses := true, apart := false }
def TrieMoreSaid : Prop := trieMoreRow.holds Try.pinned (OpenSpec.ofChange trieMoreSpec)

/-- ITS FALSE NEIGHBOUR: 'it returns false'. Refute it at one input. -/
def trieMoreWrong : ChangeSpec := { name := "trieMore", fn := fun _ => fun
  | [d1, d2, d3] => { results := [.lit (.bool false)], args := [d1, d2, d3] }
  | _ => none }
def TrieMoreWrongFalsely : Prop := trieMoreRow.holds Try.pinned (OpenSpec.ofChange trieMoreWrong)

/-- 'quillkeep.TrieEach': WHATEVER THE INPUT: true; the input reads as it did. -/
def trieEachSpec : ChangeSpec := { name := "trieEach", fn := fun _ => fun
  | [d1, d2] => { results := [.lit (.bool true)], args := [d1, d2] }
  | _ => none }
def trieEachRow : OpenClaim := { program := "ytpaodbkdmiedfaa", sum := "7c1b43a594113d6bce9b7e45fc74d92db3770453e7e0013332147120f6feda81", func := "quillward/quillkeep.TrieEach", spec := "trieEach", unfollowed := true, recurses := true, apart := false }
def TrieEachSaid : Prop := trieEachRow.holds Try.pinned (OpenSpec.ofChange trieEachSpec)

/-- ITS FALSE NEIGHBOUR: 'it returns false'. Refute it at one input. -/
def trieEachWrong : ChangeSpec := { name := "trieEach", fn := fun _ => fun
  | [d1, d2] => { results := [.lit (.bool false)], args := [d1, d2] }
  | _ => none }
def TrieEachWrongFalsely : Prop := trieEachRow.holds Try.pinned (OpenSpec.ofChange trieEachWrong)

/- THE SECOND FORM. 'bulk': how many values and letters a reading holds, each counted each time it is reached (what is shared counts as often as it is met; a slice's spare places count too). A statement '..UptoSaid' is the law's where the arguments, and the package variables that the reading takes, are together of bulk at most 1048576: NARROWER than '..Said'. Prove '..Said' where nothing that the law and all that it calls make is longer than what came in: it says more and counts as full. Else prove '..UptoSaid'. A law counts once. -/
mutual
def uptoBulk {H : Type} : DataW H → Nat
  | .lit (.string bytes) => bytes.length + 1
  | .lit _ => 1
  | .nil => 1
  | .ptr d => uptoBulk d + 1
  | .slice elems spare => uptoBulkAll elems + uptoBulkAll spare + 1
  | .agg parts => uptoBulkAll parts + 1
  | .iface _ d => uptoBulk d + 1
  | .map entries => uptoBulkEntries entries + 1
  | .held _ => 1
def uptoBulkAll {H : Type} : List (DataW H) → Nat
  | [] => 0
  | d :: r => uptoBulk d + uptoBulkAll r
def uptoBulkEntries {H : Type} : List (Lit × DataW H) → Nat
  | [] => 0
  | x :: r => uptoBulkEntry x + uptoBulkEntries r
def uptoBulkEntry {H : Type} : Lit × DataW H → Nat
  | (.string bytes, d) => bytes.length + uptoBulk d + 1
  | (_, d) => uptoBulk d + 1
 end
def uptoSmall : (H : Type) → List (DataW H) → Bool := fun _ ds => decide (uptoBulkAll ds ≤ 1048576)
def OpenSpec.upto (s : _root_.Go.ChangeSpec) : _root_.Go.OpenSpec := { _root_.Go.OpenSpec.ofChange s with cond := some uptoSmall }

/-- 'quillkeep.TreeShannon', WHERE WHAT IT READS IS OF BULK AT MOST 1048576: true; the input reads as it did. -/
def treeShannonUptoRow : OpenClaim := { program := "ytpaodbkdmiedfaa", sum := "7c1b43a594113d6bce9b7e45fc74d92db3770453e7e0013332147120f6feda81", func := "quillward/quillkeep.TreeShannon", spec := "treeShannon", unfollowed := true, recurses := true, apart := false, narrowed := true }
def TreeShannonUptoSaid : Prop := treeShannonUptoRow.holds Try.pinned (OpenSpec.upto treeShannonSpec)

/-- 'quillkeep.TreeHeavy', WHERE WHAT IT READS IS OF BULK AT MOST 1048576: true; the input reads as it did. -/
def treeHeavyUptoRow : OpenClaim := { program := "ytpaodbkdmiedfaa", sum := "7c1b43a594113d6bce9b7e45fc74d92db3770453e7e0013332147120f6feda81", func := "quillward/quillkeep.TreeHeavy", spec := "treeHeavy", unfollowed := true, recurses := true, apart := false, narrowed := true }
def TreeHeavyUptoSaid : Prop := treeHeavyUptoRow.holds Try.pinned (OpenSpec.upto treeHeavySpec)

/-- 'quillkeep.SuffixCommon', WHERE WHAT IT READS IS OF BULK AT MOST 1048576: true; the input reads as it did. -/
def suffixCommonUptoRow : OpenClaim := { program := "ytpaodbkdmiedfaa", sum := "7c1b43a594113d6bce9b7e45fc74d92db3770453e7e0013332147120f6feda81", func := "quillward/quillkeep.SuffixCommon", spec := "suffixCommon", inPlace := ["internal/bytealg.abigen_runtime_cmpstring"], unfollowed := true, recurses := true, apart := false, narrowed := true }
def SuffixCommonUptoSaid : Prop := suffixCommonUptoRow.holds Try.pinned (OpenSpec.upto suffixCommonSpec)

/-- 'quillkeep.LyndonSuffix', WHERE WHAT IT READS IS OF BULK AT MOST 1048576: true; the input reads as it did. -/
def lyndonSuffixUptoRow : OpenClaim := { program := "ytpaodbkdmiedfaa", sum := "7c1b43a594113d6bce9b7e45fc74d92db3770453e7e0013332147120f6feda81", func := "quillward/quillkeep.LyndonSuffix", spec := "lyndonSuffix", inPlace := ["internal/bytealg.abigen_runtime_cmpstring"], unfollowed := true, recurses := true, apart := false, narrowed := true }
def LyndonSuffixUptoSaid : Prop := lyndonSuffixUptoRow.holds Try.pinned (OpenSpec.upto lyndonSuffixSpec)

/-- 'quillkeep.SuffixTwice', WHERE WHAT IT READS IS OF BULK AT MOST 1048576: true; the input reads as it did. -/
def suffixTwiceUptoRow : OpenClaim := { program := "ytpaodbkdmiedfaa", sum := "7c1b43a594113d6bce9b7e45fc74d92db3770453e7e0013332147120f6feda81", func := "quillward/quillkeep.SuffixTwice", spec := "suffixTwice", inPlace := ["internal/bytealg.abigen_runtime_cmpstring", "internal/bytealg.IndexByteString", "internal/bytealg.IndexString"], unfollowed := true, recurses := true, named := ["internal/bytealg.MaxLen"], apart := false, narrowed := true }
def SuffixTwiceUptoSaid : Prop := suffixTwiceUptoRow.holds Try.pinned (OpenSpec.upto suffixTwiceSpec)

/-- 'quillkeep.SuffixUnlike', WHERE WHAT IT READS IS OF BULK AT MOST 1048576: true; the input reads as it did. -/
def suffixUnlikeUptoRow : OpenClaim := { program := "ytpaodbkdmiedfaa", sum := "7c1b43a594113d6bce9b7e45fc74d92db3770453e7e0013332147120f6feda81", func := "quillward/quillkeep.SuffixUnlike", spec := "suffixUnlike", inPlace := ["internal/bytealg.abigen_runtime_cmpstring", "internal/abi.NoEscape", "internal/bytealg.MakeNoZero"], unfollowed := true, recurses := true, apart := false, narrowed := true }
def SuffixUnlikeUptoSaid : Prop := suffixUnlikeUptoRow.holds Try.pinned (OpenSpec.upto suffixUnlikeSpec)

/-- 'quillkeep.MirrorFew', WHERE WHAT IT READS IS OF BULK AT MOST 1048576: true; the input reads as it did. -/
def mirrorFewUptoRow : OpenClaim := { program := "ytpaodbkdmiedfaa", sum := "7c1b43a594113d6bce9b7e45fc74d92db3770453e7e0013332147120f6feda81", func := "quillward/quillkeep.MirrorFew", spec := "mirrorFew", unfollowed := true, recurses := true, apart := false, narrowed := true }
def MirrorFewUptoSaid : Prop := mirrorFewUptoRow.holds Try.pinned (OpenSpec.upto mirrorFewSpec)

/-- 'quillkeep.MirrorLongest', WHERE WHAT IT READS IS OF BULK AT MOST 1048576: true; the input reads as it did. -/
def mirrorLongestUptoRow : OpenClaim := { program := "ytpaodbkdmiedfaa", sum := "7c1b43a594113d6bce9b7e45fc74d92db3770453e7e0013332147120f6feda81", func := "quillward/quillkeep.MirrorLongest", spec := "mirrorLongest", inPlace := ["internal/bytealg.IndexByteString", "internal/bytealg.IndexString"], unfollowed := true, recurses := true, named := ["internal/bytealg.MaxLen"], apart := false, narrowed := true }
def MirrorLongestUptoSaid : Prop := mirrorLongestUptoRow.holds Try.pinned (OpenSpec.upto mirrorLongestSpec)

/-- 'quillkeep.TrieFronts', WHERE WHAT IT READS IS OF BULK AT MOST 1048576: true; the input reads as it did. -/
def trieFrontsUptoRow : OpenClaim := { program := "ytpaodbkdmiedfaa", sum := "7c1b43a594113d6bce9b7e45fc74d92db3770453e7e0013332147120f6feda81", func := "quillward/quillkeep.TrieFronts", spec := "trieFronts", unfollowed := true, recurses := true, apart := false, narrowed := true }
def TrieFrontsUptoSaid : Prop := trieFrontsUptoRow.holds Try.pinned (OpenSpec.upto trieFrontsSpec)

/-- 'quillkeep.TrieNested', WHERE WHAT IT READS IS OF BULK AT MOST 1048576: true; the input reads as it did. -/
def trieNestedUptoRow : OpenClaim := { program := "ytpaodbkdmiedfaa", sum := "7c1b43a594113d6bce9b7e45fc74d92db3770453e7e0013332147120f6feda81", func := "quillward/quillkeep.TrieNested", spec := "trieNested", unfollowed := true, recurses := true, apart := false, narrowed := true }
def TrieNestedUptoSaid : Prop := trieNestedUptoRow.holds Try.pinned (OpenSpec.upto trieNestedSpec)

/-- 'quillkeep.TrieMore', WHERE WHAT IT READS IS OF BULK AT MOST 1048576: true; the input reads as it did. -/
def trieMoreUptoRow : OpenClaim := { program := "ytpaodbkdmiedfaa", sum := "7c1b43a594113d6bce9b7e45fc74d92db3770453e7e0013332147120f6feda81", func := "quillward/quillkeep.TrieMore", spec := "trieMore", unfollowed := true, recurses := true, apart := false, narrowed := true }
def TrieMoreUptoSaid : Prop := trieMoreUptoRow.holds Try.pinned (OpenSpec.upto trieMoreSpec)

/-- 'quillkeep.TrieEach', WHERE WHAT IT READS IS OF BULK AT MOST 1048576: true; the input reads as it did. -/
def trieEachUptoRow : OpenClaim := { program := "ytpaodbkdmiedfaa", sum := "7c1b43a594113d6bce9b7e45fc74d92db3770453e7e0013332147120f6feda81", func := "quillward/quillkeep.TrieEach", spec := "trieEach", unfollowed := true, recurses := true, apart := false, narrowed := true }
def TrieEachUptoSaid : Prop := trieEachUptoRow.holds Try.pinned (OpenSpec.upto trieEachSpec)

end Rows
end Go.Proofs.Ytpaodbkdmiedfaa
