/-
  NARROWER THAN 'FOR EVERY INPUT', by the rows' own cells (each row's printed sentence says how): LeafRefuses: laid · LeafWhole: laid · LeafKeeps: laid · LeafPacks: laid · EditsOwn: laid · PackJoins: laid · CodeMade: laid · CodeKraft: laid · PackWays: laid · CodeTwo: laid.
  DERIVED. THE GIVEN ROWS OF THIS SEAT. 10 by the template 'for every input the law returns true; each argument reads behind the call as it read before'; 0 by the template 'total and deterministic' (their statements: YtgoofbbbnphncaaDoorTotals.lean).
  GIVEN WITH THE SEED: the statements are not yours to turn. If you find one false, say at which input.
  Laid BY PROGRAM, IN A SANDBOX (cutbox-rows.mjs): the forced cells as the released guide's own fill.sh prints them over the translation 99f1a758bc7123c4… (all of the seat's roots in one cut). By AI agents, Wed Nov 11 2026. No macro, syntax, notation, axiom, sorry.
-/
import Derived.Test.YtgoofbbbnphncaaDoorChecked
import GoSem.PinnedTables
import GoSem.Claim
import GoSem.ClaimJoined
import GoSem.ClaimMapViews
import Derived.JoinedTies
import Derived.KernelRfl
namespace Go.Proofs.YtgoofbbbnphncaaDoor
/- THE CELL 'sum', in the pinned program and in every row, IS THE sha256 OF THE DUMP (.gsa) THAT YtgoofbbbnphncaaDoorProg.lean LOADS. Nothing in Lean hashes anything: it is a label: what it is worth is what the hold of that sum in a sandbox is worth. -/
noncomputable def Tryd.pinned : Pinned := { name := "ytgoofbbbnphncaadoor", sum := "99f1a758bc7123c427a41ac57e022e0c32c3a8e7a1bf1da0e67c98c9ea0da244", checked := Tryd.checked }
namespace Rows
def none {H : Type} : Left H := { results := [], args := [] }

/- WHAT THE LISTED PACKAGE-LEVEL VARIABLES READ AS WHEN THE CALL BEGINS. Each datum BY PROGRAM (the guide's laid-datum.mjs) off the statement by which the dump's own 'gosem.cut.vars' lays the variable. In a bare row this is a premise. The card (YtgoofbbbnphncaaDoorCards.lean) ties it to the program's text. -/
def laid_math_bits_deBruijn32tab {H : Type} : DataW H := .agg [.lit (.int .u8 0), .lit (.int .u8 1), .lit (.int .u8 28), .lit (.int .u8 2), .lit (.int .u8 29), .lit (.int .u8 14), .lit (.int .u8 24), .lit (.int .u8 3), .lit (.int .u8 30), .lit (.int .u8 22), .lit (.int .u8 20), .lit (.int .u8 15), .lit (.int .u8 25), .lit (.int .u8 17), .lit (.int .u8 4), .lit (.int .u8 8), .lit (.int .u8 31), .lit (.int .u8 27), .lit (.int .u8 13), .lit (.int .u8 23), .lit (.int .u8 21), .lit (.int .u8 19), .lit (.int .u8 16), .lit (.int .u8 7), .lit (.int .u8 26), .lit (.int .u8 12), .lit (.int .u8 18), .lit (.int .u8 6), .lit (.int .u8 11), .lit (.int .u8 5), .lit (.int .u8 10), .lit (.int .u8 9)]
def laid_math_bits_deBruijn64tab {H : Type} : DataW H := .agg [.lit (.int .u8 0), .lit (.int .u8 1), .lit (.int .u8 56), .lit (.int .u8 2), .lit (.int .u8 57), .lit (.int .u8 49), .lit (.int .u8 28), .lit (.int .u8 3), .lit (.int .u8 61), .lit (.int .u8 58), .lit (.int .u8 42), .lit (.int .u8 50), .lit (.int .u8 38), .lit (.int .u8 29), .lit (.int .u8 17), .lit (.int .u8 4), .lit (.int .u8 62), .lit (.int .u8 47), .lit (.int .u8 59), .lit (.int .u8 36), .lit (.int .u8 45), .lit (.int .u8 43), .lit (.int .u8 51), .lit (.int .u8 22), .lit (.int .u8 53), .lit (.int .u8 39), .lit (.int .u8 33), .lit (.int .u8 30), .lit (.int .u8 24), .lit (.int .u8 18), .lit (.int .u8 12), .lit (.int .u8 5), .lit (.int .u8 63), .lit (.int .u8 55), .lit (.int .u8 48), .lit (.int .u8 27), .lit (.int .u8 60), .lit (.int .u8 41), .lit (.int .u8 37), .lit (.int .u8 16), .lit (.int .u8 46), .lit (.int .u8 35), .lit (.int .u8 44), .lit (.int .u8 21), .lit (.int .u8 52), .lit (.int .u8 32), .lit (.int .u8 23), .lit (.int .u8 11), .lit (.int .u8 54), .lit (.int .u8 26), .lit (.int .u8 40), .lit (.int .u8 15), .lit (.int .u8 34), .lit (.int .u8 20), .lit (.int .u8 31), .lit (.int .u8 10), .lit (.int .u8 25), .lit (.int .u8 14), .lit (.int .u8 19), .lit (.int .u8 9), .lit (.int .u8 13), .lit (.int .u8 8), .lit (.int .u8 7), .lit (.int .u8 6)]
def laid_internal_strconv_uint64pow10 {H : Type} : DataW H := .agg [.lit (.int .u64 1), .lit (.int .u64 10), .lit (.int .u64 100), .lit (.int .u64 1000), .lit (.int .u64 10000), .lit (.int .u64 100000), .lit (.int .u64 1000000), .lit (.int .u64 10000000), .lit (.int .u64 100000000), .lit (.int .u64 1000000000), .lit (.int .u64 10000000000), .lit (.int .u64 100000000000), .lit (.int .u64 1000000000000), .lit (.int .u64 10000000000000), .lit (.int .u64 100000000000000), .lit (.int .u64 1000000000000000), .lit (.int .u64 10000000000000000), .lit (.int .u64 100000000000000000), .lit (.int .u64 1000000000000000000), .lit (.int .u64 10000000000000000000)]
def laid_unicode_utf8_acceptRanges {H : Type} : DataW H := .agg [.agg [.lit (.int .u8 128), .lit (.int .u8 191)], .agg [.lit (.int .u8 160), .lit (.int .u8 191)], .agg [.lit (.int .u8 128), .lit (.int .u8 159)], .agg [.lit (.int .u8 144), .lit (.int .u8 191)], .agg [.lit (.int .u8 128), .lit (.int .u8 143)], .agg [.lit (.int .u8 0), .lit (.int .u8 0)], .agg [.lit (.int .u8 0), .lit (.int .u8 0)], .agg [.lit (.int .u8 0), .lit (.int .u8 0)], .agg [.lit (.int .u8 0), .lit (.int .u8 0)], .agg [.lit (.int .u8 0), .lit (.int .u8 0)], .agg [.lit (.int .u8 0), .lit (.int .u8 0)], .agg [.lit (.int .u8 0), .lit (.int .u8 0)], .agg [.lit (.int .u8 0), .lit (.int .u8 0)], .agg [.lit (.int .u8 0), .lit (.int .u8 0)], .agg [.lit (.int .u8 0), .lit (.int .u8 0)], .agg [.lit (.int .u8 0), .lit (.int .u8 0)]]
/-- One of Go's own tables, pinned by name: the form's constant. -/
def laid_unicode_utf8_first : DataW Unit := Go.Pinned.utf8First

/-- 'quillkeep.LeafRefuses': WHATEVER THE INPUT: true; the input reads as it did. -/
def leafRefusesSpec : ChangeSpec := { name := "leafRefuses", fn := fun _ => fun
  | [d1, d2, d3] => { results := [.lit (.bool true)], args := [d1, d2, d3] }
  | _ => none }
def leafRefusesRow : OpenClaim := { program := "ytgoofbbbnphncaadoor", sum := "99f1a758bc7123c427a41ac57e022e0c32c3a8e7a1bf1da0e67c98c9ea0da244", func := "quillward/quillkeep.LeafRefuses", spec := "leafRefuses", unfollowed := true, recurses := true, named := ["internal/strconv.uint64pow10", "math/bits.deBruijn32tab", "math/bits.deBruijn64tab"], apart := false, laid := [("math/bits.deBruijn32tab", laid_math_bits_deBruijn32tab), ("math/bits.deBruijn64tab", laid_math_bits_deBruijn64tab), ("internal/strconv.uint64pow10", laid_internal_strconv_uint64pow10)] }
def LeafRefusesSaid : Prop := leafRefusesRow.holds Tryd.pinned (OpenSpec.ofChange leafRefusesSpec)

/-- ITS FALSE NEIGHBOUR: 'it returns false'. Refute it at one input. -/
def leafRefusesWrong : ChangeSpec := { name := "leafRefuses", fn := fun _ => fun
  | [d1, d2, d3] => { results := [.lit (.bool false)], args := [d1, d2, d3] }
  | _ => none }
def LeafRefusesWrongFalsely : Prop := leafRefusesRow.holds Tryd.pinned (OpenSpec.ofChange leafRefusesWrong)

/-- 'quillkeep.LeafWhole': WHATEVER THE INPUT: true; the input reads as it did. -/
def leafWholeSpec : ChangeSpec := { name := "leafWhole", fn := fun _ => fun
  | [d1, d2, d3] => { results := [.lit (.bool true)], args := [d1, d2, d3] }
  | _ => none }
def leafWholeRow : OpenClaim := { program := "ytgoofbbbnphncaadoor", sum := "99f1a758bc7123c427a41ac57e022e0c32c3a8e7a1bf1da0e67c98c9ea0da244", func := "quillward/quillkeep.LeafWhole", spec := "leafWhole", unfollowed := true, recurses := true, named := ["internal/strconv.uint64pow10", "math/bits.deBruijn32tab", "math/bits.deBruijn64tab"], apart := false, laid := [("math/bits.deBruijn32tab", laid_math_bits_deBruijn32tab), ("math/bits.deBruijn64tab", laid_math_bits_deBruijn64tab), ("internal/strconv.uint64pow10", laid_internal_strconv_uint64pow10)] }
def LeafWholeSaid : Prop := leafWholeRow.holds Tryd.pinned (OpenSpec.ofChange leafWholeSpec)

/-- ITS FALSE NEIGHBOUR: 'it returns false'. Refute it at one input. -/
def leafWholeWrong : ChangeSpec := { name := "leafWhole", fn := fun _ => fun
  | [d1, d2, d3] => { results := [.lit (.bool false)], args := [d1, d2, d3] }
  | _ => none }
def LeafWholeWrongFalsely : Prop := leafWholeRow.holds Tryd.pinned (OpenSpec.ofChange leafWholeWrong)

/-- 'quillkeep.LeafKeeps': WHATEVER THE INPUT: true; the input reads as it did. -/
def leafKeepsSpec : ChangeSpec := { name := "leafKeeps", fn := fun _ => fun
  | [d1, d2, d3, d4] => { results := [.lit (.bool true)], args := [d1, d2, d3, d4] }
  | _ => none }
def leafKeepsRow : OpenClaim := { program := "ytgoofbbbnphncaadoor", sum := "99f1a758bc7123c427a41ac57e022e0c32c3a8e7a1bf1da0e67c98c9ea0da244", func := "quillward/quillkeep.LeafKeeps", spec := "leafKeeps", unfollowed := true, recurses := true, named := ["internal/strconv.uint64pow10", "math/bits.deBruijn32tab", "math/bits.deBruijn64tab"], apart := false, laid := [("math/bits.deBruijn32tab", laid_math_bits_deBruijn32tab), ("math/bits.deBruijn64tab", laid_math_bits_deBruijn64tab), ("internal/strconv.uint64pow10", laid_internal_strconv_uint64pow10)] }
def LeafKeepsSaid : Prop := leafKeepsRow.holds Tryd.pinned (OpenSpec.ofChange leafKeepsSpec)

/-- ITS FALSE NEIGHBOUR: 'it returns false'. Refute it at one input. -/
def leafKeepsWrong : ChangeSpec := { name := "leafKeeps", fn := fun _ => fun
  | [d1, d2, d3, d4] => { results := [.lit (.bool false)], args := [d1, d2, d3, d4] }
  | _ => none }
def LeafKeepsWrongFalsely : Prop := leafKeepsRow.holds Tryd.pinned (OpenSpec.ofChange leafKeepsWrong)

/-- 'quillkeep.LeafPacks': WHATEVER THE INPUT: true; the input reads as it did. -/
def leafPacksSpec : ChangeSpec := { name := "leafPacks", fn := fun _ => fun
  | [d1, d2, d3, d4] => { results := [.lit (.bool true)], args := [d1, d2, d3, d4] }
  | _ => none }
def leafPacksRow : OpenClaim := { program := "ytgoofbbbnphncaadoor", sum := "99f1a758bc7123c427a41ac57e022e0c32c3a8e7a1bf1da0e67c98c9ea0da244", func := "quillward/quillkeep.LeafPacks", spec := "leafPacks", unfollowed := true, recurses := true, named := ["internal/strconv.uint64pow10", "math/bits.deBruijn32tab", "math/bits.deBruijn64tab"], apart := false, laid := [("math/bits.deBruijn32tab", laid_math_bits_deBruijn32tab), ("math/bits.deBruijn64tab", laid_math_bits_deBruijn64tab), ("internal/strconv.uint64pow10", laid_internal_strconv_uint64pow10)] }
def LeafPacksSaid : Prop := leafPacksRow.holds Tryd.pinned (OpenSpec.ofChange leafPacksSpec)

/-- ITS FALSE NEIGHBOUR: 'it returns false'. Refute it at one input. -/
def leafPacksWrong : ChangeSpec := { name := "leafPacks", fn := fun _ => fun
  | [d1, d2, d3, d4] => { results := [.lit (.bool false)], args := [d1, d2, d3, d4] }
  | _ => none }
def LeafPacksWrongFalsely : Prop := leafPacksRow.holds Tryd.pinned (OpenSpec.ofChange leafPacksWrong)

/-- 'quillkeep.EditsOwn': WHATEVER THE INPUT: true; the input reads as it did. -/
def editsOwnSpec : ChangeSpec := { name := "editsOwn", fn := fun _ => fun
  | [d1, d2, d3] => { results := [.lit (.bool true)], args := [d1, d2, d3] }
  | _ => none }
def editsOwnRow : OpenClaim := { program := "ytgoofbbbnphncaadoor", sum := "99f1a758bc7123c427a41ac57e022e0c32c3a8e7a1bf1da0e67c98c9ea0da244", func := "quillward/quillkeep.EditsOwn", spec := "editsOwn", unfollowed := true, recurses := true, named := ["internal/strconv.uint64pow10", "math/bits.deBruijn32tab", "math/bits.deBruijn64tab"], apart := false, laid := [("math/bits.deBruijn32tab", laid_math_bits_deBruijn32tab), ("math/bits.deBruijn64tab", laid_math_bits_deBruijn64tab), ("internal/strconv.uint64pow10", laid_internal_strconv_uint64pow10)] }
def EditsOwnSaid : Prop := editsOwnRow.holds Tryd.pinned (OpenSpec.ofChange editsOwnSpec)

/-- ITS FALSE NEIGHBOUR: 'it returns false'. Refute it at one input. -/
def editsOwnWrong : ChangeSpec := { name := "editsOwn", fn := fun _ => fun
  | [d1, d2, d3] => { results := [.lit (.bool false)], args := [d1, d2, d3] }
  | _ => none }
def EditsOwnWrongFalsely : Prop := editsOwnRow.holds Tryd.pinned (OpenSpec.ofChange editsOwnWrong)

/-- 'quillkeep.PackJoins': WHATEVER THE INPUT: true; the input reads as it did. -/
def packJoinsSpec : ChangeSpec := { name := "packJoins", fn := fun _ => fun
  | [d1, d2, d3] => { results := [.lit (.bool true)], args := [d1, d2, d3] }
  | _ => none }
def packJoinsRow : OpenClaim := { program := "ytgoofbbbnphncaadoor", sum := "99f1a758bc7123c427a41ac57e022e0c32c3a8e7a1bf1da0e67c98c9ea0da244", func := "quillward/quillkeep.PackJoins", spec := "packJoins", inPlace := ["internal/bytealg.IndexByteString", "internal/bytealg.IndexString", "internal/abi.NoEscape"], named := ["unicode/utf8.first", "unicode/utf8.acceptRanges", "internal/bytealg.MaxLen"], apart := false, laid := [("unicode/utf8.acceptRanges", laid_unicode_utf8_acceptRanges), ("unicode/utf8.first", laid_unicode_utf8_first)] }
def PackJoinsSaid : Prop := packJoinsRow.holds Tryd.pinned (OpenSpec.ofChange packJoinsSpec)

/-- ITS FALSE NEIGHBOUR: 'it returns false'. Refute it at one input. -/
def packJoinsWrong : ChangeSpec := { name := "packJoins", fn := fun _ => fun
  | [d1, d2, d3] => { results := [.lit (.bool false)], args := [d1, d2, d3] }
  | _ => none }
def PackJoinsWrongFalsely : Prop := packJoinsRow.holds Tryd.pinned (OpenSpec.ofChange packJoinsWrong)

/-- 'quillkeep.CodeMade': WHATEVER THE INPUT: true; the input reads as it did. -/
def codeMadeSpec : ChangeSpec := { name := "codeMade", fn := fun _ => fun
  | [d] => { results := [.lit (.bool true)], args := [d] }
  | _ => none }
def codeMadeRow : OpenClaim := { program := "ytgoofbbbnphncaadoor", sum := "99f1a758bc7123c427a41ac57e022e0c32c3a8e7a1bf1da0e67c98c9ea0da244", func := "quillward/quillkeep.CodeMade", spec := "codeMade", inPlace := ["internal/bytealg.IndexByteString", "internal/bytealg.IndexString"], unfollowed := true, recurses := true, named := ["unicode/utf8.first", "unicode/utf8.acceptRanges", "internal/bytealg.MaxLen"], apart := false, laid := [("unicode/utf8.acceptRanges", laid_unicode_utf8_acceptRanges), ("unicode/utf8.first", laid_unicode_utf8_first)] }
def CodeMadeSaid : Prop := codeMadeRow.holds Tryd.pinned (OpenSpec.ofChange codeMadeSpec)

/-- ITS FALSE NEIGHBOUR: 'it returns false'. Refute it at one input. -/
def codeMadeWrong : ChangeSpec := { name := "codeMade", fn := fun _ => fun
  | [d] => { results := [.lit (.bool false)], args := [d] }
  | _ => none }
def CodeMadeWrongFalsely : Prop := codeMadeRow.holds Tryd.pinned (OpenSpec.ofChange codeMadeWrong)

/-- 'quillkeep.CodeKraft': WHATEVER THE INPUT: true; the input reads as it did. -/
def codeKraftSpec : ChangeSpec := { name := "codeKraft", fn := fun _ => fun
  | [d] => { results := [.lit (.bool true)], args := [d] }
  | _ => none }
def codeKraftRow : OpenClaim := { program := "ytgoofbbbnphncaadoor", sum := "99f1a758bc7123c427a41ac57e022e0c32c3a8e7a1bf1da0e67c98c9ea0da244", func := "quillward/quillkeep.CodeKraft", spec := "codeKraft", inPlace := ["internal/bytealg.IndexByteString", "internal/bytealg.IndexString"], unfollowed := true, recurses := true, named := ["unicode/utf8.first", "unicode/utf8.acceptRanges", "internal/bytealg.MaxLen"], apart := false, laid := [("unicode/utf8.acceptRanges", laid_unicode_utf8_acceptRanges), ("unicode/utf8.first", laid_unicode_utf8_first)] }
def CodeKraftSaid : Prop := codeKraftRow.holds Tryd.pinned (OpenSpec.ofChange codeKraftSpec)

/-- ITS FALSE NEIGHBOUR: 'it returns false'. Refute it at one input. -/
def codeKraftWrong : ChangeSpec := { name := "codeKraft", fn := fun _ => fun
  | [d] => { results := [.lit (.bool false)], args := [d] }
  | _ => none }
def CodeKraftWrongFalsely : Prop := codeKraftRow.holds Tryd.pinned (OpenSpec.ofChange codeKraftWrong)

/-- 'quillkeep.PackWays': WHATEVER THE INPUT: true; the input reads as it did. -/
def packWaysSpec : ChangeSpec := { name := "packWays", fn := fun _ => fun
  | [d1, d2, d3] => { results := [.lit (.bool true)], args := [d1, d2, d3] }
  | _ => none }
def packWaysRow : OpenClaim := { program := "ytgoofbbbnphncaadoor", sum := "99f1a758bc7123c427a41ac57e022e0c32c3a8e7a1bf1da0e67c98c9ea0da244", func := "quillward/quillkeep.PackWays", spec := "packWays", inPlace := ["internal/bytealg.IndexByteString", "internal/bytealg.IndexString"], unfollowed := true, recurses := true, named := ["unicode/utf8.first", "unicode/utf8.acceptRanges", "internal/bytealg.MaxLen"], apart := false, laid := [("unicode/utf8.acceptRanges", laid_unicode_utf8_acceptRanges), ("unicode/utf8.first", laid_unicode_utf8_first)] }
def PackWaysSaid : Prop := packWaysRow.holds Tryd.pinned (OpenSpec.ofChange packWaysSpec)

/-- ITS FALSE NEIGHBOUR: 'it returns false'. Refute it at one input. -/
def packWaysWrong : ChangeSpec := { name := "packWays", fn := fun _ => fun
  | [d1, d2, d3] => { results := [.lit (.bool false)], args := [d1, d2, d3] }
  | _ => none }
def PackWaysWrongFalsely : Prop := packWaysRow.holds Tryd.pinned (OpenSpec.ofChange packWaysWrong)

/-- 'quillkeep.CodeTwo': WHATEVER THE INPUT: true; the input reads as it did. -/
def codeTwoSpec : ChangeSpec := { name := "codeTwo", fn := fun _ => fun
  | [d1, d2, d3] => { results := [.lit (.bool true)], args := [d1, d2, d3] }
  | _ => none }
def codeTwoRow : OpenClaim := { program := "ytgoofbbbnphncaadoor", sum := "99f1a758bc7123c427a41ac57e022e0c32c3a8e7a1bf1da0e67c98c9ea0da244", func := "quillward/quillkeep.CodeTwo", spec := "codeTwo", inPlace := ["internal/bytealg.IndexByteString", "internal/bytealg.IndexString", "internal/abi.NoEscape"], unfollowed := true, recurses := true, named := ["unicode/utf8.first", "unicode/utf8.acceptRanges", "internal/bytealg.MaxLen"], apart := false, laid := [("unicode/utf8.acceptRanges", laid_unicode_utf8_acceptRanges), ("unicode/utf8.first", laid_unicode_utf8_first)] }
def CodeTwoSaid : Prop := codeTwoRow.holds Tryd.pinned (OpenSpec.ofChange codeTwoSpec)

/-- ITS FALSE NEIGHBOUR: 'it returns false'. Refute it at one input. -/
def codeTwoWrong : ChangeSpec := { name := "codeTwo", fn := fun _ => fun
  | [d1, d2, d3] => { results := [.lit (.bool false)], args := [d1, d2, d3] }
  | _ => none }
def CodeTwoWrongFalsely : Prop := codeTwoRow.holds Tryd.pinned (OpenSpec.ofChange codeTwoWrong)

/- THE SECOND FORM. 'bulk': how many values and letters a reading holds, each counted each time it is reached (what is shared counts as often as it is met; a slice's spare places count too). A statement '..UptoSaid' is the law's where the arguments, and the package variables that the reading takes, are together of bulk at most 1048576: NARROWER than '..Said'. Prove '..Said' where nothing that the law and all that it calls make is longer than what came in: it says more and counts as full. Else prove '..UptoSaid'. A law counts once. -/
mutual
def uptoBulk {H : Type} : DataW H → Nat
  | .lit (.string bytes) => bytes.length + 1
  | .lit _ => 1
  | .nil => 1
  | .ptr d => uptoBulk d + 1
  | .slice elems spare => uptoBulkAll elems + uptoBulkAll spare + 1
  | .agg parts => uptoBulkAll parts + 1
  | .iface _ d => uptoBulk d + 1
  | .map entries => uptoBulkEntries entries + 1
  | .held _ => 1
def uptoBulkAll {H : Type} : List (DataW H) → Nat
  | [] => 0
  | d :: r => uptoBulk d + uptoBulkAll r
def uptoBulkEntries {H : Type} : List (Lit × DataW H) → Nat
  | [] => 0
  | x :: r => uptoBulkEntry x + uptoBulkEntries r
def uptoBulkEntry {H : Type} : Lit × DataW H → Nat
  | (.string bytes, d) => bytes.length + uptoBulk d + 1
  | (_, d) => uptoBulk d + 1
 end
def uptoSmall : (H : Type) → List (DataW H) → Bool := fun _ ds => decide (uptoBulkAll ds ≤ 1048576)
def OpenSpec.upto (s : _root_.Go.ChangeSpec) : _root_.Go.OpenSpec := { _root_.Go.OpenSpec.ofChange s with cond := some uptoSmall }

/-- 'quillkeep.LeafRefuses', WHERE WHAT IT READS IS OF BULK AT MOST 1048576: true; the input reads as it did. -/
def leafRefusesUptoRow : OpenClaim := { program := "ytgoofbbbnphncaadoor", sum := "99f1a758bc7123c427a41ac57e022e0c32c3a8e7a1bf1da0e67c98c9ea0da244", func := "quillward/quillkeep.LeafRefuses", spec := "leafRefuses", unfollowed := true, recurses := true, named := ["internal/strconv.uint64pow10", "math/bits.deBruijn32tab", "math/bits.deBruijn64tab"], apart := false, laid := [("math/bits.deBruijn32tab", laid_math_bits_deBruijn32tab), ("math/bits.deBruijn64tab", laid_math_bits_deBruijn64tab), ("internal/strconv.uint64pow10", laid_internal_strconv_uint64pow10)], narrowed := true }
def LeafRefusesUptoSaid : Prop := leafRefusesUptoRow.holds Tryd.pinned (OpenSpec.upto leafRefusesSpec)

/-- 'quillkeep.LeafWhole', WHERE WHAT IT READS IS OF BULK AT MOST 1048576: true; the input reads as it did. -/
def leafWholeUptoRow : OpenClaim := { program := "ytgoofbbbnphncaadoor", sum := "99f1a758bc7123c427a41ac57e022e0c32c3a8e7a1bf1da0e67c98c9ea0da244", func := "quillward/quillkeep.LeafWhole", spec := "leafWhole", unfollowed := true, recurses := true, named := ["internal/strconv.uint64pow10", "math/bits.deBruijn32tab", "math/bits.deBruijn64tab"], apart := false, laid := [("math/bits.deBruijn32tab", laid_math_bits_deBruijn32tab), ("math/bits.deBruijn64tab", laid_math_bits_deBruijn64tab), ("internal/strconv.uint64pow10", laid_internal_strconv_uint64pow10)], narrowed := true }
def LeafWholeUptoSaid : Prop := leafWholeUptoRow.holds Tryd.pinned (OpenSpec.upto leafWholeSpec)

/-- 'quillkeep.LeafKeeps', WHERE WHAT IT READS IS OF BULK AT MOST 1048576: true; the input reads as it did. -/
def leafKeepsUptoRow : OpenClaim := { program := "ytgoofbbbnphncaadoor", sum := "99f1a758bc7123c427a41ac57e022e0c32c3a8e7a1bf1da0e67c98c9ea0da244", func := "quillward/quillkeep.LeafKeeps", spec := "leafKeeps", unfollowed := true, recurses := true, named := ["internal/strconv.uint64pow10", "math/bits.deBruijn32tab", "math/bits.deBruijn64tab"], apart := false, laid := [("math/bits.deBruijn32tab", laid_math_bits_deBruijn32tab), ("math/bits.deBruijn64tab", laid_math_bits_deBruijn64tab), ("internal/strconv.uint64pow10", laid_internal_strconv_uint64pow10)], narrowed := true }
def LeafKeepsUptoSaid : Prop := leafKeepsUptoRow.holds Tryd.pinned (OpenSpec.upto leafKeepsSpec)

/-- 'quillkeep.LeafPacks', WHERE WHAT IT READS IS OF BULK AT MOST 1048576: true; the input reads as it did. -/
def leafPacksUptoRow : OpenClaim := { program := "ytgoofbbbnphncaadoor", sum := "99f1a758bc7123c427a41ac57e022e0c32c3a8e7a1bf1da0e67c98c9ea0da244", func := "quillward/quillkeep.LeafPacks", spec := "leafPacks", unfollowed := true, recurses := true, named := ["internal/strconv.uint64pow10", "math/bits.deBruijn32tab", "math/bits.deBruijn64tab"], apart := false, laid := [("math/bits.deBruijn32tab", laid_math_bits_deBruijn32tab), ("math/bits.deBruijn64tab", laid_math_bits_deBruijn64tab), ("internal/strconv.uint64pow10", laid_internal_strconv_uint64pow10)], narrowed := true }
def LeafPacksUptoSaid : Prop := leafPacksUptoRow.holds Tryd.pinned (OpenSpec.upto leafPacksSpec)

/-- 'quillkeep.EditsOwn', WHERE WHAT IT READS IS OF BULK AT MOST 1048576: true; the input reads as it did. -/
def editsOwnUptoRow : OpenClaim := { program := "ytgoofbbbnphncaadoor", sum := "99f1a758bc7123c427a41ac57e022e0c32c3a8e7a1bf1da0e67c98c9ea0da244", func := "quillward/quillkeep.EditsOwn", spec := "editsOwn", unfollowed := true, recurses := true, named := ["internal/strconv.uint64pow10", "math/bits.deBruijn32tab", "math/bits.deBruijn64tab"], apart := false, laid := [("math/bits.deBruijn32tab", laid_math_bits_deBruijn32tab), ("math/bits.deBruijn64tab", laid_math_bits_deBruijn64tab), ("internal/strconv.uint64pow10", laid_internal_strconv_uint64pow10)], narrowed := true }
def EditsOwnUptoSaid : Prop := editsOwnUptoRow.holds Tryd.pinned (OpenSpec.upto editsOwnSpec)

/-- 'quillkeep.PackJoins', WHERE WHAT IT READS IS OF BULK AT MOST 1048576: true; the input reads as it did. -/
def packJoinsUptoRow : OpenClaim := { program := "ytgoofbbbnphncaadoor", sum := "99f1a758bc7123c427a41ac57e022e0c32c3a8e7a1bf1da0e67c98c9ea0da244", func := "quillward/quillkeep.PackJoins", spec := "packJoins", inPlace := ["internal/bytealg.IndexByteString", "internal/bytealg.IndexString", "internal/abi.NoEscape"], named := ["unicode/utf8.first", "unicode/utf8.acceptRanges", "internal/bytealg.MaxLen"], apart := false, laid := [("unicode/utf8.acceptRanges", laid_unicode_utf8_acceptRanges), ("unicode/utf8.first", laid_unicode_utf8_first)], narrowed := true }
def PackJoinsUptoSaid : Prop := packJoinsUptoRow.holds Tryd.pinned (OpenSpec.upto packJoinsSpec)

/-- 'quillkeep.CodeMade', WHERE WHAT IT READS IS OF BULK AT MOST 1048576: true; the input reads as it did. -/
def codeMadeUptoRow : OpenClaim := { program := "ytgoofbbbnphncaadoor", sum := "99f1a758bc7123c427a41ac57e022e0c32c3a8e7a1bf1da0e67c98c9ea0da244", func := "quillward/quillkeep.CodeMade", spec := "codeMade", inPlace := ["internal/bytealg.IndexByteString", "internal/bytealg.IndexString"], unfollowed := true, recurses := true, named := ["unicode/utf8.first", "unicode/utf8.acceptRanges", "internal/bytealg.MaxLen"], apart := false, laid := [("unicode/utf8.acceptRanges", laid_unicode_utf8_acceptRanges), ("unicode/utf8.first", laid_unicode_utf8_first)], narrowed := true }
def CodeMadeUptoSaid : Prop := codeMadeUptoRow.holds Tryd.pinned (OpenSpec.upto codeMadeSpec)

/-- 'quillkeep.CodeKraft', WHERE WHAT IT READS IS OF BULK AT MOST 1048576: true; the input reads as it did. -/
def codeKraftUptoRow : OpenClaim := { program := "ytgoofbbbnphncaadoor", sum := "99f1a758bc7123c427a41ac57e022e0c32c3a8e7a1bf1da0e67c98c9ea0da244", func := "quillward/quillkeep.CodeKraft", spec := "codeKraft", inPlace := ["internal/bytealg.IndexByteString", "internal/bytealg.IndexString"], unfollowed := true, recurses := true, named := ["unicode/utf8.first", "unicode/utf8.acceptRanges", "internal/bytealg.MaxLen"], apart := false, laid := [("unicode/utf8.acceptRanges", laid_unicode_utf8_acceptRanges), ("unicode/utf8.first", laid_unicode_utf8_first)], narrowed := true }
def CodeKraftUptoSaid : Prop := codeKraftUptoRow.holds Tryd.pinned (OpenSpec.upto codeKraftSpec)

/-- 'quillkeep.PackWays', WHERE WHAT IT READS IS OF BULK AT MOST 1048576: true; the input reads as it did. -/
def packWaysUptoRow : OpenClaim := { program := "ytgoofbbbnphncaadoor", sum := "99f1a758bc7123c427a41ac57e022e0c32c3a8e7a1bf1da0e67c98c9ea0da244", func := "quillward/quillkeep.PackWays", spec := "packWays", inPlace := ["internal/bytealg.IndexByteString", "internal/bytealg.IndexString"], unfollowed := true, recurses := true, named := ["unicode/utf8.first", "unicode/utf8.acceptRanges", "internal/bytealg.MaxLen"], apart := false, laid := [("unicode/utf8.acceptRanges", laid_unicode_utf8_acceptRanges), ("unicode/utf8.first", laid_unicode_utf8_first)], narrowed := true }
def PackWaysUptoSaid : Prop := packWaysUptoRow.holds Tryd.pinned (OpenSpec.upto packWaysSpec)

/-- 'quillkeep.CodeTwo', WHERE WHAT IT READS IS OF BULK AT MOST 1048576: true; the input reads as it did. -/
def codeTwoUptoRow : OpenClaim := { program := "ytgoofbbbnphncaadoor", sum := "99f1a758bc7123c427a41ac57e022e0c32c3a8e7a1bf1da0e67c98c9ea0da244", func := "quillward/quillkeep.CodeTwo", spec := "codeTwo", inPlace := ["internal/bytealg.IndexByteString", "internal/bytealg.IndexString", "internal/abi.NoEscape"], unfollowed := true, recurses := true, named := ["unicode/utf8.first", "unicode/utf8.acceptRanges", "internal/bytealg.MaxLen"], apart := false, laid := [("unicode/utf8.acceptRanges", laid_unicode_utf8_acceptRanges), ("unicode/utf8.first", laid_unicode_utf8_first)], narrowed := true }
def CodeTwoUptoSaid : Prop := codeTwoUptoRow.holds Tryd.pinned (OpenSpec.upto codeTwoSpec)

end Rows
end Go.Proofs.YtgoofbbbnphncaaDoor
