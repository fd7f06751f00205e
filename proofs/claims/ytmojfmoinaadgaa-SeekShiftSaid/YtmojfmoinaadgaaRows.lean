/-
  No cell of these rows narrows 'for every input' (looked for: loops, veiled, ifaces, maps, wideKeys, modest, calm, conditions, laid).
  DERIVED. THE GIVEN ROWS OF THIS SEAT. 12 by the template 'for every input the law returns true; each argument reads behind the call as it read before'; 0 by the template 'total and deterministic' (their statements: YtmojfmoinaadgaaTotals.lean).
  GIVEN WITH THE SEED: the statements are not yours to turn. If you find one false, say at which input.
  Laid BY PROGRAM, IN A SANDBOX (cutbox-rows.mjs): the forced cells as the released guide's own fill.sh prints them over the translation 22dfbe8371f5c912… (all of the seat's roots in one cut). By AI agents, Wed Nov 11 2026. No macro, syntax, notation, axiom, sorry.
-/
import Derived.Test.YtmojfmoinaadgaaChecked
import GoSem.Claim
import GoSem.ClaimJoined
import GoSem.ClaimMapViews
import Derived.JoinedTies
import Derived.KernelRfl
namespace Go.Proofs.Ytmojfmoinaadgaa
/- THE CELL 'sum', in the pinned program and in every row, IS THE sha256 OF THE DUMP (.gsa) THAT YtmojfmoinaadgaaProg.lean LOADS. Nothing in Lean hashes anything: it is a label: what it is worth is what the hold of that sum in a sandbox is worth. -/
noncomputable def Try.pinned : Pinned := { name := "ytmojfmoinaadgaa", sum := "22dfbe8371f5c912b0f14af54d4ca5a08591da2433cedbc4955fb2ac4bf1136f", checked := Try.checked }
namespace Rows
def none {H : Type} : Left H := { results := [], args := [] }

/-- 'quillkeep.LyndonJoin': WHATEVER THE INPUT: true; the input reads as it did. -/
def lyndonJoinSpec : ChangeSpec := { name := "lyndonJoin", fn := fun _ => fun
  | [d1, d2] => { results := [.lit (.bool true)], args := [d1, d2] }
  | _ => none }
def lyndonJoinRow : OpenClaim := { program := "ytmojfmoinaadgaa", sum := "22dfbe8371f5c912b0f14af54d4ca5a08591da2433cedbc4955fb2ac4bf1136f", func := "quillward/quillkeep.LyndonJoin", spec := "lyndonJoin", unfollowed := true, recurses := true, apart := false }
def LyndonJoinSaid : Prop := lyndonJoinRow.holds Try.pinned (OpenSpec.ofChange lyndonJoinSpec)

/-- ITS FALSE NEIGHBOUR: 'it returns false'. Refute it at one input. -/
def lyndonJoinWrong : ChangeSpec := { name := "lyndonJoin", fn := fun _ => fun
  | [d1, d2] => { results := [.lit (.bool false)], args := [d1, d2] }
  | _ => none }
def LyndonJoinWrongFalsely : Prop := lyndonJoinRow.holds Try.pinned (OpenSpec.ofChange lyndonJoinWrong)

/-- 'quillkeep.WordBorders': WHATEVER THE INPUT: true; the input reads as it did. -/
def wordBordersSpec : ChangeSpec := { name := "wordBorders", fn := fun _ => fun
  | [d] => { results := [.lit (.bool true)], args := [d] }
  | _ => none }
def wordBordersRow : OpenClaim := { program := "ytmojfmoinaadgaa", sum := "22dfbe8371f5c912b0f14af54d4ca5a08591da2433cedbc4955fb2ac4bf1136f", func := "quillward/quillkeep.WordBorders", spec := "wordBorders", unfollowed := true, recurses := true, apart := false }
def WordBordersSaid : Prop := wordBordersRow.holds Try.pinned (OpenSpec.ofChange wordBordersSpec)

/-- ITS FALSE NEIGHBOUR: 'it returns false'. Refute it at one input. -/
def wordBordersWrong : ChangeSpec := { name := "wordBorders", fn := fun _ => fun
  | [d] => { results := [.lit (.bool false)], args := [d] }
  | _ => none }
def WordBordersWrongFalsely : Prop := wordBordersRow.holds Try.pinned (OpenSpec.ofChange wordBordersWrong)

/-- 'quillkeep.WordPowers': WHATEVER THE INPUT: true; the input reads as it did. -/
def wordPowersSpec : ChangeSpec := { name := "wordPowers", fn := fun _ => fun
  | [d1, d2] => { results := [.lit (.bool true)], args := [d1, d2] }
  | _ => none }
def wordPowersRow : OpenClaim := { program := "ytmojfmoinaadgaa", sum := "22dfbe8371f5c912b0f14af54d4ca5a08591da2433cedbc4955fb2ac4bf1136f", func := "quillward/quillkeep.WordPowers", spec := "wordPowers", unfollowed := true, recurses := true, apart := false }
def WordPowersSaid : Prop := wordPowersRow.holds Try.pinned (OpenSpec.ofChange wordPowersSpec)

/-- ITS FALSE NEIGHBOUR: 'it returns false'. Refute it at one input. -/
def wordPowersWrong : ChangeSpec := { name := "wordPowers", fn := fun _ => fun
  | [d1, d2] => { results := [.lit (.bool false)], args := [d1, d2] }
  | _ => none }
def WordPowersWrongFalsely : Prop := wordPowersRow.holds Try.pinned (OpenSpec.ofChange wordPowersWrong)

/-- 'quillkeep.WordFine': WHATEVER THE INPUT: true; the input reads as it did. -/
def wordFineSpec : ChangeSpec := { name := "wordFine", fn := fun _ => fun
  | [d] => { results := [.lit (.bool true)], args := [d] }
  | _ => none }
def wordFineRow : OpenClaim := { program := "ytmojfmoinaadgaa", sum := "22dfbe8371f5c912b0f14af54d4ca5a08591da2433cedbc4955fb2ac4bf1136f", func := "quillward/quillkeep.WordFine", spec := "wordFine", unfollowed := true, recurses := true, apart := false }
def WordFineSaid : Prop := wordFineRow.holds Try.pinned (OpenSpec.ofChange wordFineSpec)

/-- ITS FALSE NEIGHBOUR: 'it returns false'. Refute it at one input. -/
def wordFineWrong : ChangeSpec := { name := "wordFine", fn := fun _ => fun
  | [d] => { results := [.lit (.bool false)], args := [d] }
  | _ => none }
def WordFineWrongFalsely : Prop := wordFineRow.holds Try.pinned (OpenSpec.ofChange wordFineWrong)

/-- 'quillkeep.WordTurns': WHATEVER THE INPUT: true; the input reads as it did. -/
def wordTurnsSpec : ChangeSpec := { name := "wordTurns", fn := fun _ => fun
  | [d1, d2] => { results := [.lit (.bool true)], args := [d1, d2] }
  | _ => none }
def wordTurnsRow : OpenClaim := { program := "ytmojfmoinaadgaa", sum := "22dfbe8371f5c912b0f14af54d4ca5a08591da2433cedbc4955fb2ac4bf1136f", func := "quillward/quillkeep.WordTurns", spec := "wordTurns", unfollowed := true, recurses := true, apart := false }
def WordTurnsSaid : Prop := wordTurnsRow.holds Try.pinned (OpenSpec.ofChange wordTurnsSpec)

/-- ITS FALSE NEIGHBOUR: 'it returns false'. Refute it at one input. -/
def wordTurnsWrong : ChangeSpec := { name := "wordTurns", fn := fun _ => fun
  | [d1, d2] => { results := [.lit (.bool false)], args := [d1, d2] }
  | _ => none }
def WordTurnsWrongFalsely : Prop := wordTurnsRow.holds Try.pinned (OpenSpec.ofChange wordTurnsWrong)

/-- 'quillkeep.LyndonDuval': WHATEVER THE INPUT: true; the input reads as it did. -/
def lyndonDuvalSpec : ChangeSpec := { name := "lyndonDuval", fn := fun _ => fun
  | [d1, d2, d3, d4] => { results := [.lit (.bool true)], args := [d1, d2, d3, d4] }
  | _ => none }
def lyndonDuvalRow : OpenClaim := { program := "ytmojfmoinaadgaa", sum := "22dfbe8371f5c912b0f14af54d4ca5a08591da2433cedbc4955fb2ac4bf1136f", func := "quillward/quillkeep.LyndonDuval", spec := "lyndonDuval", unfollowed := true, recurses := true, apart := false }
def LyndonDuvalSaid : Prop := lyndonDuvalRow.holds Try.pinned (OpenSpec.ofChange lyndonDuvalSpec)

/-- ITS FALSE NEIGHBOUR: 'it returns false'. Refute it at one input. -/
def lyndonDuvalWrong : ChangeSpec := { name := "lyndonDuval", fn := fun _ => fun
  | [d1, d2, d3, d4] => { results := [.lit (.bool false)], args := [d1, d2, d3, d4] }
  | _ => none }
def LyndonDuvalWrongFalsely : Prop := lyndonDuvalRow.holds Try.pinned (OpenSpec.ofChange lyndonDuvalWrong)

/-- 'quillkeep.LyndonTurns': WHATEVER THE INPUT: true; the input reads as it did. -/
def lyndonTurnsSpec : ChangeSpec := { name := "lyndonTurns", fn := fun _ => fun
  | [d1, d2] => { results := [.lit (.bool true)], args := [d1, d2] }
  | _ => none }
def lyndonTurnsRow : OpenClaim := { program := "ytmojfmoinaadgaa", sum := "22dfbe8371f5c912b0f14af54d4ca5a08591da2433cedbc4955fb2ac4bf1136f", func := "quillward/quillkeep.LyndonTurns", spec := "lyndonTurns", unfollowed := true, recurses := true, apart := false }
def LyndonTurnsSaid : Prop := lyndonTurnsRow.holds Try.pinned (OpenSpec.ofChange lyndonTurnsSpec)

/-- ITS FALSE NEIGHBOUR: 'it returns false'. Refute it at one input. -/
def lyndonTurnsWrong : ChangeSpec := { name := "lyndonTurns", fn := fun _ => fun
  | [d1, d2] => { results := [.lit (.bool false)], args := [d1, d2] }
  | _ => none }
def LyndonTurnsWrongFalsely : Prop := lyndonTurnsRow.holds Try.pinned (OpenSpec.ofChange lyndonTurnsWrong)

/-- 'quillkeep.LyndonOne': WHATEVER THE INPUT: true; the input reads as it did. -/
def lyndonOneSpec : ChangeSpec := { name := "lyndonOne", fn := fun _ => fun
  | [d] => { results := [.lit (.bool true)], args := [d] }
  | _ => none }
def lyndonOneRow : OpenClaim := { program := "ytmojfmoinaadgaa", sum := "22dfbe8371f5c912b0f14af54d4ca5a08591da2433cedbc4955fb2ac4bf1136f", func := "quillward/quillkeep.LyndonOne", spec := "lyndonOne", inPlace := ["internal/abi.NoEscape", "internal/bytealg.MakeNoZero"], apart := false }
def LyndonOneSaid : Prop := lyndonOneRow.holds Try.pinned (OpenSpec.ofChange lyndonOneSpec)

/-- ITS FALSE NEIGHBOUR: 'it returns false'. Refute it at one input. -/
def lyndonOneWrong : ChangeSpec := { name := "lyndonOne", fn := fun _ => fun
  | [d] => { results := [.lit (.bool false)], args := [d] }
  | _ => none }
def LyndonOneWrongFalsely : Prop := lyndonOneRow.holds Try.pinned (OpenSpec.ofChange lyndonOneWrong)

/-- 'quillkeep.SeekEach': WHATEVER THE INPUT: true; the input reads as it did. -/
def seekEachSpec : ChangeSpec := { name := "seekEach", fn := fun _ => fun
  | [d1, d2, d3] => { results := [.lit (.bool true)], args := [d1, d2, d3] }
  | _ => none }
def seekEachRow : OpenClaim := { program := "ytmojfmoinaadgaa", sum := "22dfbe8371f5c912b0f14af54d4ca5a08591da2433cedbc4955fb2ac4bf1136f", func := "quillward/quillkeep.SeekEach", spec := "seekEach", apart := false }
def SeekEachSaid : Prop := seekEachRow.holds Try.pinned (OpenSpec.ofChange seekEachSpec)

/-- ITS FALSE NEIGHBOUR: 'it returns false'. Refute it at one input. -/
def seekEachWrong : ChangeSpec := { name := "seekEach", fn := fun _ => fun
  | [d1, d2, d3] => { results := [.lit (.bool false)], args := [d1, d2, d3] }
  | _ => none }
def SeekEachWrongFalsely : Prop := seekEachRow.holds Try.pinned (OpenSpec.ofChange seekEachWrong)

/-- 'quillkeep.SeekShift': WHATEVER THE INPUT: true; the input reads as it did. -/
def seekShiftSpec : ChangeSpec := { name := "seekShift", fn := fun _ => fun
  | [d1, d2, d3] => { results := [.lit (.bool true)], args := [d1, d2, d3] }
  | _ => none }
def seekShiftRow : OpenClaim := { program := "ytmojfmoinaadgaa", sum := "22dfbe8371f5c912b0f14af54d4ca5a08591da2433cedbc4955fb2ac4bf1136f", func := "quillward/quillkeep.SeekShift", spec := "seekShift", unfollowed := true, recurses := true, apart := false }
def SeekShiftSaid : Prop := seekShiftRow.holds Try.pinned (OpenSpec.ofChange seekShiftSpec)

/-- ITS FALSE NEIGHBOUR: 'it returns false'. Refute it at one input. -/
def seekShiftWrong : ChangeSpec := { name := "seekShift", fn := fun _ => fun
  | [d1, d2, d3] => { results := [.lit (.bool false)], args := [d1, d2, d3] }
  | _ => none }
def SeekShiftWrongFalsely : Prop := seekShiftRow.holds Try.pinned (OpenSpec.ofChange seekShiftWrong)

/-- 'quillkeep.SeekFronts': WHATEVER THE INPUT: true; the input reads as it did. -/
def seekFrontsSpec : ChangeSpec := { name := "seekFronts", fn := fun _ => fun
  | [d1, d2] => { results := [.lit (.bool true)], args := [d1, d2] }
  | _ => none }
def seekFrontsRow : OpenClaim := { program := "ytmojfmoinaadgaa", sum := "22dfbe8371f5c912b0f14af54d4ca5a08591da2433cedbc4955fb2ac4bf1136f", func := "quillward/quillkeep.SeekFronts", spec := "seekFronts", unfollowed := true, recurses := true, apart := false }
def SeekFrontsSaid : Prop := seekFrontsRow.holds Try.pinned (OpenSpec.ofChange seekFrontsSpec)

/-- ITS FALSE NEIGHBOUR: 'it returns false'. Refute it at one input. -/
def seekFrontsWrong : ChangeSpec := { name := "seekFronts", fn := fun _ => fun
  | [d1, d2] => { results := [.lit (.bool false)], args := [d1, d2] }
  | _ => none }
def SeekFrontsWrongFalsely : Prop := seekFrontsRow.holds Try.pinned (OpenSpec.ofChange seekFrontsWrong)

/-- 'quillkeep.WordRoot': WHATEVER THE INPUT: true; the input reads as it did. -/
def wordRootSpec : ChangeSpec := { name := "wordRoot", fn := fun _ => fun
  | [d1, d2] => { results := [.lit (.bool true)], args := [d1, d2] }
  | _ => none }
def wordRootRow : OpenClaim := { program := "ytmojfmoinaadgaa", sum := "22dfbe8371f5c912b0f14af54d4ca5a08591da2433cedbc4955fb2ac4bf1136f", func := "quillward/quillkeep.WordRoot", spec := "wordRoot", inPlace := ["internal/abi.NoEscape", "internal/bytealg.MakeNoZero"], unfollowed := true, recurses := true, apart := false }
def WordRootSaid : Prop := wordRootRow.holds Try.pinned (OpenSpec.ofChange wordRootSpec)

/-- ITS FALSE NEIGHBOUR: 'it returns false'. Refute it at one input. -/
def wordRootWrong : ChangeSpec := { name := "wordRoot", fn := fun _ => fun
  | [d1, d2] => { results := [.lit (.bool false)], args := [d1, d2] }
  | _ => none }
def WordRootWrongFalsely : Prop := wordRootRow.holds Try.pinned (OpenSpec.ofChange wordRootWrong)

/- THE SECOND FORM. 'bulk': how many values and letters a reading holds, each counted each time it is reached (what is shared counts as often as it is met; a slice's spare places count too). A statement '..UptoSaid' is the law's where the arguments, and the package variables that the reading takes, are together of bulk at most 1048576: NARROWER than '..Said'. Prove '..Said' where nothing that the law and all that it calls make is longer than what came in: it says more and counts as full. Else prove '..UptoSaid'. A law counts once. -/
mutual
def uptoBulk {H : Type} : DataW H → Nat
  | .lit (.string bytes) => bytes.length + 1
  | .lit _ => 1
  | .nil => 1
  | .ptr d => uptoBulk d + 1
  | .slice elems spare => uptoBulkAll elems + uptoBulkAll spare + 1
  | .agg parts => uptoBulkAll parts + 1
  | .iface _ d => uptoBulk d + 1
  | .map entries => uptoBulkEntries entries + 1
  | .held _ => 1
def uptoBulkAll {H : Type} : List (DataW H) → Nat
  | [] => 0
  | d :: r => uptoBulk d + uptoBulkAll r
def uptoBulkEntries {H : Type} : List (Lit × DataW H) → Nat
  | [] => 0
  | x :: r => uptoBulkEntry x + uptoBulkEntries r
def uptoBulkEntry {H : Type} : Lit × DataW H → Nat
  | (.string bytes, d) => bytes.length + uptoBulk d + 1
  | (_, d) => uptoBulk d + 1
 end
def uptoSmall : (H : Type) → List (DataW H) → Bool := fun _ ds => decide (uptoBulkAll ds ≤ 1048576)
def OpenSpec.upto (s : _root_.Go.ChangeSpec) : _root_.Go.OpenSpec := { _root_.Go.OpenSpec.ofChange s with cond := some uptoSmall }

/-- 'quillkeep.LyndonJoin', WHERE WHAT IT READS IS OF BULK AT MOST 1048576: true; the input reads as it did. -/
def lyndonJoinUptoRow : OpenClaim := { program := "ytmojfmoinaadgaa", sum := "22dfbe8371f5c912b0f14af54d4ca5a08591da2433cedbc4955fb2ac4bf1136f", func := "quillward/quillkeep.LyndonJoin", spec := "lyndonJoin", unfollowed := true, recurses := true, apart := false, narrowed := true }
def LyndonJoinUptoSaid : Prop := lyndonJoinUptoRow.holds Try.pinned (OpenSpec.upto lyndonJoinSpec)

/-- 'quillkeep.WordBorders', WHERE WHAT IT READS IS OF BULK AT MOST 1048576: true; the input reads as it did. -/
def wordBordersUptoRow : OpenClaim := { program := "ytmojfmoinaadgaa", sum := "22dfbe8371f5c912b0f14af54d4ca5a08591da2433cedbc4955fb2ac4bf1136f", func := "quillward/quillkeep.WordBorders", spec := "wordBorders", unfollowed := true, recurses := true, apart := false, narrowed := true }
def WordBordersUptoSaid : Prop := wordBordersUptoRow.holds Try.pinned (OpenSpec.upto wordBordersSpec)

/-- 'quillkeep.WordPowers', WHERE WHAT IT READS IS OF BULK AT MOST 1048576: true; the input reads as it did. -/
def wordPowersUptoRow : OpenClaim := { program := "ytmojfmoinaadgaa", sum := "22dfbe8371f5c912b0f14af54d4ca5a08591da2433cedbc4955fb2ac4bf1136f", func := "quillward/quillkeep.WordPowers", spec := "wordPowers", unfollowed := true, recurses := true, apart := false, narrowed := true }
def WordPowersUptoSaid : Prop := wordPowersUptoRow.holds Try.pinned (OpenSpec.upto wordPowersSpec)

/-- 'quillkeep.WordFine', WHERE WHAT IT READS IS OF BULK AT MOST 1048576: true; the input reads as it did. -/
def wordFineUptoRow : OpenClaim := { program := "ytmojfmoinaadgaa", sum := "22dfbe8371f5c912b0f14af54d4ca5a08591da2433cedbc4955fb2ac4bf1136f", func := "quillward/quillkeep.WordFine", spec := "wordFine", unfollowed := true, recurses := true, apart := false, narrowed := true }
def WordFineUptoSaid : Prop := wordFineUptoRow.holds Try.pinned (OpenSpec.upto wordFineSpec)

/-- 'quillkeep.WordTurns', WHERE WHAT IT READS IS OF BULK AT MOST 1048576: true; the input reads as it did. -/
def wordTurnsUptoRow : OpenClaim := { program := "ytmojfmoinaadgaa", sum := "22dfbe8371f5c912b0f14af54d4ca5a08591da2433cedbc4955fb2ac4bf1136f", func := "quillward/quillkeep.WordTurns", spec := "wordTurns", unfollowed := true, recurses := true, apart := false, narrowed := true }
def WordTurnsUptoSaid : Prop := wordTurnsUptoRow.holds Try.pinned (OpenSpec.upto wordTurnsSpec)

/-- 'quillkeep.LyndonDuval', WHERE WHAT IT READS IS OF BULK AT MOST 1048576: true; the input reads as it did. -/
def lyndonDuvalUptoRow : OpenClaim := { program := "ytmojfmoinaadgaa", sum := "22dfbe8371f5c912b0f14af54d4ca5a08591da2433cedbc4955fb2ac4bf1136f", func := "quillward/quillkeep.LyndonDuval", spec := "lyndonDuval", unfollowed := true, recurses := true, apart := false, narrowed := true }
def LyndonDuvalUptoSaid : Prop := lyndonDuvalUptoRow.holds Try.pinned (OpenSpec.upto lyndonDuvalSpec)

/-- 'quillkeep.LyndonTurns', WHERE WHAT IT READS IS OF BULK AT MOST 1048576: true; the input reads as it did. -/
def lyndonTurnsUptoRow : OpenClaim := { program := "ytmojfmoinaadgaa", sum := "22dfbe8371f5c912b0f14af54d4ca5a08591da2433cedbc4955fb2ac4bf1136f", func := "quillward/quillkeep.LyndonTurns", spec := "lyndonTurns", unfollowed := true, recurses := true, apart := false, narrowed := true }
def LyndonTurnsUptoSaid : Prop := lyndonTurnsUptoRow.holds Try.pinned (OpenSpec.upto lyndonTurnsSpec)

/-- 'quillkeep.LyndonOne', WHERE WHAT IT READS IS OF BULK AT MOST 1048576: true; the input reads as it did. -/
def lyndonOneUptoRow : OpenClaim := { program := "ytmojfmoinaadgaa", sum := "22dfbe8371f5c912b0f14af54d4ca5a08591da2433cedbc4955fb2ac4bf1136f", func := "quillward/quillkeep.LyndonOne", spec := "lyndonOne", inPlace := ["internal/abi.NoEscape", "internal/bytealg.MakeNoZero"], apart := false, narrowed := true }
def LyndonOneUptoSaid : Prop := lyndonOneUptoRow.holds Try.pinned (OpenSpec.upto lyndonOneSpec)

/-- 'quillkeep.SeekEach', WHERE WHAT IT READS IS OF BULK AT MOST 1048576: true; the input reads as it did. -/
def seekEachUptoRow : OpenClaim := { program := "ytmojfmoinaadgaa", sum := "22dfbe8371f5c912b0f14af54d4ca5a08591da2433cedbc4955fb2ac4bf1136f", func := "quillward/quillkeep.SeekEach", spec := "seekEach", apart := false, narrowed := true }
def SeekEachUptoSaid : Prop := seekEachUptoRow.holds Try.pinned (OpenSpec.upto seekEachSpec)

/-- 'quillkeep.SeekShift', WHERE WHAT IT READS IS OF BULK AT MOST 1048576: true; the input reads as it did. -/
def seekShiftUptoRow : OpenClaim := { program := "ytmojfmoinaadgaa", sum := "22dfbe8371f5c912b0f14af54d4ca5a08591da2433cedbc4955fb2ac4bf1136f", func := "quillward/quillkeep.SeekShift", spec := "seekShift", unfollowed := true, recurses := true, apart := false, narrowed := true }
def SeekShiftUptoSaid : Prop := seekShiftUptoRow.holds Try.pinned (OpenSpec.upto seekShiftSpec)

/-- 'quillkeep.SeekFronts', WHERE WHAT IT READS IS OF BULK AT MOST 1048576: true; the input reads as it did. -/
def seekFrontsUptoRow : OpenClaim := { program := "ytmojfmoinaadgaa", sum := "22dfbe8371f5c912b0f14af54d4ca5a08591da2433cedbc4955fb2ac4bf1136f", func := "quillward/quillkeep.SeekFronts", spec := "seekFronts", unfollowed := true, recurses := true, apart := false, narrowed := true }
def SeekFrontsUptoSaid : Prop := seekFrontsUptoRow.holds Try.pinned (OpenSpec.upto seekFrontsSpec)

/-- 'quillkeep.WordRoot', WHERE WHAT IT READS IS OF BULK AT MOST 1048576: true; the input reads as it did. -/
def wordRootUptoRow : OpenClaim := { program := "ytmojfmoinaadgaa", sum := "22dfbe8371f5c912b0f14af54d4ca5a08591da2433cedbc4955fb2ac4bf1136f", func := "quillward/quillkeep.WordRoot", spec := "wordRoot", inPlace := ["internal/abi.NoEscape", "internal/bytealg.MakeNoZero"], unfollowed := true, recurses := true, apart := false, narrowed := true }
def WordRootUptoSaid : Prop := wordRootUptoRow.holds Try.pinned (OpenSpec.upto wordRootSpec)

end Rows
end Go.Proofs.Ytmojfmoinaadgaa
