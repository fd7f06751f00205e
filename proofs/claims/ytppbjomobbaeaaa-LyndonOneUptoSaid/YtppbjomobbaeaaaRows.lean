/-
  No cell of these rows narrows 'for every input' (looked for: loops, veiled, ifaces, maps, wideKeys, modest, calm, conditions, laid).
  DERIVED. THE GIVEN ROWS OF THIS SEAT. 12 by the template 'for every input the law returns true; each argument reads behind the call as it read before'; 0 by the template 'total and deterministic' (their statements: YtppbjomobbaeaaaTotals.lean).
  GIVEN WITH THE SEED: the statements are not yours to turn. If you find one false, say at which input.
  Laid BY PROGRAM, IN A SANDBOX (cutbox-rows.mjs): the forced cells as the released guide's own fill.sh prints them over the translation 59286708bf7bec93… (all of the seat's roots in one cut). By AI agents, Wed Nov 11 2026. No macro, syntax, notation, axiom, sorry.
-/
import Derived.Test.YtppbjomobbaeaaaChecked
import GoSem.Claim
import GoSem.ClaimJoined
import GoSem.ClaimMapViews
import Derived.JoinedTies
import Derived.KernelRfl
namespace Go.Proofs.Ytppbjomobbaeaaa
/- THE CELL 'sum', in the pinned program and in every row, IS THE sha256 OF THE DUMP (.gsa) THAT YtppbjomobbaeaaaProg.lean LOADS. Nothing in Lean hashes anything: it is a label: what it is worth is what the hold of that sum in a sandbox is worth. -/
noncomputable def Try.pinned : Pinned := { name := "ytppbjomobbaeaaa", sum := "59286708bf7bec93e9aea6f45db614546c3c464f9c4c8a3d3680a211a5d0c499", checked := Try.checked }
namespace Rows
def none {H : Type} : Left H := { results := [], args := [] }

/-- 'quillkeep.LyndonEnds': WHATEVER THE INPUT: true; the input reads as it did. -/
def lyndonEndsSpec : ChangeSpec := { name := "lyndonEnds", fn := fun _ => fun
  | [d1, d2] => { results := [.lit (.bool true)], args := [d1, d2] }
  | _ => none }
def lyndonEndsRow : OpenClaim := { program := "ytppbjomobbaeaaa", sum := "59286708bf7bec93e9aea6f45db614546c3c464f9c4c8a3d3680a211a5d0c499", func := "quillward/quillkeep.LyndonEnds", spec := "lyndonEnds", apart := false }
def LyndonEndsSaid : Prop := lyndonEndsRow.holds Try.pinned (OpenSpec.ofChange lyndonEndsSpec)

/-- ITS FALSE NEIGHBOUR: 'it returns false'. Refute it at one input. -/
def lyndonEndsWrong : ChangeSpec := { name := "lyndonEnds", fn := fun _ => fun
  | [d1, d2] => { results := [.lit (.bool false)], args := [d1, d2] }
  | _ => none }
def LyndonEndsWrongFalsely : Prop := lyndonEndsRow.holds Try.pinned (OpenSpec.ofChange lyndonEndsWrong)

/-- 'quillkeep.LyndonJoin': WHATEVER THE INPUT: true; the input reads as it did. -/
def lyndonJoinSpec : ChangeSpec := { name := "lyndonJoin", fn := fun _ => fun
  | [d1, d2] => { results := [.lit (.bool true)], args := [d1, d2] }
  | _ => none }
def lyndonJoinRow : OpenClaim := { program := "ytppbjomobbaeaaa", sum := "59286708bf7bec93e9aea6f45db614546c3c464f9c4c8a3d3680a211a5d0c499", func := "quillward/quillkeep.LyndonJoin", spec := "lyndonJoin", unfollowed := true, recurses := true, apart := false }
def LyndonJoinSaid : Prop := lyndonJoinRow.holds Try.pinned (OpenSpec.ofChange lyndonJoinSpec)

/-- ITS FALSE NEIGHBOUR: 'it returns false'. Refute it at one input. -/
def lyndonJoinWrong : ChangeSpec := { name := "lyndonJoin", fn := fun _ => fun
  | [d1, d2] => { results := [.lit (.bool false)], args := [d1, d2] }
  | _ => none }
def LyndonJoinWrongFalsely : Prop := lyndonJoinRow.holds Try.pinned (OpenSpec.ofChange lyndonJoinWrong)

/-- 'quillkeep.LyndonDuval': WHATEVER THE INPUT: true; the input reads as it did. -/
def lyndonDuvalSpec : ChangeSpec := { name := "lyndonDuval", fn := fun _ => fun
  | [d1, d2, d3, d4] => { results := [.lit (.bool true)], args := [d1, d2, d3, d4] }
  | _ => none }
def lyndonDuvalRow : OpenClaim := { program := "ytppbjomobbaeaaa", sum := "59286708bf7bec93e9aea6f45db614546c3c464f9c4c8a3d3680a211a5d0c499", func := "quillward/quillkeep.LyndonDuval", spec := "lyndonDuval", unfollowed := true, recurses := true, apart := false }
def LyndonDuvalSaid : Prop := lyndonDuvalRow.holds Try.pinned (OpenSpec.ofChange lyndonDuvalSpec)

/-- ITS FALSE NEIGHBOUR: 'it returns false'. Refute it at one input. -/
def lyndonDuvalWrong : ChangeSpec := { name := "lyndonDuval", fn := fun _ => fun
  | [d1, d2, d3, d4] => { results := [.lit (.bool false)], args := [d1, d2, d3, d4] }
  | _ => none }
def LyndonDuvalWrongFalsely : Prop := lyndonDuvalRow.holds Try.pinned (OpenSpec.ofChange lyndonDuvalWrong)

/-- 'quillkeep.LyndonTurns': WHATEVER THE INPUT: true; the input reads as it did. -/
def lyndonTurnsSpec : ChangeSpec := { name := "lyndonTurns", fn := fun _ => fun
  | [d1, d2] => { results := [.lit (.bool true)], args := [d1, d2] }
  | _ => none }
def lyndonTurnsRow : OpenClaim := { program := "ytppbjomobbaeaaa", sum := "59286708bf7bec93e9aea6f45db614546c3c464f9c4c8a3d3680a211a5d0c499", func := "quillward/quillkeep.LyndonTurns", spec := "lyndonTurns", unfollowed := true, recurses := true, apart := false }
def LyndonTurnsSaid : Prop := lyndonTurnsRow.holds Try.pinned (OpenSpec.ofChange lyndonTurnsSpec)

/-- ITS FALSE NEIGHBOUR: 'it returns false'. Refute it at one input. -/
def lyndonTurnsWrong : ChangeSpec := { name := "lyndonTurns", fn := fun _ => fun
  | [d1, d2] => { results := [.lit (.bool false)], args := [d1, d2] }
  | _ => none }
def LyndonTurnsWrongFalsely : Prop := lyndonTurnsRow.holds Try.pinned (OpenSpec.ofChange lyndonTurnsWrong)

/-- 'quillkeep.LyndonOne': WHATEVER THE INPUT: true; the input reads as it did. -/
def lyndonOneSpec : ChangeSpec := { name := "lyndonOne", fn := fun _ => fun
  | [d] => { results := [.lit (.bool true)], args := [d] }
  | _ => none }
def lyndonOneRow : OpenClaim := { program := "ytppbjomobbaeaaa", sum := "59286708bf7bec93e9aea6f45db614546c3c464f9c4c8a3d3680a211a5d0c499", func := "quillward/quillkeep.LyndonOne", spec := "lyndonOne", inPlace := ["internal/abi.NoEscape", "internal/bytealg.MakeNoZero"], apart := false }
def LyndonOneSaid : Prop := lyndonOneRow.holds Try.pinned (OpenSpec.ofChange lyndonOneSpec)

/-- ITS FALSE NEIGHBOUR: 'it returns false'. Refute it at one input. -/
def lyndonOneWrong : ChangeSpec := { name := "lyndonOne", fn := fun _ => fun
  | [d] => { results := [.lit (.bool false)], args := [d] }
  | _ => none }
def LyndonOneWrongFalsely : Prop := lyndonOneRow.holds Try.pinned (OpenSpec.ofChange lyndonOneWrong)

/-- 'quillkeep.RingLine': WHATEVER THE INPUT: true; the input reads as it did. -/
def ringLineSpec : ChangeSpec := { name := "ringLine", fn := fun _ => fun
  | [d1, d2, d3] => { results := [.lit (.bool true)], args := [d1, d2, d3] }
  | _ => none }
def ringLineRow : OpenClaim := { program := "ytppbjomobbaeaaa", sum := "59286708bf7bec93e9aea6f45db614546c3c464f9c4c8a3d3680a211a5d0c499", func := "quillward/quillkeep.RingLine", spec := "ringLine", apart := false }
def RingLineSaid : Prop := ringLineRow.holds Try.pinned (OpenSpec.ofChange ringLineSpec)

/-- ITS FALSE NEIGHBOUR: 'it returns false'. Refute it at one input. -/
def ringLineWrong : ChangeSpec := { name := "ringLine", fn := fun _ => fun
  | [d1, d2, d3] => { results := [.lit (.bool false)], args := [d1, d2, d3] }
  | _ => none }
def RingLineWrongFalsely : Prop := ringLineRow.holds Try.pinned (OpenSpec.ofChange ringLineWrong)

/-- 'quillkeep.SameWord': WHATEVER THE INPUT: true; the input reads as it did. -/
def sameWordSpec : ChangeSpec := { name := "sameWord", fn := fun _ => fun
  | [d1, d2, d3] => { results := [.lit (.bool true)], args := [d1, d2, d3] }
  | _ => none }
def sameWordRow : OpenClaim := { program := "ytppbjomobbaeaaa", sum := "59286708bf7bec93e9aea6f45db614546c3c464f9c4c8a3d3680a211a5d0c499", func := "quillward/quillkeep.SameWord", spec := "sameWord", unfollowed := true, recurses := true, apart := false }
def SameWordSaid : Prop := sameWordRow.holds Try.pinned (OpenSpec.ofChange sameWordSpec)

/-- ITS FALSE NEIGHBOUR: 'it returns false'. Refute it at one input. -/
def sameWordWrong : ChangeSpec := { name := "sameWord", fn := fun _ => fun
  | [d1, d2, d3] => { results := [.lit (.bool false)], args := [d1, d2, d3] }
  | _ => none }
def SameWordWrongFalsely : Prop := sameWordRow.holds Try.pinned (OpenSpec.ofChange sameWordWrong)

/-- 'quillkeep.SeekFronts': WHATEVER THE INPUT: true; the input reads as it did. -/
def seekFrontsSpec : ChangeSpec := { name := "seekFronts", fn := fun _ => fun
  | [d1, d2] => { results := [.lit (.bool true)], args := [d1, d2] }
  | _ => none }
def seekFrontsRow : OpenClaim := { program := "ytppbjomobbaeaaa", sum := "59286708bf7bec93e9aea6f45db614546c3c464f9c4c8a3d3680a211a5d0c499", func := "quillward/quillkeep.SeekFronts", spec := "seekFronts", unfollowed := true, recurses := true, apart := false }
def SeekFrontsSaid : Prop := seekFrontsRow.holds Try.pinned (OpenSpec.ofChange seekFrontsSpec)

/-- ITS FALSE NEIGHBOUR: 'it returns false'. Refute it at one input. -/
def seekFrontsWrong : ChangeSpec := { name := "seekFronts", fn := fun _ => fun
  | [d1, d2] => { results := [.lit (.bool false)], args := [d1, d2] }
  | _ => none }
def SeekFrontsWrongFalsely : Prop := seekFrontsRow.holds Try.pinned (OpenSpec.ofChange seekFrontsWrong)

/-- 'quillkeep.WordRoot': WHATEVER THE INPUT: true; the input reads as it did. -/
def wordRootSpec : ChangeSpec := { name := "wordRoot", fn := fun _ => fun
  | [d1, d2] => { results := [.lit (.bool true)], args := [d1, d2] }
  | _ => none }
def wordRootRow : OpenClaim := { program := "ytppbjomobbaeaaa", sum := "59286708bf7bec93e9aea6f45db614546c3c464f9c4c8a3d3680a211a5d0c499", func := "quillward/quillkeep.WordRoot", spec := "wordRoot", inPlace := ["internal/abi.NoEscape", "internal/bytealg.MakeNoZero"], unfollowed := true, recurses := true, apart := false }
def WordRootSaid : Prop := wordRootRow.holds Try.pinned (OpenSpec.ofChange wordRootSpec)

/-- ITS FALSE NEIGHBOUR: 'it returns false'. Refute it at one input. -/
def wordRootWrong : ChangeSpec := { name := "wordRoot", fn := fun _ => fun
  | [d1, d2] => { results := [.lit (.bool false)], args := [d1, d2] }
  | _ => none }
def WordRootWrongFalsely : Prop := wordRootRow.holds Try.pinned (OpenSpec.ofChange wordRootWrong)

/-- 'quillkeep.EditPlaces': WHATEVER THE INPUT: true; the input reads as it did. -/
def editPlacesSpec : ChangeSpec := { name := "editPlaces", fn := fun _ => fun
  | [d1, d2, d3, d4] => { results := [.lit (.bool true)], args := [d1, d2, d3, d4] }
  | _ => none }
def editPlacesRow : OpenClaim := { program := "ytppbjomobbaeaaa", sum := "59286708bf7bec93e9aea6f45db614546c3c464f9c4c8a3d3680a211a5d0c499", func := "quillward/quillkeep.EditPlaces", spec := "editPlaces", unfollowed := true, recurses := true, apart := false }
def EditPlacesSaid : Prop := editPlacesRow.holds Try.pinned (OpenSpec.ofChange editPlacesSpec)

/-- ITS FALSE NEIGHBOUR: 'it returns false'. Refute it at one input. -/
def editPlacesWrong : ChangeSpec := { name := "editPlaces", fn := fun _ => fun
  | [d1, d2, d3, d4] => { results := [.lit (.bool false)], args := [d1, d2, d3, d4] }
  | _ => none }
def EditPlacesWrongFalsely : Prop := editPlacesRow.holds Try.pinned (OpenSpec.ofChange editPlacesWrong)

/-- 'quillkeep.EditUndone': WHATEVER THE INPUT: true; the input reads as it did. -/
def editUndoneSpec : ChangeSpec := { name := "editUndone", fn := fun _ => fun
  | [d1, d2] => { results := [.lit (.bool true)], args := [d1, d2] }
  | _ => none }
def editUndoneRow : OpenClaim := { program := "ytppbjomobbaeaaa", sum := "59286708bf7bec93e9aea6f45db614546c3c464f9c4c8a3d3680a211a5d0c499", func := "quillward/quillkeep.EditUndone", spec := "editUndone", unfollowed := true, recurses := true, apart := false }
def EditUndoneSaid : Prop := editUndoneRow.holds Try.pinned (OpenSpec.ofChange editUndoneSpec)

/-- ITS FALSE NEIGHBOUR: 'it returns false'. Refute it at one input. -/
def editUndoneWrong : ChangeSpec := { name := "editUndone", fn := fun _ => fun
  | [d1, d2] => { results := [.lit (.bool false)], args := [d1, d2] }
  | _ => none }
def EditUndoneWrongFalsely : Prop := editUndoneRow.holds Try.pinned (OpenSpec.ofChange editUndoneWrong)

/-- 'quillkeep.EditBetweens': WHATEVER THE INPUT: true; the input reads as it did. -/
def editBetweensSpec : ChangeSpec := { name := "editBetweens", fn := fun _ => fun
  | [d1, d2, d3] => { results := [.lit (.bool true)], args := [d1, d2, d3] }
  | _ => none }
def editBetweensRow : OpenClaim := { program := "ytppbjomobbaeaaa", sum := "59286708bf7bec93e9aea6f45db614546c3c464f9c4c8a3d3680a211a5d0c499", func := "quillward/quillkeep.EditBetweens", spec := "editBetweens", apart := false }
def EditBetweensSaid : Prop := editBetweensRow.holds Try.pinned (OpenSpec.ofChange editBetweensSpec)

/-- ITS FALSE NEIGHBOUR: 'it returns false'. Refute it at one input. -/
def editBetweensWrong : ChangeSpec := { name := "editBetweens", fn := fun _ => fun
  | [d1, d2, d3] => { results := [.lit (.bool false)], args := [d1, d2, d3] }
  | _ => none }
def EditBetweensWrongFalsely : Prop := editBetweensRow.holds Try.pinned (OpenSpec.ofChange editBetweensWrong)

/- THE SECOND FORM. 'bulk': how many values and letters a reading holds, each counted each time it is reached (what is shared counts as often as it is met; a slice's spare places count too). A statement '..UptoSaid' is the law's where the arguments, and the package variables that the reading takes, are together of bulk at most 1048576: NARROWER than '..Said'. Prove '..Said' where nothing that the law and all that it calls make is longer than what came in: it says more and counts as full. Else prove '..UptoSaid'. A law counts once. -/
mutual
def uptoBulk {H : Type} : DataW H → Nat
  | .lit (.string bytes) => bytes.length + 1
  | .lit _ => 1
  | .nil => 1
  | .ptr d => uptoBulk d + 1
  | .slice elems spare => uptoBulkAll elems + uptoBulkAll spare + 1
  | .agg parts => uptoBulkAll parts + 1
  | .iface _ d => uptoBulk d + 1
  | .map entries => uptoBulkEntries entries + 1
  | .held _ => 1
def uptoBulkAll {H : Type} : List (DataW H) → Nat
  | [] => 0
  | d :: r => uptoBulk d + uptoBulkAll r
def uptoBulkEntries {H : Type} : List (Lit × DataW H) → Nat
  | [] => 0
  | x :: r => uptoBulkEntry x + uptoBulkEntries r
def uptoBulkEntry {H : Type} : Lit × DataW H → Nat
  | (.string bytes, d) => bytes.length + uptoBulk d + 1
  | (_, d) => uptoBulk d + 1
 end
def uptoSmall : (H : Type) → List (DataW H) → Bool := fun _ ds => decide (uptoBulkAll ds ≤ 1048576)
def OpenSpec.upto (s : _root_.Go.ChangeSpec) : _root_.Go.OpenSpec := { _root_.Go.OpenSpec.ofChange s with cond := some uptoSmall }

/-- 'quillkeep.LyndonEnds', WHERE WHAT IT READS IS OF BULK AT MOST 1048576: true; the input reads as it did. -/
def lyndonEndsUptoRow : OpenClaim := { program := "ytppbjomobbaeaaa", sum := "59286708bf7bec93e9aea6f45db614546c3c464f9c4c8a3d3680a211a5d0c499", func := "quillward/quillkeep.LyndonEnds", spec := "lyndonEnds", apart := false, narrowed := true }
def LyndonEndsUptoSaid : Prop := lyndonEndsUptoRow.holds Try.pinned (OpenSpec.upto lyndonEndsSpec)

/-- 'quillkeep.LyndonJoin', WHERE WHAT IT READS IS OF BULK AT MOST 1048576: true; the input reads as it did. -/
def lyndonJoinUptoRow : OpenClaim := { program := "ytppbjomobbaeaaa", sum := "59286708bf7bec93e9aea6f45db614546c3c464f9c4c8a3d3680a211a5d0c499", func := "quillward/quillkeep.LyndonJoin", spec := "lyndonJoin", unfollowed := true, recurses := true, apart := false, narrowed := true }
def LyndonJoinUptoSaid : Prop := lyndonJoinUptoRow.holds Try.pinned (OpenSpec.upto lyndonJoinSpec)

/-- 'quillkeep.LyndonDuval', WHERE WHAT IT READS IS OF BULK AT MOST 1048576: true; the input reads as it did. -/
def lyndonDuvalUptoRow : OpenClaim := { program := "ytppbjomobbaeaaa", sum := "59286708bf7bec93e9aea6f45db614546c3c464f9c4c8a3d3680a211a5d0c499", func := "quillward/quillkeep.LyndonDuval", spec := "lyndonDuval", unfollowed := true, recurses := true, apart := false, narrowed := true }
def LyndonDuvalUptoSaid : Prop := lyndonDuvalUptoRow.holds Try.pinned (OpenSpec.upto lyndonDuvalSpec)

/-- 'quillkeep.LyndonTurns', WHERE WHAT IT READS IS OF BULK AT MOST 1048576: true; the input reads as it did. -/
def lyndonTurnsUptoRow : OpenClaim := { program := "ytppbjomobbaeaaa", sum := "59286708bf7bec93e9aea6f45db614546c3c464f9c4c8a3d3680a211a5d0c499", func := "quillward/quillkeep.LyndonTurns", spec := "lyndonTurns", unfollowed := true, recurses := true, apart := false, narrowed := true }
def LyndonTurnsUptoSaid : Prop := lyndonTurnsUptoRow.holds Try.pinned (OpenSpec.upto lyndonTurnsSpec)

/-- 'quillkeep.LyndonOne', WHERE WHAT IT READS IS OF BULK AT MOST 1048576: true; the input reads as it did. -/
def lyndonOneUptoRow : OpenClaim := { program := "ytppbjomobbaeaaa", sum := "59286708bf7bec93e9aea6f45db614546c3c464f9c4c8a3d3680a211a5d0c499", func := "quillward/quillkeep.LyndonOne", spec := "lyndonOne", inPlace := ["internal/abi.NoEscape", "internal/bytealg.MakeNoZero"], apart := false, narrowed := true }
def LyndonOneUptoSaid : Prop := lyndonOneUptoRow.holds Try.pinned (OpenSpec.upto lyndonOneSpec)

/-- 'quillkeep.RingLine', WHERE WHAT IT READS IS OF BULK AT MOST 1048576: true; the input reads as it did. -/
def ringLineUptoRow : OpenClaim := { program := "ytppbjomobbaeaaa", sum := "59286708bf7bec93e9aea6f45db614546c3c464f9c4c8a3d3680a211a5d0c499", func := "quillward/quillkeep.RingLine", spec := "ringLine", apart := false, narrowed := true }
def RingLineUptoSaid : Prop := ringLineUptoRow.holds Try.pinned (OpenSpec.upto ringLineSpec)

/-- 'quillkeep.SameWord', WHERE WHAT IT READS IS OF BULK AT MOST 1048576: true; the input reads as it did. -/
def sameWordUptoRow : OpenClaim := { program := "ytppbjomobbaeaaa", sum := "59286708bf7bec93e9aea6f45db614546c3c464f9c4c8a3d3680a211a5d0c499", func := "quillward/quillkeep.SameWord", spec := "sameWord", unfollowed := true, recurses := true, apart := false, narrowed := true }
def SameWordUptoSaid : Prop := sameWordUptoRow.holds Try.pinned (OpenSpec.upto sameWordSpec)

/-- 'quillkeep.SeekFronts', WHERE WHAT IT READS IS OF BULK AT MOST 1048576: true; the input reads as it did. -/
def seekFrontsUptoRow : OpenClaim := { program := "ytppbjomobbaeaaa", sum := "59286708bf7bec93e9aea6f45db614546c3c464f9c4c8a3d3680a211a5d0c499", func := "quillward/quillkeep.SeekFronts", spec := "seekFronts", unfollowed := true, recurses := true, apart := false, narrowed := true }
def SeekFrontsUptoSaid : Prop := seekFrontsUptoRow.holds Try.pinned (OpenSpec.upto seekFrontsSpec)

/-- 'quillkeep.WordRoot', WHERE WHAT IT READS IS OF BULK AT MOST 1048576: true; the input reads as it did. -/
def wordRootUptoRow : OpenClaim := { program := "ytppbjomobbaeaaa", sum := "59286708bf7bec93e9aea6f45db614546c3c464f9c4c8a3d3680a211a5d0c499", func := "quillward/quillkeep.WordRoot", spec := "wordRoot", inPlace := ["internal/abi.NoEscape", "internal/bytealg.MakeNoZero"], unfollowed := true, recurses := true, apart := false, narrowed := true }
def WordRootUptoSaid : Prop := wordRootUptoRow.holds Try.pinned (OpenSpec.upto wordRootSpec)

/-- 'quillkeep.EditPlaces', WHERE WHAT IT READS IS OF BULK AT MOST 1048576: true; the input reads as it did. -/
def editPlacesUptoRow : OpenClaim := { program := "ytppbjomobbaeaaa", sum := "59286708bf7bec93e9aea6f45db614546c3c464f9c4c8a3d3680a211a5d0c499", func := "quillward/quillkeep.EditPlaces", spec := "editPlaces", unfollowed := true, recurses := true, apart := false, narrowed := true }
def EditPlacesUptoSaid : Prop := editPlacesUptoRow.holds Try.pinned (OpenSpec.upto editPlacesSpec)

/-- 'quillkeep.EditUndone', WHERE WHAT IT READS IS OF BULK AT MOST 1048576: true; the input reads as it did. -/
def editUndoneUptoRow : OpenClaim := { program := "ytppbjomobbaeaaa", sum := "59286708bf7bec93e9aea6f45db614546c3c464f9c4c8a3d3680a211a5d0c499", func := "quillward/quillkeep.EditUndone", spec := "editUndone", unfollowed := true, recurses := true, apart := false, narrowed := true }
def EditUndoneUptoSaid : Prop := editUndoneUptoRow.holds Try.pinned (OpenSpec.upto editUndoneSpec)

/-- 'quillkeep.EditBetweens', WHERE WHAT IT READS IS OF BULK AT MOST 1048576: true; the input reads as it did. -/
def editBetweensUptoRow : OpenClaim := { program := "ytppbjomobbaeaaa", sum := "59286708bf7bec93e9aea6f45db614546c3c464f9c4c8a3d3680a211a5d0c499", func := "quillward/quillkeep.EditBetweens", spec := "editBetweens", apart := false, narrowed := true }
def EditBetweensUptoSaid : Prop := editBetweensUptoRow.holds Try.pinned (OpenSpec.upto editBetweensSpec)

end Rows
end Go.Proofs.Ytppbjomobbaeaaa
