/-
  No cell of these rows narrows 'for every input' (looked for: loops, veiled, ifaces, maps, wideKeys, modest, calm, conditions, laid).
  DERIVED. THE GIVEN ROWS OF THIS SEAT. 12 by the template 'for every input the law returns true; each argument reads behind the call as it read before'; 0 by the template 'total and deterministic' (their statements: YtpeplkjidljpmaaTotals.lean).
  GIVEN WITH THE SEED: the statements are not yours to turn. If you find one false, say at which input.
  Laid BY PROGRAM, IN A SANDBOX (cutbox-rows.mjs): the forced cells as the released guide's own fill.sh prints them over the translation 45052c7d94d6e5df… (all of the seat's roots in one cut). By AI agents, Wed Nov 11 2026. No macro, syntax, notation, axiom, sorry.
-/
import Derived.Test.YtpeplkjidljpmaaChecked
import GoSem.Claim
import GoSem.ClaimJoined
import GoSem.ClaimMapViews
import Derived.JoinedTies
import Derived.KernelRfl
namespace Go.Proofs.Ytpeplkjidljpmaa
/- THE CELL 'sum', in the pinned program and in every row, IS THE sha256 OF THE DUMP (.gsa) THAT YtpeplkjidljpmaaProg.lean LOADS. Nothing in Lean hashes anything: it is a label: what it is worth is what the hold of that sum in a sandbox is worth. -/
noncomputable def Try.pinned : Pinned := { name := "ytpeplkjidljpmaa", sum := "45052c7d94d6e5df7934c9be53a8bfc6af5e494543bda0548bd481db7a5aae27", checked := Try.checked }
namespace Rows
def none {H : Type} : Left H := { results := [], args := [] }

/-- 'quillkeep.ShiftStays': WHATEVER THE INPUT: true; the input reads as it did. -/
def shiftStaysSpec : ChangeSpec := { name := "shiftStays", fn := fun _ => fun
  | [d1, d2, d3, d4] => { results := [.lit (.bool true)], args := [d1, d2, d3, d4] }
  | _ => none }
def shiftStaysRow : OpenClaim := { program := "ytpeplkjidljpmaa", sum := "45052c7d94d6e5df7934c9be53a8bfc6af5e494543bda0548bd481db7a5aae27", func := "quillward/quillkeep.ShiftStays", spec := "shiftStays", apart := false }
def ShiftStaysSaid : Prop := shiftStaysRow.holds Try.pinned (OpenSpec.ofChange shiftStaysSpec)

/-- ITS FALSE NEIGHBOUR: 'it returns false'. Refute it at one input. -/
def shiftStaysWrong : ChangeSpec := { name := "shiftStays", fn := fun _ => fun
  | [d1, d2, d3, d4] => { results := [.lit (.bool false)], args := [d1, d2, d3, d4] }
  | _ => none }
def ShiftStaysWrongFalsely : Prop := shiftStaysRow.holds Try.pinned (OpenSpec.ofChange shiftStaysWrong)

/-- 'quillkeep.ShiftTwo': WHATEVER THE INPUT: true; the input reads as it did. -/
def shiftTwoSpec : ChangeSpec := { name := "shiftTwo", fn := fun _ => fun
  | [d1, d2, d3] => { results := [.lit (.bool true)], args := [d1, d2, d3] }
  | _ => none }
def shiftTwoRow : OpenClaim := { program := "ytpeplkjidljpmaa", sum := "45052c7d94d6e5df7934c9be53a8bfc6af5e494543bda0548bd481db7a5aae27", func := "quillward/quillkeep.ShiftTwo", spec := "shiftTwo", unfollowed := true, recurses := true, apart := false }
def ShiftTwoSaid : Prop := shiftTwoRow.holds Try.pinned (OpenSpec.ofChange shiftTwoSpec)

/-- ITS FALSE NEIGHBOUR: 'it returns false'. Refute it at one input. -/
def shiftTwoWrong : ChangeSpec := { name := "shiftTwo", fn := fun _ => fun
  | [d1, d2, d3] => { results := [.lit (.bool false)], args := [d1, d2, d3] }
  | _ => none }
def ShiftTwoWrongFalsely : Prop := shiftTwoRow.holds Try.pinned (OpenSpec.ofChange shiftTwoWrong)

/-- 'quillkeep.ShiftAlone': WHATEVER THE INPUT: true; the input reads as it did. -/
def shiftAloneSpec : ChangeSpec := { name := "shiftAlone", fn := fun _ => fun
  | [d1, d2, d3, d4] => { results := [.lit (.bool true)], args := [d1, d2, d3, d4] }
  | _ => none }
def shiftAloneRow : OpenClaim := { program := "ytpeplkjidljpmaa", sum := "45052c7d94d6e5df7934c9be53a8bfc6af5e494543bda0548bd481db7a5aae27", func := "quillward/quillkeep.ShiftAlone", spec := "shiftAlone", apart := false }
def ShiftAloneSaid : Prop := shiftAloneRow.holds Try.pinned (OpenSpec.ofChange shiftAloneSpec)

/-- ITS FALSE NEIGHBOUR: 'it returns false'. Refute it at one input. -/
def shiftAloneWrong : ChangeSpec := { name := "shiftAlone", fn := fun _ => fun
  | [d1, d2, d3, d4] => { results := [.lit (.bool false)], args := [d1, d2, d3, d4] }
  | _ => none }
def ShiftAloneWrongFalsely : Prop := shiftAloneRow.holds Try.pinned (OpenSpec.ofChange shiftAloneWrong)

/-- 'quillkeep.ShiftRows': WHATEVER THE INPUT: true; the input reads as it did. -/
def shiftRowsSpec : ChangeSpec := { name := "shiftRows", fn := fun _ => fun
  | [d1, d2, d3] => { results := [.lit (.bool true)], args := [d1, d2, d3] }
  | _ => none }
def shiftRowsRow : OpenClaim := { program := "ytpeplkjidljpmaa", sum := "45052c7d94d6e5df7934c9be53a8bfc6af5e494543bda0548bd481db7a5aae27", func := "quillward/quillkeep.ShiftRows", spec := "shiftRows", apart := false }
def ShiftRowsSaid : Prop := shiftRowsRow.holds Try.pinned (OpenSpec.ofChange shiftRowsSpec)

/-- ITS FALSE NEIGHBOUR: 'it returns false'. Refute it at one input. -/
def shiftRowsWrong : ChangeSpec := { name := "shiftRows", fn := fun _ => fun
  | [d1, d2, d3] => { results := [.lit (.bool false)], args := [d1, d2, d3] }
  | _ => none }
def ShiftRowsWrongFalsely : Prop := shiftRowsRow.holds Try.pinned (OpenSpec.ofChange shiftRowsWrong)

/-- 'quillkeep.LogBack': WHATEVER THE INPUT: true; the input reads as it did. -/
def logBackSpec : ChangeSpec := { name := "logBack", fn := fun _ => fun
  | [d1, d2] => { results := [.lit (.bool true)], args := [d1, d2] }
  | _ => none }
def logBackRow : OpenClaim := { program := "ytpeplkjidljpmaa", sum := "45052c7d94d6e5df7934c9be53a8bfc6af5e494543bda0548bd481db7a5aae27", func := "quillward/quillkeep.LogBack", spec := "logBack", apart := false }
def LogBackSaid : Prop := logBackRow.holds Try.pinned (OpenSpec.ofChange logBackSpec)

/-- ITS FALSE NEIGHBOUR: 'it returns false'. Refute it at one input. -/
def logBackWrong : ChangeSpec := { name := "logBack", fn := fun _ => fun
  | [d1, d2] => { results := [.lit (.bool false)], args := [d1, d2] }
  | _ => none }
def LogBackWrongFalsely : Prop := logBackRow.holds Try.pinned (OpenSpec.ofChange logBackWrong)

/-- 'quillkeep.LogFull': WHATEVER THE INPUT: true; the input reads as it did. -/
def logFullSpec : ChangeSpec := { name := "logFull", fn := fun _ => fun
  | [d] => { results := [.lit (.bool true)], args := [d] }
  | _ => none }
def logFullRow : OpenClaim := { program := "ytpeplkjidljpmaa", sum := "45052c7d94d6e5df7934c9be53a8bfc6af5e494543bda0548bd481db7a5aae27", func := "quillward/quillkeep.LogFull", spec := "logFull", apart := false }
def LogFullSaid : Prop := logFullRow.holds Try.pinned (OpenSpec.ofChange logFullSpec)

/-- ITS FALSE NEIGHBOUR: 'it returns false'. Refute it at one input. -/
def logFullWrong : ChangeSpec := { name := "logFull", fn := fun _ => fun
  | [d] => { results := [.lit (.bool false)], args := [d] }
  | _ => none }
def LogFullWrongFalsely : Prop := logFullRow.holds Try.pinned (OpenSpec.ofChange logFullWrong)

/-- 'quillkeep.LogOne': WHATEVER THE INPUT: true; the input reads as it did. -/
def logOneSpec : ChangeSpec := { name := "logOne", fn := fun _ => fun
  | [d] => { results := [.lit (.bool true)], args := [d] }
  | _ => none }
def logOneRow : OpenClaim := { program := "ytpeplkjidljpmaa", sum := "45052c7d94d6e5df7934c9be53a8bfc6af5e494543bda0548bd481db7a5aae27", func := "quillward/quillkeep.LogOne", spec := "logOne", apart := false }
def LogOneSaid : Prop := logOneRow.holds Try.pinned (OpenSpec.ofChange logOneSpec)

/-- ITS FALSE NEIGHBOUR: 'it returns false'. Refute it at one input. -/
def logOneWrong : ChangeSpec := { name := "logOne", fn := fun _ => fun
  | [d] => { results := [.lit (.bool false)], args := [d] }
  | _ => none }
def LogOneWrongFalsely : Prop := logOneRow.holds Try.pinned (OpenSpec.ofChange logOneWrong)

/-- 'quillkeep.LogKeeps': WHATEVER THE INPUT: true; the input reads as it did. -/
def logKeepsSpec : ChangeSpec := { name := "logKeeps", fn := fun _ => fun
  | [d1, d2, d3, d4] => { results := [.lit (.bool true)], args := [d1, d2, d3, d4] }
  | _ => none }
def logKeepsRow : OpenClaim := { program := "ytpeplkjidljpmaa", sum := "45052c7d94d6e5df7934c9be53a8bfc6af5e494543bda0548bd481db7a5aae27", func := "quillward/quillkeep.LogKeeps", spec := "logKeeps", apart := false }
def LogKeepsSaid : Prop := logKeepsRow.holds Try.pinned (OpenSpec.ofChange logKeepsSpec)

/-- ITS FALSE NEIGHBOUR: 'it returns false'. Refute it at one input. -/
def logKeepsWrong : ChangeSpec := { name := "logKeeps", fn := fun _ => fun
  | [d1, d2, d3, d4] => { results := [.lit (.bool false)], args := [d1, d2, d3, d4] }
  | _ => none }
def LogKeepsWrongFalsely : Prop := logKeepsRow.holds Try.pinned (OpenSpec.ofChange logKeepsWrong)

/-- 'quillkeep.UndoBack': WHATEVER THE INPUT: true; the input reads as it did. -/
def undoBackSpec : ChangeSpec := { name := "undoBack", fn := fun _ => fun
  | [d1, d2, d3] => { results := [.lit (.bool true)], args := [d1, d2, d3] }
  | _ => none }
def undoBackRow : OpenClaim := { program := "ytpeplkjidljpmaa", sum := "45052c7d94d6e5df7934c9be53a8bfc6af5e494543bda0548bd481db7a5aae27", func := "quillward/quillkeep.UndoBack", spec := "undoBack", unfollowed := true, recurses := true, apart := false }
def UndoBackSaid : Prop := undoBackRow.holds Try.pinned (OpenSpec.ofChange undoBackSpec)

/-- ITS FALSE NEIGHBOUR: 'it returns false'. Refute it at one input. -/
def undoBackWrong : ChangeSpec := { name := "undoBack", fn := fun _ => fun
  | [d1, d2, d3] => { results := [.lit (.bool false)], args := [d1, d2, d3] }
  | _ => none }
def UndoBackWrongFalsely : Prop := undoBackRow.holds Try.pinned (OpenSpec.ofChange undoBackWrong)

/-- 'quillkeep.UndoNew': WHATEVER THE INPUT: true; the input reads as it did. -/
def undoNewSpec : ChangeSpec := { name := "undoNew", fn := fun _ => fun
  | [d1, d2, d3, d4] => { results := [.lit (.bool true)], args := [d1, d2, d3, d4] }
  | _ => none }
def undoNewRow : OpenClaim := { program := "ytpeplkjidljpmaa", sum := "45052c7d94d6e5df7934c9be53a8bfc6af5e494543bda0548bd481db7a5aae27", func := "quillward/quillkeep.UndoNew", spec := "undoNew", unfollowed := true, recurses := true, apart := false }
def UndoNewSaid : Prop := undoNewRow.holds Try.pinned (OpenSpec.ofChange undoNewSpec)

/-- ITS FALSE NEIGHBOUR: 'it returns false'. Refute it at one input. -/
def undoNewWrong : ChangeSpec := { name := "undoNew", fn := fun _ => fun
  | [d1, d2, d3, d4] => { results := [.lit (.bool false)], args := [d1, d2, d3, d4] }
  | _ => none }
def UndoNewWrongFalsely : Prop := undoNewRow.holds Try.pinned (OpenSpec.ofChange undoNewWrong)

/-- 'quillkeep.TrimSame': WHATEVER THE INPUT: true; the input reads as it did. -/
def trimSameSpec : ChangeSpec := { name := "trimSame", fn := fun _ => fun
  | [d1, d2] => { results := [.lit (.bool true)], args := [d1, d2] }
  | _ => none }
def trimSameRow : OpenClaim := { program := "ytpeplkjidljpmaa", sum := "45052c7d94d6e5df7934c9be53a8bfc6af5e494543bda0548bd481db7a5aae27", func := "quillward/quillkeep.TrimSame", spec := "trimSame", apart := false }
def TrimSameSaid : Prop := trimSameRow.holds Try.pinned (OpenSpec.ofChange trimSameSpec)

/-- ITS FALSE NEIGHBOUR: 'it returns false'. Refute it at one input. -/
def trimSameWrong : ChangeSpec := { name := "trimSame", fn := fun _ => fun
  | [d1, d2] => { results := [.lit (.bool false)], args := [d1, d2] }
  | _ => none }
def TrimSameWrongFalsely : Prop := trimSameRow.holds Try.pinned (OpenSpec.ofChange trimSameWrong)

/-- 'quillkeep.OpsOwn': WHATEVER THE INPUT: true; the input reads as it did. -/
def opsOwnSpec : ChangeSpec := { name := "opsOwn", fn := fun _ => fun
  | [d1, d2, d3] => { results := [.lit (.bool true)], args := [d1, d2, d3] }
  | _ => none }
def opsOwnRow : OpenClaim := { program := "ytpeplkjidljpmaa", sum := "45052c7d94d6e5df7934c9be53a8bfc6af5e494543bda0548bd481db7a5aae27", func := "quillward/quillkeep.OpsOwn", spec := "opsOwn", apart := false }
def OpsOwnSaid : Prop := opsOwnRow.holds Try.pinned (OpenSpec.ofChange opsOwnSpec)

/-- ITS FALSE NEIGHBOUR: 'it returns false'. Refute it at one input. -/
def opsOwnWrong : ChangeSpec := { name := "opsOwn", fn := fun _ => fun
  | [d1, d2, d3] => { results := [.lit (.bool false)], args := [d1, d2, d3] }
  | _ => none }
def OpsOwnWrongFalsely : Prop := opsOwnRow.holds Try.pinned (OpenSpec.ofChange opsOwnWrong)

/- THE SECOND FORM. 'bulk': how many values and letters a reading holds, each counted each time it is reached (what is shared counts as often as it is met; a slice's spare places count too). A statement '..UptoSaid' is the law's where the arguments, and the package variables that the reading takes, are together of bulk at most 1048576: NARROWER than '..Said'. Prove '..Said' where nothing that the law and all that it calls make is longer than what came in: it says more and counts as full. Else prove '..UptoSaid'. A law counts once. -/
mutual
def uptoBulk {H : Type} : DataW H → Nat
  | .lit (.string bytes) => bytes.length + 1
  | .lit _ => 1
  | .nil => 1
  | .ptr d => uptoBulk d + 1
  | .slice elems spare => uptoBulkAll elems + uptoBulkAll spare + 1
  | .agg parts => uptoBulkAll parts + 1
  | .iface _ d => uptoBulk d + 1
  | .map entries => uptoBulkEntries entries + 1
  | .held _ => 1
def uptoBulkAll {H : Type} : List (DataW H) → Nat
  | [] => 0
  | d :: r => uptoBulk d + uptoBulkAll r
def uptoBulkEntries {H : Type} : List (Lit × DataW H) → Nat
  | [] => 0
  | x :: r => uptoBulkEntry x + uptoBulkEntries r
def uptoBulkEntry {H : Type} : Lit × DataW H → Nat
  | (.string bytes, d) => bytes.length + uptoBulk d + 1
  | (_, d) => uptoBulk d + 1
 end
def uptoSmall : (H : Type) → List (DataW H) → Bool := fun _ ds => decide (uptoBulkAll ds ≤ 1048576)
def OpenSpec.upto (s : _root_.Go.ChangeSpec) : _root_.Go.OpenSpec := { _root_.Go.OpenSpec.ofChange s with cond := some uptoSmall }

/-- 'quillkeep.ShiftStays', WHERE WHAT IT READS IS OF BULK AT MOST 1048576: true; the input reads as it did. -/
def shiftStaysUptoRow : OpenClaim := { program := "ytpeplkjidljpmaa", sum := "45052c7d94d6e5df7934c9be53a8bfc6af5e494543bda0548bd481db7a5aae27", func := "quillward/quillkeep.ShiftStays", spec := "shiftStays", apart := false, narrowed := true }
def ShiftStaysUptoSaid : Prop := shiftStaysUptoRow.holds Try.pinned (OpenSpec.upto shiftStaysSpec)

/-- 'quillkeep.ShiftTwo', WHERE WHAT IT READS IS OF BULK AT MOST 1048576: true; the input reads as it did. -/
def shiftTwoUptoRow : OpenClaim := { program := "ytpeplkjidljpmaa", sum := "45052c7d94d6e5df7934c9be53a8bfc6af5e494543bda0548bd481db7a5aae27", func := "quillward/quillkeep.ShiftTwo", spec := "shiftTwo", unfollowed := true, recurses := true, apart := false, narrowed := true }
def ShiftTwoUptoSaid : Prop := shiftTwoUptoRow.holds Try.pinned (OpenSpec.upto shiftTwoSpec)

/-- 'quillkeep.ShiftAlone', WHERE WHAT IT READS IS OF BULK AT MOST 1048576: true; the input reads as it did. -/
def shiftAloneUptoRow : OpenClaim := { program := "ytpeplkjidljpmaa", sum := "45052c7d94d6e5df7934c9be53a8bfc6af5e494543bda0548bd481db7a5aae27", func := "quillward/quillkeep.ShiftAlone", spec := "shiftAlone", apart := false, narrowed := true }
def ShiftAloneUptoSaid : Prop := shiftAloneUptoRow.holds Try.pinned (OpenSpec.upto shiftAloneSpec)

/-- 'quillkeep.ShiftRows', WHERE WHAT IT READS IS OF BULK AT MOST 1048576: true; the input reads as it did. -/
def shiftRowsUptoRow : OpenClaim := { program := "ytpeplkjidljpmaa", sum := "45052c7d94d6e5df7934c9be53a8bfc6af5e494543bda0548bd481db7a5aae27", func := "quillward/quillkeep.ShiftRows", spec := "shiftRows", apart := false, narrowed := true }
def ShiftRowsUptoSaid : Prop := shiftRowsUptoRow.holds Try.pinned (OpenSpec.upto shiftRowsSpec)

/-- 'quillkeep.LogBack', WHERE WHAT IT READS IS OF BULK AT MOST 1048576: true; the input reads as it did. -/
def logBackUptoRow : OpenClaim := { program := "ytpeplkjidljpmaa", sum := "45052c7d94d6e5df7934c9be53a8bfc6af5e494543bda0548bd481db7a5aae27", func := "quillward/quillkeep.LogBack", spec := "logBack", apart := false, narrowed := true }
def LogBackUptoSaid : Prop := logBackUptoRow.holds Try.pinned (OpenSpec.upto logBackSpec)

/-- 'quillkeep.LogFull', WHERE WHAT IT READS IS OF BULK AT MOST 1048576: true; the input reads as it did. -/
def logFullUptoRow : OpenClaim := { program := "ytpeplkjidljpmaa", sum := "45052c7d94d6e5df7934c9be53a8bfc6af5e494543bda0548bd481db7a5aae27", func := "quillward/quillkeep.LogFull", spec := "logFull", apart := false, narrowed := true }
def LogFullUptoSaid : Prop := logFullUptoRow.holds Try.pinned (OpenSpec.upto logFullSpec)

/-- 'quillkeep.LogOne', WHERE WHAT IT READS IS OF BULK AT MOST 1048576: true; the input reads as it did. -/
def logOneUptoRow : OpenClaim := { program := "ytpeplkjidljpmaa", sum := "45052c7d94d6e5df7934c9be53a8bfc6af5e494543bda0548bd481db7a5aae27", func := "quillward/quillkeep.LogOne", spec := "logOne", apart := false, narrowed := true }
def LogOneUptoSaid : Prop := logOneUptoRow.holds Try.pinned (OpenSpec.upto logOneSpec)

/-- 'quillkeep.LogKeeps', WHERE WHAT IT READS IS OF BULK AT MOST 1048576: true; the input reads as it did. -/
def logKeepsUptoRow : OpenClaim := { program := "ytpeplkjidljpmaa", sum := "45052c7d94d6e5df7934c9be53a8bfc6af5e494543bda0548bd481db7a5aae27", func := "quillward/quillkeep.LogKeeps", spec := "logKeeps", apart := false, narrowed := true }
def LogKeepsUptoSaid : Prop := logKeepsUptoRow.holds Try.pinned (OpenSpec.upto logKeepsSpec)

/-- 'quillkeep.UndoBack', WHERE WHAT IT READS IS OF BULK AT MOST 1048576: true; the input reads as it did. -/
def undoBackUptoRow : OpenClaim := { program := "ytpeplkjidljpmaa", sum := "45052c7d94d6e5df7934c9be53a8bfc6af5e494543bda0548bd481db7a5aae27", func := "quillward/quillkeep.UndoBack", spec := "undoBack", unfollowed := true, recurses := true, apart := false, narrowed := true }
def UndoBackUptoSaid : Prop := undoBackUptoRow.holds Try.pinned (OpenSpec.upto undoBackSpec)

/-- 'quillkeep.UndoNew', WHERE WHAT IT READS IS OF BULK AT MOST 1048576: true; the input reads as it did. -/
def undoNewUptoRow : OpenClaim := { program := "ytpeplkjidljpmaa", sum := "45052c7d94d6e5df7934c9be53a8bfc6af5e494543bda0548bd481db7a5aae27", func := "quillward/quillkeep.UndoNew", spec := "undoNew", unfollowed := true, recurses := true, apart := false, narrowed := true }
def UndoNewUptoSaid : Prop := undoNewUptoRow.holds Try.pinned (OpenSpec.upto undoNewSpec)

/-- 'quillkeep.TrimSame', WHERE WHAT IT READS IS OF BULK AT MOST 1048576: true; the input reads as it did. -/
def trimSameUptoRow : OpenClaim := { program := "ytpeplkjidljpmaa", sum := "45052c7d94d6e5df7934c9be53a8bfc6af5e494543bda0548bd481db7a5aae27", func := "quillward/quillkeep.TrimSame", spec := "trimSame", apart := false, narrowed := true }
def TrimSameUptoSaid : Prop := trimSameUptoRow.holds Try.pinned (OpenSpec.upto trimSameSpec)

/-- 'quillkeep.OpsOwn', WHERE WHAT IT READS IS OF BULK AT MOST 1048576: true; the input reads as it did. -/
def opsOwnUptoRow : OpenClaim := { program := "ytpeplkjidljpmaa", sum := "45052c7d94d6e5df7934c9be53a8bfc6af5e494543bda0548bd481db7a5aae27", func := "quillward/quillkeep.OpsOwn", spec := "opsOwn", apart := false, narrowed := true }
def OpsOwnUptoSaid : Prop := opsOwnUptoRow.holds Try.pinned (OpenSpec.upto opsOwnSpec)

end Rows
end Go.Proofs.Ytpeplkjidljpmaa
