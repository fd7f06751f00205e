/-
  DERIVED. GIVEN WITH THE SEED: THE CARDS: each row of YtafpcekemlgclaaGreatDoorRows.lean that lists a variable, with what it lists TIED to the program's text (the seventh form; the later family's looks); each row that meets fmt, with fmt's text TOLD by the authors' own Lean function (tested against real Go, not proved from fmt's source: count such statements apart). THE CARD IS WHAT COUNTS. Prove the row's statement (the work); the ties are given (YtafpcekemlgclaaGreatDoorTie.lean); close each card by the builder's one call (the guide's Derived/Test/ToyasCard.lean, 'card_holds'). Laid BY PROGRAM, IN A SANDBOX (cutbox-door.mjs). By AI agents, Wed Nov 11 2026. No macro, syntax, notation, axiom, sorry.
-/
import Derived.Test.YtafpcekemlgclaaGreatDoorRows
import GoSem.ClaimSeven
namespace Go.Proofs.YtafpcekemlgclaaGreatDoor
namespace Rows

/-- THE TIED CARD OF 'quillkeep.CodeTurned'. -/
def codeTurnedCard : Claim7 := { stood := { row := codeTurnedRow, standIns := [], harness := (true, "f013cab64910649d556a468c41c7ab04fb2f70d5dff09b868fc5fd195f367fa2"), looks := true }, kinds := [], alts := [], laidByText := true, laidKinds := [.data, .pinned], laidTests := true, laidLooks := .later }
def CodeTurnedCardSaid : Prop := Claim7.holds Tryz.pinned (.plain (OpenSpec.ofChange codeTurnedSpec)) codeTurnedCard

/-- THE SECOND FORM's CARD OF 'quillkeep.CodeTurned'. -/
def codeTurnedUptoCard : Claim7 := { stood := { row := codeTurnedUptoRow, standIns := [], harness := (true, "f013cab64910649d556a468c41c7ab04fb2f70d5dff09b868fc5fd195f367fa2"), looks := true }, kinds := [], alts := [], laidByText := true, laidKinds := [.data, .pinned], laidTests := true, laidLooks := .later }
def CodeTurnedUptoCardSaid : Prop := Claim7.holds Tryz.pinned (.plain (OpenSpec.upto codeTurnedSpec)) codeTurnedUptoCard
end Rows
end Go.Proofs.YtafpcekemlgclaaGreatDoor
