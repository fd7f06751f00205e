/-
  DERIVED. GIVEN WITH THE SEED: THE CARDS: each row of YtlnobikecmgocaaDoorRows.lean that lists a variable, with what it lists TIED to the program's text (the seventh form; the later family's looks); each row that meets fmt, with fmt's text TOLD by the authors' own Lean function (tested against real Go, not proved from fmt's source: count such statements apart). THE CARD IS WHAT COUNTS. Prove the row's statement (the work); the ties are given (YtlnobikecmgocaaDoorTie.lean); close each card by the builder's one call (the guide's Derived/Test/ToyasCard.lean, 'card_holds'). Laid BY PROGRAM, IN A SANDBOX (cutbox-door.mjs). By AI agents, Wed Nov 11 2026. No macro, syntax, notation, axiom, sorry.
-/
import Derived.Test.YtlnobikecmgocaaDoorRows
import GoSem.ClaimSeven
namespace Go.Proofs.YtlnobikecmgocaaDoor
namespace Rows

/-- THE TIED CARD OF 'quillkeep.PackCost'. -/
def packCostCard : Claim7 := { stood := { row := packCostRow, standIns := [], harness := (true, "2426728912cc7fa5fb87849bf3da9defa13f5d80a1d1e88a9609944de613e748"), looks := false }, kinds := [], alts := [], laidByText := true, laidKinds := [.data, .pinned], laidTests := true, laidLooks := .later }
def PackCostCardSaid : Prop := Claim7.holds Tryd.pinned (.plain (OpenSpec.ofChange packCostSpec)) packCostCard

/-- THE TIED CARD OF 'quillkeep.PackBack'. -/
def packBackCard : Claim7 := { stood := { row := packBackRow, standIns := [], harness := (true, "2426728912cc7fa5fb87849bf3da9defa13f5d80a1d1e88a9609944de613e748"), looks := false }, kinds := [], alts := [], laidByText := true, laidKinds := [.data, .pinned], laidTests := true, laidLooks := .later }
def PackBackCardSaid : Prop := Claim7.holds Tryd.pinned (.plain (OpenSpec.ofChange packBackSpec)) packBackCard

/-- THE SECOND FORM's CARD OF 'quillkeep.PackCost'. -/
def packCostUptoCard : Claim7 := { stood := { row := packCostUptoRow, standIns := [], harness := (true, "2426728912cc7fa5fb87849bf3da9defa13f5d80a1d1e88a9609944de613e748"), looks := false }, kinds := [], alts := [], laidByText := true, laidKinds := [.data, .pinned], laidTests := true, laidLooks := .later }
def PackCostUptoCardSaid : Prop := Claim7.holds Tryd.pinned (.plain (OpenSpec.upto packCostSpec)) packCostUptoCard

/-- THE SECOND FORM's CARD OF 'quillkeep.PackBack'. -/
def packBackUptoCard : Claim7 := { stood := { row := packBackUptoRow, standIns := [], harness := (true, "2426728912cc7fa5fb87849bf3da9defa13f5d80a1d1e88a9609944de613e748"), looks := false }, kinds := [], alts := [], laidByText := true, laidKinds := [.data, .pinned], laidTests := true, laidLooks := .later }
def PackBackUptoCardSaid : Prop := Claim7.holds Tryd.pinned (.plain (OpenSpec.upto packBackSpec)) packBackUptoCard
end Rows
end Go.Proofs.YtlnobikecmgocaaDoor
