/-
  DERIVED. GIVEN WITH THE SEED: THE CARDS: each row of YtigbnldmjafgmaaDoorRows.lean that lists a variable, with what it lists TIED to the program's text (the seventh form; the later family's looks); each row that meets fmt, with fmt's text TOLD by the authors' own Lean function (tested against real Go, not proved from fmt's source: count such statements apart). THE CARD IS WHAT COUNTS. Prove the row's statement (the work); the ties are given (YtigbnldmjafgmaaDoorTie.lean); close each card by the builder's one call (the guide's Derived/Test/ToyasCard.lean, 'card_holds'). Laid BY PROGRAM, IN A SANDBOX (cutbox-door.mjs). By AI agents, Wed Nov 11 2026. No macro, syntax, notation, axiom, sorry.
-/
import Derived.Test.YtigbnldmjafgmaaDoorRows
import GoSem.ClaimSeven
namespace Go.Proofs.YtigbnldmjafgmaaDoor
namespace Rows

/-- THE TIED CARD OF 'quillkeep.HouseRefuses'. -/
def houseRefusesCard : Claim7 := { stood := { row := houseRefusesRow, standIns := [], harness := (true, "2473a1b8a2ed790f8ae0ad0174441356d661006afaf631ed19ff889b3f20294f"), looks := false }, kinds := [], alts := [], laidByText := true, laidKinds := [.data, .data, .data], laidTests := true, laidLooks := .later }
def HouseRefusesCardSaid : Prop := Claim7.holds Tryd.pinned (.plain (OpenSpec.ofChange houseRefusesSpec)) houseRefusesCard

/-- THE TIED CARD OF 'quillkeep.HouseSteps'. -/
def houseStepsCard : Claim7 := { stood := { row := houseStepsRow, standIns := [], harness := (true, "2473a1b8a2ed790f8ae0ad0174441356d661006afaf631ed19ff889b3f20294f"), looks := false }, kinds := [], alts := [], laidByText := true, laidKinds := [.data, .data, .data], laidTests := true, laidLooks := .later }
def HouseStepsCardSaid : Prop := Claim7.holds Tryd.pinned (.plain (OpenSpec.ofChange houseStepsSpec)) houseStepsCard

/-- THE TIED CARD OF 'quillkeep.LogOwn'. -/
def logOwnCard : Claim7 := { stood := { row := logOwnRow, standIns := [], harness := (true, "2473a1b8a2ed790f8ae0ad0174441356d661006afaf631ed19ff889b3f20294f"), looks := false }, kinds := [], alts := [], laidByText := true, laidKinds := [.data, .data, .data], laidTests := true, laidLooks := .later }
def LogOwnCardSaid : Prop := Claim7.holds Tryd.pinned (.plain (OpenSpec.ofChange logOwnSpec)) logOwnCard

/-- THE TIED CARD OF 'quillkeep.HouseKeeps'. -/
def houseKeepsCard : Claim7 := { stood := { row := houseKeepsRow, standIns := [], harness := (true, "2473a1b8a2ed790f8ae0ad0174441356d661006afaf631ed19ff889b3f20294f"), looks := false }, kinds := [], alts := [], laidByText := true, laidKinds := [.data, .data, .data], laidTests := true, laidLooks := .later }
def HouseKeepsCardSaid : Prop := Claim7.holds Tryd.pinned (.plain (OpenSpec.ofChange houseKeepsSpec)) houseKeepsCard

/-- THE TIED CARD OF 'quillkeep.HouseNames'. -/
def houseNamesCard : Claim7 := { stood := { row := houseNamesRow, standIns := [], harness := (true, "2473a1b8a2ed790f8ae0ad0174441356d661006afaf631ed19ff889b3f20294f"), looks := false }, kinds := [], alts := [], laidByText := true, laidKinds := [.data, .data, .data], laidTests := true, laidLooks := .later }
def HouseNamesCardSaid : Prop := Claim7.holds Tryd.pinned (.plain (OpenSpec.ofChange houseNamesSpec)) houseNamesCard

/-- THE TIED CARD OF 'quillkeep.HouseApart'. -/
def houseApartCard : Claim7 := { stood := { row := houseApartRow, standIns := [], harness := (true, "2473a1b8a2ed790f8ae0ad0174441356d661006afaf631ed19ff889b3f20294f"), looks := false }, kinds := [], alts := [], laidByText := true, laidKinds := [.data, .data, .data], laidTests := true, laidLooks := .later }
def HouseApartCardSaid : Prop := Claim7.holds Tryd.pinned (.plain (OpenSpec.ofChange houseApartSpec)) houseApartCard

/-- THE TIED CARD OF 'quilltop.TopHouse'. -/
def topHouseCard : Claim7 := { stood := { row := topHouseRow, standIns := [], harness := (true, "2473a1b8a2ed790f8ae0ad0174441356d661006afaf631ed19ff889b3f20294f"), looks := false }, kinds := [], alts := [], laidByText := true, laidKinds := [.data, .data, .data], laidTests := true, laidLooks := .later }
def TopHouseCardSaid : Prop := Claim7.holds Tryd.pinned (.plain (OpenSpec.ofChange topHouseSpec)) topHouseCard

/-- THE SECOND FORM's CARD OF 'quillkeep.HouseRefuses'. -/
def houseRefusesUptoCard : Claim7 := { stood := { row := houseRefusesUptoRow, standIns := [], harness := (true, "2473a1b8a2ed790f8ae0ad0174441356d661006afaf631ed19ff889b3f20294f"), looks := false }, kinds := [], alts := [], laidByText := true, laidKinds := [.data, .data, .data], laidTests := true, laidLooks := .later }
def HouseRefusesUptoCardSaid : Prop := Claim7.holds Tryd.pinned (.plain (OpenSpec.upto houseRefusesSpec)) houseRefusesUptoCard

/-- THE SECOND FORM's CARD OF 'quillkeep.HouseSteps'. -/
def houseStepsUptoCard : Claim7 := { stood := { row := houseStepsUptoRow, standIns := [], harness := (true, "2473a1b8a2ed790f8ae0ad0174441356d661006afaf631ed19ff889b3f20294f"), looks := false }, kinds := [], alts := [], laidByText := true, laidKinds := [.data, .data, .data], laidTests := true, laidLooks := .later }
def HouseStepsUptoCardSaid : Prop := Claim7.holds Tryd.pinned (.plain (OpenSpec.upto houseStepsSpec)) houseStepsUptoCard

/-- THE SECOND FORM's CARD OF 'quillkeep.LogOwn'. -/
def logOwnUptoCard : Claim7 := { stood := { row := logOwnUptoRow, standIns := [], harness := (true, "2473a1b8a2ed790f8ae0ad0174441356d661006afaf631ed19ff889b3f20294f"), looks := false }, kinds := [], alts := [], laidByText := true, laidKinds := [.data, .data, .data], laidTests := true, laidLooks := .later }
def LogOwnUptoCardSaid : Prop := Claim7.holds Tryd.pinned (.plain (OpenSpec.upto logOwnSpec)) logOwnUptoCard

/-- THE SECOND FORM's CARD OF 'quillkeep.HouseKeeps'. -/
def houseKeepsUptoCard : Claim7 := { stood := { row := houseKeepsUptoRow, standIns := [], harness := (true, "2473a1b8a2ed790f8ae0ad0174441356d661006afaf631ed19ff889b3f20294f"), looks := false }, kinds := [], alts := [], laidByText := true, laidKinds := [.data, .data, .data], laidTests := true, laidLooks := .later }
def HouseKeepsUptoCardSaid : Prop := Claim7.holds Tryd.pinned (.plain (OpenSpec.upto houseKeepsSpec)) houseKeepsUptoCard

/-- THE SECOND FORM's CARD OF 'quillkeep.HouseNames'. -/
def houseNamesUptoCard : Claim7 := { stood := { row := houseNamesUptoRow, standIns := [], harness := (true, "2473a1b8a2ed790f8ae0ad0174441356d661006afaf631ed19ff889b3f20294f"), looks := false }, kinds := [], alts := [], laidByText := true, laidKinds := [.data, .data, .data], laidTests := true, laidLooks := .later }
def HouseNamesUptoCardSaid : Prop := Claim7.holds Tryd.pinned (.plain (OpenSpec.upto houseNamesSpec)) houseNamesUptoCard

/-- THE SECOND FORM's CARD OF 'quillkeep.HouseApart'. -/
def houseApartUptoCard : Claim7 := { stood := { row := houseApartUptoRow, standIns := [], harness := (true, "2473a1b8a2ed790f8ae0ad0174441356d661006afaf631ed19ff889b3f20294f"), looks := false }, kinds := [], alts := [], laidByText := true, laidKinds := [.data, .data, .data], laidTests := true, laidLooks := .later }
def HouseApartUptoCardSaid : Prop := Claim7.holds Tryd.pinned (.plain (OpenSpec.upto houseApartSpec)) houseApartUptoCard

/-- THE SECOND FORM's CARD OF 'quilltop.TopHouse'. -/
def topHouseUptoCard : Claim7 := { stood := { row := topHouseUptoRow, standIns := [], harness := (true, "2473a1b8a2ed790f8ae0ad0174441356d661006afaf631ed19ff889b3f20294f"), looks := false }, kinds := [], alts := [], laidByText := true, laidKinds := [.data, .data, .data], laidTests := true, laidLooks := .later }
def TopHouseUptoCardSaid : Prop := Claim7.holds Tryd.pinned (.plain (OpenSpec.upto topHouseSpec)) topHouseUptoCard
end Rows
end Go.Proofs.YtigbnldmjafgmaaDoor
