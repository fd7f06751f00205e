/-
  DERIVED. GIVEN WITH THE SEED: THE CARDS: each row of YtgoofbbbnphncaaDoorRows.lean that lists a variable, with what it lists TIED to the program's text (the seventh form; the later family's looks); each row that meets fmt, with fmt's text TOLD by the authors' own Lean function (tested against real Go, not proved from fmt's source: count such statements apart). THE CARD IS WHAT COUNTS. Prove the row's statement (the work); the ties are given (YtgoofbbbnphncaaDoorTie.lean); close each card by the builder's one call (the guide's Derived/Test/ToyasCard.lean, 'card_holds'). Laid BY PROGRAM, IN A SANDBOX (cutbox-door.mjs). By AI agents, Wed Nov 11 2026. No macro, syntax, notation, axiom, sorry.
-/
import Derived.Test.YtgoofbbbnphncaaDoorRows
import GoSem.ClaimSeven
namespace Go.Proofs.YtgoofbbbnphncaaDoor
namespace Rows

/-- THE TIED CARD OF 'quillkeep.LeafRefuses'. -/
def leafRefusesCard : Claim7 := { stood := { row := leafRefusesRow, standIns := [], harness := (true, "e084e5413a1beb86638298d5e03a44a0c165b8171204dd06db28f7be3d34c697"), looks := false }, kinds := [], alts := [], laidByText := true, laidKinds := [.data, .data, .data], laidTests := true, laidLooks := .later }
def LeafRefusesCardSaid : Prop := Claim7.holds Tryd.pinned (.plain (OpenSpec.ofChange leafRefusesSpec)) leafRefusesCard

/-- THE TIED CARD OF 'quillkeep.LeafWhole'. -/
def leafWholeCard : Claim7 := { stood := { row := leafWholeRow, standIns := [], harness := (true, "e084e5413a1beb86638298d5e03a44a0c165b8171204dd06db28f7be3d34c697"), looks := false }, kinds := [], alts := [], laidByText := true, laidKinds := [.data, .data, .data], laidTests := true, laidLooks := .later }
def LeafWholeCardSaid : Prop := Claim7.holds Tryd.pinned (.plain (OpenSpec.ofChange leafWholeSpec)) leafWholeCard

/-- THE TIED CARD OF 'quillkeep.LeafKeeps'. -/
def leafKeepsCard : Claim7 := { stood := { row := leafKeepsRow, standIns := [], harness := (true, "e084e5413a1beb86638298d5e03a44a0c165b8171204dd06db28f7be3d34c697"), looks := false }, kinds := [], alts := [], laidByText := true, laidKinds := [.data, .data, .data], laidTests := true, laidLooks := .later }
def LeafKeepsCardSaid : Prop := Claim7.holds Tryd.pinned (.plain (OpenSpec.ofChange leafKeepsSpec)) leafKeepsCard

/-- THE TIED CARD OF 'quillkeep.LeafPacks'. -/
def leafPacksCard : Claim7 := { stood := { row := leafPacksRow, standIns := [], harness := (true, "e084e5413a1beb86638298d5e03a44a0c165b8171204dd06db28f7be3d34c697"), looks := false }, kinds := [], alts := [], laidByText := true, laidKinds := [.data, .data, .data], laidTests := true, laidLooks := .later }
def LeafPacksCardSaid : Prop := Claim7.holds Tryd.pinned (.plain (OpenSpec.ofChange leafPacksSpec)) leafPacksCard

/-- THE TIED CARD OF 'quillkeep.EditsOwn'. -/
def editsOwnCard : Claim7 := { stood := { row := editsOwnRow, standIns := [], harness := (true, "e084e5413a1beb86638298d5e03a44a0c165b8171204dd06db28f7be3d34c697"), looks := false }, kinds := [], alts := [], laidByText := true, laidKinds := [.data, .data, .data], laidTests := true, laidLooks := .later }
def EditsOwnCardSaid : Prop := Claim7.holds Tryd.pinned (.plain (OpenSpec.ofChange editsOwnSpec)) editsOwnCard

/-- THE TIED CARD OF 'quillkeep.PackJoins'. -/
def packJoinsCard : Claim7 := { stood := { row := packJoinsRow, standIns := [], harness := (true, "e084e5413a1beb86638298d5e03a44a0c165b8171204dd06db28f7be3d34c697"), looks := false }, kinds := [], alts := [], laidByText := true, laidKinds := [.data, .pinned], laidTests := true, laidLooks := .later }
def PackJoinsCardSaid : Prop := Claim7.holds Tryd.pinned (.plain (OpenSpec.ofChange packJoinsSpec)) packJoinsCard

/-- THE TIED CARD OF 'quillkeep.CodeMade'. -/
def codeMadeCard : Claim7 := { stood := { row := codeMadeRow, standIns := [], harness := (true, "e084e5413a1beb86638298d5e03a44a0c165b8171204dd06db28f7be3d34c697"), looks := false }, kinds := [], alts := [], laidByText := true, laidKinds := [.data, .pinned], laidTests := true, laidLooks := .later }
def CodeMadeCardSaid : Prop := Claim7.holds Tryd.pinned (.plain (OpenSpec.ofChange codeMadeSpec)) codeMadeCard

/-- THE TIED CARD OF 'quillkeep.CodeKraft'. -/
def codeKraftCard : Claim7 := { stood := { row := codeKraftRow, standIns := [], harness := (true, "e084e5413a1beb86638298d5e03a44a0c165b8171204dd06db28f7be3d34c697"), looks := false }, kinds := [], alts := [], laidByText := true, laidKinds := [.data, .pinned], laidTests := true, laidLooks := .later }
def CodeKraftCardSaid : Prop := Claim7.holds Tryd.pinned (.plain (OpenSpec.ofChange codeKraftSpec)) codeKraftCard

/-- THE TIED CARD OF 'quillkeep.PackWays'. -/
def packWaysCard : Claim7 := { stood := { row := packWaysRow, standIns := [], harness := (true, "e084e5413a1beb86638298d5e03a44a0c165b8171204dd06db28f7be3d34c697"), looks := false }, kinds := [], alts := [], laidByText := true, laidKinds := [.data, .pinned], laidTests := true, laidLooks := .later }
def PackWaysCardSaid : Prop := Claim7.holds Tryd.pinned (.plain (OpenSpec.ofChange packWaysSpec)) packWaysCard

/-- THE TIED CARD OF 'quillkeep.CodeTwo'. -/
def codeTwoCard : Claim7 := { stood := { row := codeTwoRow, standIns := [], harness := (true, "e084e5413a1beb86638298d5e03a44a0c165b8171204dd06db28f7be3d34c697"), looks := false }, kinds := [], alts := [], laidByText := true, laidKinds := [.data, .pinned], laidTests := true, laidLooks := .later }
def CodeTwoCardSaid : Prop := Claim7.holds Tryd.pinned (.plain (OpenSpec.ofChange codeTwoSpec)) codeTwoCard

/-- THE SECOND FORM's CARD OF 'quillkeep.LeafRefuses'. -/
def leafRefusesUptoCard : Claim7 := { stood := { row := leafRefusesUptoRow, standIns := [], harness := (true, "e084e5413a1beb86638298d5e03a44a0c165b8171204dd06db28f7be3d34c697"), looks := false }, kinds := [], alts := [], laidByText := true, laidKinds := [.data, .data, .data], laidTests := true, laidLooks := .later }
def LeafRefusesUptoCardSaid : Prop := Claim7.holds Tryd.pinned (.plain (OpenSpec.upto leafRefusesSpec)) leafRefusesUptoCard

/-- THE SECOND FORM's CARD OF 'quillkeep.LeafWhole'. -/
def leafWholeUptoCard : Claim7 := { stood := { row := leafWholeUptoRow, standIns := [], harness := (true, "e084e5413a1beb86638298d5e03a44a0c165b8171204dd06db28f7be3d34c697"), looks := false }, kinds := [], alts := [], laidByText := true, laidKinds := [.data, .data, .data], laidTests := true, laidLooks := .later }
def LeafWholeUptoCardSaid : Prop := Claim7.holds Tryd.pinned (.plain (OpenSpec.upto leafWholeSpec)) leafWholeUptoCard

/-- THE SECOND FORM's CARD OF 'quillkeep.LeafKeeps'. -/
def leafKeepsUptoCard : Claim7 := { stood := { row := leafKeepsUptoRow, standIns := [], harness := (true, "e084e5413a1beb86638298d5e03a44a0c165b8171204dd06db28f7be3d34c697"), looks := false }, kinds := [], alts := [], laidByText := true, laidKinds := [.data, .data, .data], laidTests := true, laidLooks := .later }
def LeafKeepsUptoCardSaid : Prop := Claim7.holds Tryd.pinned (.plain (OpenSpec.upto leafKeepsSpec)) leafKeepsUptoCard

/-- THE SECOND FORM's CARD OF 'quillkeep.LeafPacks'. -/
def leafPacksUptoCard : Claim7 := { stood := { row := leafPacksUptoRow, standIns := [], harness := (true, "e084e5413a1beb86638298d5e03a44a0c165b8171204dd06db28f7be3d34c697"), looks := false }, kinds := [], alts := [], laidByText := true, laidKinds := [.data, .data, .data], laidTests := true, laidLooks := .later }
def LeafPacksUptoCardSaid : Prop := Claim7.holds Tryd.pinned (.plain (OpenSpec.upto leafPacksSpec)) leafPacksUptoCard

/-- THE SECOND FORM's CARD OF 'quillkeep.EditsOwn'. -/
def editsOwnUptoCard : Claim7 := { stood := { row := editsOwnUptoRow, standIns := [], harness := (true, "e084e5413a1beb86638298d5e03a44a0c165b8171204dd06db28f7be3d34c697"), looks := false }, kinds := [], alts := [], laidByText := true, laidKinds := [.data, .data, .data], laidTests := true, laidLooks := .later }
def EditsOwnUptoCardSaid : Prop := Claim7.holds Tryd.pinned (.plain (OpenSpec.upto editsOwnSpec)) editsOwnUptoCard

/-- THE SECOND FORM's CARD OF 'quillkeep.PackJoins'. -/
def packJoinsUptoCard : Claim7 := { stood := { row := packJoinsUptoRow, standIns := [], harness := (true, "e084e5413a1beb86638298d5e03a44a0c165b8171204dd06db28f7be3d34c697"), looks := false }, kinds := [], alts := [], laidByText := true, laidKinds := [.data, .pinned], laidTests := true, laidLooks := .later }
def PackJoinsUptoCardSaid : Prop := Claim7.holds Tryd.pinned (.plain (OpenSpec.upto packJoinsSpec)) packJoinsUptoCard

/-- THE SECOND FORM's CARD OF 'quillkeep.CodeMade'. -/
def codeMadeUptoCard : Claim7 := { stood := { row := codeMadeUptoRow, standIns := [], harness := (true, "e084e5413a1beb86638298d5e03a44a0c165b8171204dd06db28f7be3d34c697"), looks := false }, kinds := [], alts := [], laidByText := true, laidKinds := [.data, .pinned], laidTests := true, laidLooks := .later }
def CodeMadeUptoCardSaid : Prop := Claim7.holds Tryd.pinned (.plain (OpenSpec.upto codeMadeSpec)) codeMadeUptoCard

/-- THE SECOND FORM's CARD OF 'quillkeep.CodeKraft'. -/
def codeKraftUptoCard : Claim7 := { stood := { row := codeKraftUptoRow, standIns := [], harness := (true, "e084e5413a1beb86638298d5e03a44a0c165b8171204dd06db28f7be3d34c697"), looks := false }, kinds := [], alts := [], laidByText := true, laidKinds := [.data, .pinned], laidTests := true, laidLooks := .later }
def CodeKraftUptoCardSaid : Prop := Claim7.holds Tryd.pinned (.plain (OpenSpec.upto codeKraftSpec)) codeKraftUptoCard

/-- THE SECOND FORM's CARD OF 'quillkeep.PackWays'. -/
def packWaysUptoCard : Claim7 := { stood := { row := packWaysUptoRow, standIns := [], harness := (true, "e084e5413a1beb86638298d5e03a44a0c165b8171204dd06db28f7be3d34c697"), looks := false }, kinds := [], alts := [], laidByText := true, laidKinds := [.data, .pinned], laidTests := true, laidLooks := .later }
def PackWaysUptoCardSaid : Prop := Claim7.holds Tryd.pinned (.plain (OpenSpec.upto packWaysSpec)) packWaysUptoCard

/-- THE SECOND FORM's CARD OF 'quillkeep.CodeTwo'. -/
def codeTwoUptoCard : Claim7 := { stood := { row := codeTwoUptoRow, standIns := [], harness := (true, "e084e5413a1beb86638298d5e03a44a0c165b8171204dd06db28f7be3d34c697"), looks := false }, kinds := [], alts := [], laidByText := true, laidKinds := [.data, .pinned], laidTests := true, laidLooks := .later }
def CodeTwoUptoCardSaid : Prop := Claim7.holds Tryd.pinned (.plain (OpenSpec.upto codeTwoSpec)) codeTwoUptoCard
end Rows
end Go.Proofs.YtgoofbbbnphncaaDoor
