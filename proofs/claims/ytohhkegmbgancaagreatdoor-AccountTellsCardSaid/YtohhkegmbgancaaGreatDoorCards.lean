/-
  DERIVED. GIVEN WITH THE SEED: THE CARDS: each row of YtohhkegmbgancaaGreatDoorRows.lean that lists a variable, with what it lists TIED to the program's text (the seventh form; the later family's looks); each row that meets fmt, with fmt's text TOLD by the authors' own Lean function (tested against real Go, not proved from fmt's source: count such statements apart). THE CARD IS WHAT COUNTS. Prove the row's statement (the work); the ties are given (YtohhkegmbgancaaGreatDoorTie.lean); close each card by the builder's one call (the guide's Derived/Test/ToyasCard.lean, 'card_holds'). Laid BY PROGRAM, IN A SANDBOX (cutbox-door.mjs). By AI agents, Wed Nov 11 2026. No macro, syntax, notation, axiom, sorry.
-/
import Derived.Test.YtohhkegmbgancaaGreatDoorRows
import GoSem.ClaimSeven
namespace Go.Proofs.YtohhkegmbgancaaGreatDoor
namespace Rows

/-- THE TIED CARD OF 'pouchlaw42.AccountFlags'. -/
def accountFlagsCard : Claim7 := { stood := { row := accountFlagsRow, standIns := [], harness := (true, "c64aaaebc692159004bd2397b84b2ed914f0cdc14405e8b6cb8115e0202352c1"), looks := false }, kinds := [], alts := [], laidByText := true, laidKinds := [.data, .widerDeep, .widerDeep, .pinned], laidTests := true, laidLooks := .later }
def AccountFlagsCardSaid : Prop := Claim7.holds Tryz.pinned (.plain (OpenSpec.ofChange accountFlagsSpec)) accountFlagsCard

/-- THE TIED CARD OF 'pouchlaw42.AccountBoxes'. -/
def accountBoxesCard : Claim7 := { stood := { row := accountBoxesRow, standIns := [], harness := (true, "c64aaaebc692159004bd2397b84b2ed914f0cdc14405e8b6cb8115e0202352c1"), looks := false }, kinds := [], alts := [], laidByText := true, laidKinds := [.data, .widerDeep, .widerDeep, .pinned], laidTests := true, laidLooks := .later }
def AccountBoxesCardSaid : Prop := Claim7.holds Tryz.pinned (.plain (OpenSpec.ofChange accountBoxesSpec)) accountBoxesCard

/-- THE TIED CARD OF 'pouchlaw42.AccountTells'. -/
def accountTellsCard : Claim7 := { stood := { row := accountTellsRow, standIns := [], harness := (true, "c64aaaebc692159004bd2397b84b2ed914f0cdc14405e8b6cb8115e0202352c1"), looks := false }, kinds := [], alts := [], laidByText := true, laidKinds := [.data, .widerDeep, .widerDeep, .pinned], laidTests := true, laidLooks := .later }
def AccountTellsCardSaid : Prop := Claim7.holds Tryz.pinned (.plain (OpenSpec.ofChange accountTellsSpec)) accountTellsCard

/-- THE TIED CARD OF 'pouchlaw42.AccountStays'. -/
def accountStaysCard : Claim7 := { stood := { row := accountStaysRow, standIns := [], harness := (true, "c64aaaebc692159004bd2397b84b2ed914f0cdc14405e8b6cb8115e0202352c1"), looks := false }, kinds := [], alts := [], laidByText := true, laidKinds := [.data, .widerDeep, .widerDeep, .pinned], laidTests := true, laidLooks := .later }
def AccountStaysCardSaid : Prop := Claim7.holds Tryz.pinned (.plain (OpenSpec.ofChange accountStaysSpec)) accountStaysCard

/-- THE SECOND FORM's CARD OF 'pouchlaw42.AccountFlags'. -/
def accountFlagsUptoCard : Claim7 := { stood := { row := accountFlagsUptoRow, standIns := [], harness := (true, "c64aaaebc692159004bd2397b84b2ed914f0cdc14405e8b6cb8115e0202352c1"), looks := false }, kinds := [], alts := [], laidByText := true, laidKinds := [.data, .widerDeep, .widerDeep, .pinned], laidTests := true, laidLooks := .later }
def AccountFlagsUptoCardSaid : Prop := Claim7.holds Tryz.pinned (.plain (OpenSpec.upto accountFlagsSpec)) accountFlagsUptoCard

/-- THE SECOND FORM's CARD OF 'pouchlaw42.AccountBoxes'. -/
def accountBoxesUptoCard : Claim7 := { stood := { row := accountBoxesUptoRow, standIns := [], harness := (true, "c64aaaebc692159004bd2397b84b2ed914f0cdc14405e8b6cb8115e0202352c1"), looks := false }, kinds := [], alts := [], laidByText := true, laidKinds := [.data, .widerDeep, .widerDeep, .pinned], laidTests := true, laidLooks := .later }
def AccountBoxesUptoCardSaid : Prop := Claim7.holds Tryz.pinned (.plain (OpenSpec.upto accountBoxesSpec)) accountBoxesUptoCard

/-- THE SECOND FORM's CARD OF 'pouchlaw42.AccountTells'. -/
def accountTellsUptoCard : Claim7 := { stood := { row := accountTellsUptoRow, standIns := [], harness := (true, "c64aaaebc692159004bd2397b84b2ed914f0cdc14405e8b6cb8115e0202352c1"), looks := false }, kinds := [], alts := [], laidByText := true, laidKinds := [.data, .widerDeep, .widerDeep, .pinned], laidTests := true, laidLooks := .later }
def AccountTellsUptoCardSaid : Prop := Claim7.holds Tryz.pinned (.plain (OpenSpec.upto accountTellsSpec)) accountTellsUptoCard

/-- THE SECOND FORM's CARD OF 'pouchlaw42.AccountStays'. -/
def accountStaysUptoCard : Claim7 := { stood := { row := accountStaysUptoRow, standIns := [], harness := (true, "c64aaaebc692159004bd2397b84b2ed914f0cdc14405e8b6cb8115e0202352c1"), looks := false }, kinds := [], alts := [], laidByText := true, laidKinds := [.data, .widerDeep, .widerDeep, .pinned], laidTests := true, laidLooks := .later }
def AccountStaysUptoCardSaid : Prop := Claim7.holds Tryz.pinned (.plain (OpenSpec.upto accountStaysSpec)) accountStaysUptoCard
end Rows
end Go.Proofs.YtohhkegmbgancaaGreatDoor
