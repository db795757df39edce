/-
  DERIVED. GIVEN WITH THE SEED: THE CARDS: each row of YtcplagfblmemhaaGreatDoorRows.lean that lists a variable, with what it lists TIED to the program's text (the seventh form; the later family's looks); each row that meets fmt, with fmt's text TOLD by the authors' own Lean function (tested against real Go, not proved from fmt's source: count such statements apart). THE CARD IS WHAT COUNTS. Prove the row's statement (the work); the ties are given (YtcplagfblmemhaaGreatDoorTie.lean); close each card by the builder's one call (the guide's Derived/Test/ToyasCard.lean, 'card_holds'). Laid BY PROGRAM, IN A SANDBOX (cutbox-door.mjs). By AI agents, Wed Nov 11 2026. No macro, syntax, notation, axiom, sorry.
-/
import Derived.Test.YtcplagfblmemhaaGreatDoorRows
import GoSem.ClaimSeven
namespace Go.Proofs.YtcplagfblmemhaaGreatDoor
namespace Rows

/-- THE TIED CARD OF 'pouchlaw43.ChangeBoxes'. -/
def changeBoxesCard : Claim7 := { stood := { row := changeBoxesRow, standIns := [], harness := (true, "107b014d74af7cd1985e5677be49f31e40fad21a7e9d07feaec5f98f3e42f4f8"), looks := false }, kinds := [], alts := [], laidByText := true, laidKinds := [.data, .widerDeep, .widerDeep, .pinned], laidTests := true, laidLooks := .later }
def ChangeBoxesCardSaid : Prop := Claim7.holds Tryz.pinned (.plain (OpenSpec.ofChange changeBoxesSpec)) changeBoxesCard

/-- THE TIED CARD OF 'pouchlaw43.ChangeChains'. -/
def changeChainsCard : Claim7 := { stood := { row := changeChainsRow, standIns := [], harness := (true, "107b014d74af7cd1985e5677be49f31e40fad21a7e9d07feaec5f98f3e42f4f8"), looks := false }, kinds := [], alts := [], laidByText := true, laidKinds := [.data, .widerDeep, .widerDeep, .pinned], laidTests := true, laidLooks := .later }
def ChangeChainsCardSaid : Prop := Claim7.holds Tryz.pinned (.plain (OpenSpec.ofChange changeChainsSpec)) changeChainsCard

/-- THE TIED CARD OF 'pouchlaw43.ChangeFollows'. -/
def changeFollowsCard : Claim7 := { stood := { row := changeFollowsRow, standIns := [], harness := (true, "107b014d74af7cd1985e5677be49f31e40fad21a7e9d07feaec5f98f3e42f4f8"), looks := false }, kinds := [], alts := [], laidByText := true, laidKinds := [.data, .widerDeep, .widerDeep, .pinned], laidTests := true, laidLooks := .later }
def ChangeFollowsCardSaid : Prop := Claim7.holds Tryz.pinned (.plain (OpenSpec.ofChange changeFollowsSpec)) changeFollowsCard

/-- THE SECOND FORM's CARD OF 'pouchlaw43.ChangeBoxes'. -/
def changeBoxesUptoCard : Claim7 := { stood := { row := changeBoxesUptoRow, standIns := [], harness := (true, "107b014d74af7cd1985e5677be49f31e40fad21a7e9d07feaec5f98f3e42f4f8"), looks := false }, kinds := [], alts := [], laidByText := true, laidKinds := [.data, .widerDeep, .widerDeep, .pinned], laidTests := true, laidLooks := .later }
def ChangeBoxesUptoCardSaid : Prop := Claim7.holds Tryz.pinned (.plain (OpenSpec.upto changeBoxesSpec)) changeBoxesUptoCard

/-- THE SECOND FORM's CARD OF 'pouchlaw43.ChangeChains'. -/
def changeChainsUptoCard : Claim7 := { stood := { row := changeChainsUptoRow, standIns := [], harness := (true, "107b014d74af7cd1985e5677be49f31e40fad21a7e9d07feaec5f98f3e42f4f8"), looks := false }, kinds := [], alts := [], laidByText := true, laidKinds := [.data, .widerDeep, .widerDeep, .pinned], laidTests := true, laidLooks := .later }
def ChangeChainsUptoCardSaid : Prop := Claim7.holds Tryz.pinned (.plain (OpenSpec.upto changeChainsSpec)) changeChainsUptoCard

/-- THE SECOND FORM's CARD OF 'pouchlaw43.ChangeFollows'. -/
def changeFollowsUptoCard : Claim7 := { stood := { row := changeFollowsUptoRow, standIns := [], harness := (true, "107b014d74af7cd1985e5677be49f31e40fad21a7e9d07feaec5f98f3e42f4f8"), looks := false }, kinds := [], alts := [], laidByText := true, laidKinds := [.data, .widerDeep, .widerDeep, .pinned], laidTests := true, laidLooks := .later }
def ChangeFollowsUptoCardSaid : Prop := Claim7.holds Tryz.pinned (.plain (OpenSpec.upto changeFollowsSpec)) changeFollowsUptoCard
end Rows
end Go.Proofs.YtcplagfblmemhaaGreatDoor
