/-
  DERIVED. GIVEN WITH THE SEED: THE CARDS: each row of YtdghfagipheabaaGreatDoorRows.lean that lists a variable, with what it lists TIED to the program's text (the seventh form; the later family's looks); each row that meets fmt, with fmt's text TOLD by the authors' own Lean function (tested against real Go, not proved from fmt's source: count such statements apart). THE CARD IS WHAT COUNTS. Prove the row's statement (the work); the ties are given (YtdghfagipheabaaGreatDoorTie.lean); close each card by the builder's one call (the guide's Derived/Test/ToyasCard.lean, 'card_holds'). Laid BY PROGRAM, IN A SANDBOX (cutbox-door.mjs). By AI agents, Wed Nov 11 2026. No macro, syntax, notation, axiom, sorry.
-/
import Derived.Test.YtdghfagipheabaaGreatDoorRows
import GoSem.ClaimSeven
namespace Go.Proofs.YtdghfagipheabaaGreatDoor
namespace Rows

/-- THE TIED CARD OF 'pouchlaw41.BoxChanges'. -/
def boxChangesCard : Claim7 := { stood := { row := boxChangesRow, standIns := [], harness := (true, "a44023dddbea4f1178bf3169ac95b3086f6d1e630f6ef9f82a396ca896cc708f"), looks := false }, kinds := [], alts := [], laidByText := true, laidKinds := [.data, .widerDeep, .widerDeep, .pinned], laidTests := true, laidLooks := .later }
def BoxChangesCardSaid : Prop := Claim7.holds Tryz.pinned (.plain (OpenSpec.ofChange boxChangesSpec)) boxChangesCard

/-- THE SECOND FORM's CARD OF 'pouchlaw41.BoxChanges'. -/
def boxChangesUptoCard : Claim7 := { stood := { row := boxChangesUptoRow, standIns := [], harness := (true, "a44023dddbea4f1178bf3169ac95b3086f6d1e630f6ef9f82a396ca896cc708f"), looks := false }, kinds := [], alts := [], laidByText := true, laidKinds := [.data, .widerDeep, .widerDeep, .pinned], laidTests := true, laidLooks := .later }
def BoxChangesUptoCardSaid : Prop := Claim7.holds Tryz.pinned (.plain (OpenSpec.upto boxChangesSpec)) boxChangesUptoCard
end Rows
end Go.Proofs.YtdghfagipheabaaGreatDoor
