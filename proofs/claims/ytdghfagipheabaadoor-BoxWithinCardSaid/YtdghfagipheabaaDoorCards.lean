/-
  DERIVED. GIVEN WITH THE SEED: THE CARDS: each row of YtdghfagipheabaaDoorRows.lean that lists a variable, with what it lists TIED to the program's text (the seventh form; the later family's looks); each row that meets fmt, with fmt's text TOLD by the authors' own Lean function (tested against real Go, not proved from fmt's source: count such statements apart). THE CARD IS WHAT COUNTS. Prove the row's statement (the work); the ties are given (YtdghfagipheabaaDoorTie.lean); close each card by the builder's one call (the guide's Derived/Test/ToyasCard.lean, 'card_holds'). Laid BY PROGRAM, IN A SANDBOX (cutbox-door.mjs). By AI agents, Wed Nov 11 2026. No macro, syntax, notation, axiom, sorry.
-/
import Derived.Test.YtdghfagipheabaaDoorRows
import GoSem.ClaimSeven
namespace Go.Proofs.YtdghfagipheabaaDoor
namespace Rows

/-- THE TIED CARD OF 'pouchlaw41.BoxTells'. -/
def boxTellsCard : Claim7 := { stood := { row := boxTellsRow, standIns := [], harness := (true, "d071d4f801a6f5b4a75cc9c236c8130f9868661b30b989d7604e1fafe474bba6"), looks := false }, kinds := [], alts := [], laidByText := true, laidKinds := [.data, .widerDeep, .widerDeep, .pinned], laidTests := true, laidLooks := .later }
def BoxTellsCardSaid : Prop := Claim7.holds Tryd.pinned (.plain (OpenSpec.ofChange boxTellsSpec)) boxTellsCard

/-- THE TIED CARD OF 'pouchlaw41.BoxStays'. -/
def boxStaysCard : Claim7 := { stood := { row := boxStaysRow, standIns := [], harness := (true, "d071d4f801a6f5b4a75cc9c236c8130f9868661b30b989d7604e1fafe474bba6"), looks := false }, kinds := [], alts := [], laidByText := true, laidKinds := [.data, .widerDeep, .widerDeep, .pinned], laidTests := true, laidLooks := .later }
def BoxStaysCardSaid : Prop := Claim7.holds Tryd.pinned (.plain (OpenSpec.ofChange boxStaysSpec)) boxStaysCard

/-- THE TIED CARD OF 'pouchlaw41.BoxBack'. -/
def boxBackCard : Claim7 := { stood := { row := boxBackRow, standIns := [], harness := (true, "d071d4f801a6f5b4a75cc9c236c8130f9868661b30b989d7604e1fafe474bba6"), looks := false }, kinds := [], alts := [], laidByText := true, laidKinds := [.data, .widerDeep, .widerDeep, .pinned], laidTests := true, laidLooks := .later }
def BoxBackCardSaid : Prop := Claim7.holds Tryd.pinned (.plain (OpenSpec.ofChange boxBackSpec)) boxBackCard

/-- THE TIED CARD OF 'pouchlaw41.BoxWithin'. -/
def boxWithinCard : Claim7 := { stood := { row := boxWithinRow, standIns := [], harness := (true, "d071d4f801a6f5b4a75cc9c236c8130f9868661b30b989d7604e1fafe474bba6"), looks := false }, kinds := [], alts := [], laidByText := true, laidKinds := [.data, .widerDeep, .widerDeep, .pinned], laidTests := true, laidLooks := .later }
def BoxWithinCardSaid : Prop := Claim7.holds Tryd.pinned (.plain (OpenSpec.ofChange boxWithinSpec)) boxWithinCard

/-- THE SECOND FORM's CARD OF 'pouchlaw41.BoxTells'. -/
def boxTellsUptoCard : Claim7 := { stood := { row := boxTellsUptoRow, standIns := [], harness := (true, "d071d4f801a6f5b4a75cc9c236c8130f9868661b30b989d7604e1fafe474bba6"), looks := false }, kinds := [], alts := [], laidByText := true, laidKinds := [.data, .widerDeep, .widerDeep, .pinned], laidTests := true, laidLooks := .later }
def BoxTellsUptoCardSaid : Prop := Claim7.holds Tryd.pinned (.plain (OpenSpec.upto boxTellsSpec)) boxTellsUptoCard

/-- THE SECOND FORM's CARD OF 'pouchlaw41.BoxStays'. -/
def boxStaysUptoCard : Claim7 := { stood := { row := boxStaysUptoRow, standIns := [], harness := (true, "d071d4f801a6f5b4a75cc9c236c8130f9868661b30b989d7604e1fafe474bba6"), looks := false }, kinds := [], alts := [], laidByText := true, laidKinds := [.data, .widerDeep, .widerDeep, .pinned], laidTests := true, laidLooks := .later }
def BoxStaysUptoCardSaid : Prop := Claim7.holds Tryd.pinned (.plain (OpenSpec.upto boxStaysSpec)) boxStaysUptoCard

/-- THE SECOND FORM's CARD OF 'pouchlaw41.BoxBack'. -/
def boxBackUptoCard : Claim7 := { stood := { row := boxBackUptoRow, standIns := [], harness := (true, "d071d4f801a6f5b4a75cc9c236c8130f9868661b30b989d7604e1fafe474bba6"), looks := false }, kinds := [], alts := [], laidByText := true, laidKinds := [.data, .widerDeep, .widerDeep, .pinned], laidTests := true, laidLooks := .later }
def BoxBackUptoCardSaid : Prop := Claim7.holds Tryd.pinned (.plain (OpenSpec.upto boxBackSpec)) boxBackUptoCard

/-- THE SECOND FORM's CARD OF 'pouchlaw41.BoxWithin'. -/
def boxWithinUptoCard : Claim7 := { stood := { row := boxWithinUptoRow, standIns := [], harness := (true, "d071d4f801a6f5b4a75cc9c236c8130f9868661b30b989d7604e1fafe474bba6"), looks := false }, kinds := [], alts := [], laidByText := true, laidKinds := [.data, .widerDeep, .widerDeep, .pinned], laidTests := true, laidLooks := .later }
def BoxWithinUptoCardSaid : Prop := Claim7.holds Tryd.pinned (.plain (OpenSpec.upto boxWithinSpec)) boxWithinUptoCard
end Rows
end Go.Proofs.YtdghfagipheabaaDoor
