/-
  DERIVED. GIVEN WITH THE SEED: THE CARDS: each row of YtennokckmjcefaaGreatDoorRows.lean that lists a variable, with what it lists TIED to the program's text (the seventh form; the later family's looks); each row that meets fmt, with fmt's text TOLD by the authors' own Lean function (tested against real Go, not proved from fmt's source: count such statements apart). THE CARD IS WHAT COUNTS. Prove the row's statement (the work); the ties are given (YtennokckmjcefaaGreatDoorTie.lean); close each card by the builder's one call (the guide's Derived/Test/ToyasCard.lean, 'card_holds'). Laid BY PROGRAM, IN A SANDBOX (cutbox-door.mjs). By AI agents, Wed Nov 11 2026. No macro, syntax, notation, axiom, sorry.
-/
import Derived.Test.YtennokckmjcefaaGreatDoorRows
import GoSem.ClaimSeven
namespace Go.Proofs.YtennokckmjcefaaGreatDoor
namespace Rows

/-- THE TIED CARD OF 'pouchlaw36.IndexReads'. -/
def indexReadsCard : Claim7 := { stood := { row := indexReadsRow, standIns := [], harness := (true, "64436d45b139e9391b32871f5e76df434d5af7b821692a4528193c6b2d85adf9"), looks := false }, kinds := [], alts := [], laidByText := true, laidKinds := [.widerDeep, .widerDeep], laidTests := true, laidLooks := .later }
def IndexReadsCardSaid : Prop := Claim7.holds Tryz.pinned (.plain (OpenSpec.ofChange indexReadsSpec)) indexReadsCard

/-- THE TIED CARD OF 'pouchlaw36.IndexDrops'. -/
def indexDropsCard : Claim7 := { stood := { row := indexDropsRow, standIns := [], harness := (true, "64436d45b139e9391b32871f5e76df434d5af7b821692a4528193c6b2d85adf9"), looks := false }, kinds := [], alts := [], laidByText := true, laidKinds := [.widerDeep, .widerDeep], laidTests := true, laidLooks := .later }
def IndexDropsCardSaid : Prop := Claim7.holds Tryz.pinned (.plain (OpenSpec.ofChange indexDropsSpec)) indexDropsCard

/-- THE TIED CARD OF 'pouchlaw36.IndexCase'. -/
def indexCaseCard : Claim7 := { stood := { row := indexCaseRow, standIns := [], harness := (true, "64436d45b139e9391b32871f5e76df434d5af7b821692a4528193c6b2d85adf9"), looks := false }, kinds := [], alts := [], laidByText := true, laidKinds := [.widerDeep, .widerDeep], laidTests := true, laidLooks := .later }
def IndexCaseCardSaid : Prop := Claim7.holds Tryz.pinned (.plain (OpenSpec.ofChange indexCaseSpec)) indexCaseCard

/-- THE TIED CARD OF 'pouchlaw36.IndexTells'. -/
def indexTellsCard : Claim7 := { stood := { row := indexTellsRow, standIns := [], harness := (true, "64436d45b139e9391b32871f5e76df434d5af7b821692a4528193c6b2d85adf9"), looks := false }, kinds := [], alts := [], laidByText := true, laidKinds := [.widerDeep, .widerDeep], laidTests := true, laidLooks := .later }
def IndexTellsCardSaid : Prop := Claim7.holds Tryz.pinned (.plain (OpenSpec.ofChange indexTellsSpec)) indexTellsCard

/-- THE TIED CARD OF 'pouchlaw36.IndexScratch'. -/
def indexScratchCard : Claim7 := { stood := { row := indexScratchRow, standIns := [], harness := (true, "64436d45b139e9391b32871f5e76df434d5af7b821692a4528193c6b2d85adf9"), looks := false }, kinds := [], alts := [], laidByText := true, laidKinds := [.widerDeep, .widerDeep], laidTests := true, laidLooks := .later }
def IndexScratchCardSaid : Prop := Claim7.holds Tryz.pinned (.plain (OpenSpec.ofChange indexScratchSpec)) indexScratchCard

/-- THE TIED CARD OF 'pouchlaw36.IndexSteps'. -/
def indexStepsCard : Claim7 := { stood := { row := indexStepsRow, standIns := [], harness := (true, "64436d45b139e9391b32871f5e76df434d5af7b821692a4528193c6b2d85adf9"), looks := false }, kinds := [], alts := [], laidByText := true, laidKinds := [.widerDeep, .widerDeep], laidTests := true, laidLooks := .later }
def IndexStepsCardSaid : Prop := Claim7.holds Tryz.pinned (.plain (OpenSpec.ofChange indexStepsSpec)) indexStepsCard

/-- THE TIED CARD OF 'pouchlaw36.IndexOrder'. -/
def indexOrderCard : Claim7 := { stood := { row := indexOrderRow, standIns := [], harness := (true, "64436d45b139e9391b32871f5e76df434d5af7b821692a4528193c6b2d85adf9"), looks := false }, kinds := [], alts := [], laidByText := true, laidKinds := [.widerDeep, .widerDeep], laidTests := true, laidLooks := .later }
def IndexOrderCardSaid : Prop := Claim7.holds Tryz.pinned (.plain (OpenSpec.ofChange indexOrderSpec)) indexOrderCard

/-- THE TIED CARD OF 'pouchlaw39.SnipFinds'. -/
def snipFindsCard : Claim7 := { stood := { row := snipFindsRow, standIns := [], harness := (true, "64436d45b139e9391b32871f5e76df434d5af7b821692a4528193c6b2d85adf9"), looks := false }, kinds := [], alts := [], laidByText := true, laidKinds := [.widerDeep, .widerDeep], laidTests := true, laidLooks := .later }
def SnipFindsCardSaid : Prop := Claim7.holds Tryz.pinned (.plain (OpenSpec.ofChange snipFindsSpec)) snipFindsCard

/-- THE SECOND FORM's CARD OF 'pouchlaw36.IndexReads'. -/
def indexReadsUptoCard : Claim7 := { stood := { row := indexReadsUptoRow, standIns := [], harness := (true, "64436d45b139e9391b32871f5e76df434d5af7b821692a4528193c6b2d85adf9"), looks := false }, kinds := [], alts := [], laidByText := true, laidKinds := [.widerDeep, .widerDeep], laidTests := true, laidLooks := .later }
def IndexReadsUptoCardSaid : Prop := Claim7.holds Tryz.pinned (.plain (OpenSpec.upto indexReadsSpec)) indexReadsUptoCard

/-- THE SECOND FORM's CARD OF 'pouchlaw36.IndexDrops'. -/
def indexDropsUptoCard : Claim7 := { stood := { row := indexDropsUptoRow, standIns := [], harness := (true, "64436d45b139e9391b32871f5e76df434d5af7b821692a4528193c6b2d85adf9"), looks := false }, kinds := [], alts := [], laidByText := true, laidKinds := [.widerDeep, .widerDeep], laidTests := true, laidLooks := .later }
def IndexDropsUptoCardSaid : Prop := Claim7.holds Tryz.pinned (.plain (OpenSpec.upto indexDropsSpec)) indexDropsUptoCard

/-- THE SECOND FORM's CARD OF 'pouchlaw36.IndexCase'. -/
def indexCaseUptoCard : Claim7 := { stood := { row := indexCaseUptoRow, standIns := [], harness := (true, "64436d45b139e9391b32871f5e76df434d5af7b821692a4528193c6b2d85adf9"), looks := false }, kinds := [], alts := [], laidByText := true, laidKinds := [.widerDeep, .widerDeep], laidTests := true, laidLooks := .later }
def IndexCaseUptoCardSaid : Prop := Claim7.holds Tryz.pinned (.plain (OpenSpec.upto indexCaseSpec)) indexCaseUptoCard

/-- THE SECOND FORM's CARD OF 'pouchlaw36.IndexTells'. -/
def indexTellsUptoCard : Claim7 := { stood := { row := indexTellsUptoRow, standIns := [], harness := (true, "64436d45b139e9391b32871f5e76df434d5af7b821692a4528193c6b2d85adf9"), looks := false }, kinds := [], alts := [], laidByText := true, laidKinds := [.widerDeep, .widerDeep], laidTests := true, laidLooks := .later }
def IndexTellsUptoCardSaid : Prop := Claim7.holds Tryz.pinned (.plain (OpenSpec.upto indexTellsSpec)) indexTellsUptoCard

/-- THE SECOND FORM's CARD OF 'pouchlaw36.IndexScratch'. -/
def indexScratchUptoCard : Claim7 := { stood := { row := indexScratchUptoRow, standIns := [], harness := (true, "64436d45b139e9391b32871f5e76df434d5af7b821692a4528193c6b2d85adf9"), looks := false }, kinds := [], alts := [], laidByText := true, laidKinds := [.widerDeep, .widerDeep], laidTests := true, laidLooks := .later }
def IndexScratchUptoCardSaid : Prop := Claim7.holds Tryz.pinned (.plain (OpenSpec.upto indexScratchSpec)) indexScratchUptoCard

/-- THE SECOND FORM's CARD OF 'pouchlaw36.IndexSteps'. -/
def indexStepsUptoCard : Claim7 := { stood := { row := indexStepsUptoRow, standIns := [], harness := (true, "64436d45b139e9391b32871f5e76df434d5af7b821692a4528193c6b2d85adf9"), looks := false }, kinds := [], alts := [], laidByText := true, laidKinds := [.widerDeep, .widerDeep], laidTests := true, laidLooks := .later }
def IndexStepsUptoCardSaid : Prop := Claim7.holds Tryz.pinned (.plain (OpenSpec.upto indexStepsSpec)) indexStepsUptoCard

/-- THE SECOND FORM's CARD OF 'pouchlaw36.IndexOrder'. -/
def indexOrderUptoCard : Claim7 := { stood := { row := indexOrderUptoRow, standIns := [], harness := (true, "64436d45b139e9391b32871f5e76df434d5af7b821692a4528193c6b2d85adf9"), looks := false }, kinds := [], alts := [], laidByText := true, laidKinds := [.widerDeep, .widerDeep], laidTests := true, laidLooks := .later }
def IndexOrderUptoCardSaid : Prop := Claim7.holds Tryz.pinned (.plain (OpenSpec.upto indexOrderSpec)) indexOrderUptoCard

/-- THE SECOND FORM's CARD OF 'pouchlaw39.SnipFinds'. -/
def snipFindsUptoCard : Claim7 := { stood := { row := snipFindsUptoRow, standIns := [], harness := (true, "64436d45b139e9391b32871f5e76df434d5af7b821692a4528193c6b2d85adf9"), looks := false }, kinds := [], alts := [], laidByText := true, laidKinds := [.widerDeep, .widerDeep], laidTests := true, laidLooks := .later }
def SnipFindsUptoCardSaid : Prop := Claim7.holds Tryz.pinned (.plain (OpenSpec.upto snipFindsSpec)) snipFindsUptoCard
end Rows
end Go.Proofs.YtennokckmjcefaaGreatDoor
