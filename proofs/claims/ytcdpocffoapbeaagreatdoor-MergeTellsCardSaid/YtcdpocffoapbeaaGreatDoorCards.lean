/-
  DERIVED. GIVEN WITH THE SEED: THE CARDS: each row of YtcdpocffoapbeaaGreatDoorRows.lean that lists a variable, with what it lists TIED to the program's text (the seventh form; the later family's looks); each row that meets fmt, with fmt's text TOLD by the authors' own Lean function (tested against real Go, not proved from fmt's source: count such statements apart). THE CARD IS WHAT COUNTS. Prove the row's statement (the work); the ties are given (YtcdpocffoapbeaaGreatDoorTie.lean); close each card by the builder's one call (the guide's Derived/Test/ToyasCard.lean, 'card_holds'). Laid BY PROGRAM, IN A SANDBOX (cutbox-door.mjs). By AI agents, Wed Nov 11 2026. No macro, syntax, notation, axiom, sorry.
-/
import Derived.Test.YtcdpocffoapbeaaGreatDoorRows
import GoSem.ClaimSeven
namespace Go.Proofs.YtcdpocffoapbeaaGreatDoor
namespace Rows

/-- THE TIED CARD OF 'pouchlaw35.MergeTells'. -/
def mergeTellsCard : Claim7 := { stood := { row := mergeTellsRow, standIns := [], harness := (true, "ef678e858267e033d4ba1f94570293c281ffa316e3557d1c7654863a957e6371"), looks := false }, kinds := [], alts := [], laidByText := true, laidKinds := [.widerDeep, .widerDeep], laidTests := true, laidLooks := .later }
def MergeTellsCardSaid : Prop := Claim7.holds Tryz.pinned (.plain (OpenSpec.ofChange mergeTellsSpec)) mergeTellsCard

/-- THE TIED CARD OF 'pouchlaw35.MergePicks'. -/
def mergePicksCard : Claim7 := { stood := { row := mergePicksRow, standIns := [], harness := (true, "ef678e858267e033d4ba1f94570293c281ffa316e3557d1c7654863a957e6371"), looks := false }, kinds := [], alts := [], laidByText := true, laidKinds := [.widerDeep, .widerDeep], laidTests := true, laidLooks := .later }
def MergePicksCardSaid : Prop := Claim7.holds Tryz.pinned (.plain (OpenSpec.ofChange mergePicksSpec)) mergePicksCard

/-- THE TIED CARD OF 'pouchlaw35.MergeBuilt'. -/
def mergeBuiltCard : Claim7 := { stood := { row := mergeBuiltRow, standIns := [], harness := (true, "ef678e858267e033d4ba1f94570293c281ffa316e3557d1c7654863a957e6371"), looks := false }, kinds := [], alts := [], laidByText := true, laidKinds := [.widerDeep, .widerDeep], laidTests := true, laidLooks := .later }
def MergeBuiltCardSaid : Prop := Claim7.holds Tryz.pinned (.plain (OpenSpec.ofChange mergeBuiltSpec)) mergeBuiltCard

/-- THE TIED CARD OF 'pouchlaw35.MergeRows'. -/
def mergeRowsCard : Claim7 := { stood := { row := mergeRowsRow, standIns := [], harness := (true, "ef678e858267e033d4ba1f94570293c281ffa316e3557d1c7654863a957e6371"), looks := false }, kinds := [], alts := [], laidByText := true, laidKinds := [.widerDeep, .widerDeep], laidTests := true, laidLooks := .later }
def MergeRowsCardSaid : Prop := Claim7.holds Tryz.pinned (.plain (OpenSpec.ofChange mergeRowsSpec)) mergeRowsCard

/-- THE TIED CARD OF 'pouchlaw35.MergeLooks'. -/
def mergeLooksCard : Claim7 := { stood := { row := mergeLooksRow, standIns := [], harness := (true, "ef678e858267e033d4ba1f94570293c281ffa316e3557d1c7654863a957e6371"), looks := false }, kinds := [], alts := [], laidByText := true, laidKinds := [.widerDeep, .widerDeep], laidTests := true, laidLooks := .later }
def MergeLooksCardSaid : Prop := Claim7.holds Tryz.pinned (.plain (OpenSpec.ofChange mergeLooksSpec)) mergeLooksCard

/-- THE SECOND FORM's CARD OF 'pouchlaw35.MergeTells'. -/
def mergeTellsUptoCard : Claim7 := { stood := { row := mergeTellsUptoRow, standIns := [], harness := (true, "ef678e858267e033d4ba1f94570293c281ffa316e3557d1c7654863a957e6371"), looks := false }, kinds := [], alts := [], laidByText := true, laidKinds := [.widerDeep, .widerDeep], laidTests := true, laidLooks := .later }
def MergeTellsUptoCardSaid : Prop := Claim7.holds Tryz.pinned (.plain (OpenSpec.upto mergeTellsSpec)) mergeTellsUptoCard

/-- THE SECOND FORM's CARD OF 'pouchlaw35.MergePicks'. -/
def mergePicksUptoCard : Claim7 := { stood := { row := mergePicksUptoRow, standIns := [], harness := (true, "ef678e858267e033d4ba1f94570293c281ffa316e3557d1c7654863a957e6371"), looks := false }, kinds := [], alts := [], laidByText := true, laidKinds := [.widerDeep, .widerDeep], laidTests := true, laidLooks := .later }
def MergePicksUptoCardSaid : Prop := Claim7.holds Tryz.pinned (.plain (OpenSpec.upto mergePicksSpec)) mergePicksUptoCard

/-- THE SECOND FORM's CARD OF 'pouchlaw35.MergeBuilt'. -/
def mergeBuiltUptoCard : Claim7 := { stood := { row := mergeBuiltUptoRow, standIns := [], harness := (true, "ef678e858267e033d4ba1f94570293c281ffa316e3557d1c7654863a957e6371"), looks := false }, kinds := [], alts := [], laidByText := true, laidKinds := [.widerDeep, .widerDeep], laidTests := true, laidLooks := .later }
def MergeBuiltUptoCardSaid : Prop := Claim7.holds Tryz.pinned (.plain (OpenSpec.upto mergeBuiltSpec)) mergeBuiltUptoCard

/-- THE SECOND FORM's CARD OF 'pouchlaw35.MergeRows'. -/
def mergeRowsUptoCard : Claim7 := { stood := { row := mergeRowsUptoRow, standIns := [], harness := (true, "ef678e858267e033d4ba1f94570293c281ffa316e3557d1c7654863a957e6371"), looks := false }, kinds := [], alts := [], laidByText := true, laidKinds := [.widerDeep, .widerDeep], laidTests := true, laidLooks := .later }
def MergeRowsUptoCardSaid : Prop := Claim7.holds Tryz.pinned (.plain (OpenSpec.upto mergeRowsSpec)) mergeRowsUptoCard

/-- THE SECOND FORM's CARD OF 'pouchlaw35.MergeLooks'. -/
def mergeLooksUptoCard : Claim7 := { stood := { row := mergeLooksUptoRow, standIns := [], harness := (true, "ef678e858267e033d4ba1f94570293c281ffa316e3557d1c7654863a957e6371"), looks := false }, kinds := [], alts := [], laidByText := true, laidKinds := [.widerDeep, .widerDeep], laidTests := true, laidLooks := .later }
def MergeLooksUptoCardSaid : Prop := Claim7.holds Tryz.pinned (.plain (OpenSpec.upto mergeLooksSpec)) mergeLooksUptoCard
end Rows
end Go.Proofs.YtcdpocffoapbeaaGreatDoor
