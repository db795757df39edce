/-
  DERIVED. GIVEN WITH THE SEED: THE CARDS: each row of YtmipmlcolaaonaaDoorRows.lean that lists a variable, with what it lists TIED to the program's text (the seventh form; the later family's looks); each row that meets fmt, with fmt's text TOLD by the authors' own Lean function (tested against real Go, not proved from fmt's source: count such statements apart). THE CARD IS WHAT COUNTS. Prove the row's statement (the work); the ties are given (YtmipmlcolaaonaaDoorTie.lean); close each card by the builder's one call (the guide's Derived/Test/ToyasCard.lean, 'card_holds'). Laid BY PROGRAM, IN A SANDBOX (cutbox-door.mjs). By AI agents, Wed Nov 11 2026. No macro, syntax, notation, axiom, sorry.
-/
import Derived.Test.YtmipmlcolaaonaaDoorRows
import GoSem.ClaimSeven
namespace Go.Proofs.YtmipmlcolaaonaaDoor
namespace Rows

/-- THE TIED CARD OF 'pouchlaw04.CharsetTells'. -/
def charsetTellsCard : Claim7 := { stood := { row := charsetTellsRow, standIns := [], harness := (true, "13d25e02d4c2314c8a41f2152ee884769eb2f2bfb59dc1eb7eec220a1707c2bb"), looks := false }, kinds := [], alts := [], laidByText := true, laidKinds := [.data, .pinned], laidTests := true, laidLooks := .later }
def CharsetTellsCardSaid : Prop := Claim7.holds Tryd.pinned (.plain (OpenSpec.ofChange charsetTellsSpec)) charsetTellsCard

/-- THE TIED CARD OF 'pouchlaw04.CharsetRepairs'. -/
def charsetRepairsCard : Claim7 := { stood := { row := charsetRepairsRow, standIns := [], harness := (true, "13d25e02d4c2314c8a41f2152ee884769eb2f2bfb59dc1eb7eec220a1707c2bb"), looks := false }, kinds := [], alts := [], laidByText := true, laidKinds := [.data, .pinned], laidTests := true, laidLooks := .later }
def CharsetRepairsCardSaid : Prop := Claim7.holds Tryd.pinned (.plain (OpenSpec.ofChange charsetRepairsSpec)) charsetRepairsCard

/-- THE TIED CARD OF 'pouchlaw04.CharsetDecodes'. -/
def charsetDecodesCard : Claim7 := { stood := { row := charsetDecodesRow, standIns := [], harness := (true, "13d25e02d4c2314c8a41f2152ee884769eb2f2bfb59dc1eb7eec220a1707c2bb"), looks := false }, kinds := [], alts := [], laidByText := true, laidKinds := [.data, .pinned], laidTests := true, laidLooks := .later }
def CharsetDecodesCardSaid : Prop := Claim7.holds Tryd.pinned (.plain (OpenSpec.ofChange charsetDecodesSpec)) charsetDecodesCard

/-- THE TIED CARD OF 'pouchlaw04.CharsetParts'. -/
def charsetPartsCard : Claim7 := { stood := { row := charsetPartsRow, standIns := [], harness := (true, "13d25e02d4c2314c8a41f2152ee884769eb2f2bfb59dc1eb7eec220a1707c2bb"), looks := false }, kinds := [], alts := [], laidByText := true, laidKinds := [.data, .pinned], laidTests := true, laidLooks := .later }
def CharsetPartsCardSaid : Prop := Claim7.holds Tryd.pinned (.plain (OpenSpec.ofChange charsetPartsSpec)) charsetPartsCard

/-- THE TIED CARD OF 'pouchlaw04.CharsetBounds'. -/
def charsetBoundsCard : Claim7 := { stood := { row := charsetBoundsRow, standIns := [], harness := (true, "13d25e02d4c2314c8a41f2152ee884769eb2f2bfb59dc1eb7eec220a1707c2bb"), looks := false }, kinds := [], alts := [], laidByText := true, laidKinds := [.data, .pinned], laidTests := true, laidLooks := .later }
def CharsetBoundsCardSaid : Prop := Claim7.holds Tryd.pinned (.plain (OpenSpec.ofChange charsetBoundsSpec)) charsetBoundsCard

/-- THE TIED CARD OF 'pouchlaw32.CutTells'. -/
def cutTellsCard : Claim7 := { stood := { row := cutTellsRow, standIns := [], harness := (true, "13d25e02d4c2314c8a41f2152ee884769eb2f2bfb59dc1eb7eec220a1707c2bb"), looks := false }, kinds := [], alts := [], laidByText := true, laidKinds := [.widerDeep, .widerDeep], laidTests := true, laidLooks := .later }
def CutTellsCardSaid : Prop := Claim7.holds Tryd.pinned (.plain (OpenSpec.ofChange cutTellsSpec)) cutTellsCard

/-- THE TIED CARD OF 'pouchlaw32.CutAgain'. -/
def cutAgainCard : Claim7 := { stood := { row := cutAgainRow, standIns := [], harness := (true, "13d25e02d4c2314c8a41f2152ee884769eb2f2bfb59dc1eb7eec220a1707c2bb"), looks := false }, kinds := [], alts := [], laidByText := true, laidKinds := [.widerDeep, .widerDeep], laidTests := true, laidLooks := .later }
def CutAgainCardSaid : Prop := Claim7.holds Tryd.pinned (.plain (OpenSpec.ofChange cutAgainSpec)) cutAgainCard

/-- THE TIED CARD OF 'pouchlaw32.CutLong'. -/
def cutLongCard : Claim7 := { stood := { row := cutLongRow, standIns := [], harness := (true, "13d25e02d4c2314c8a41f2152ee884769eb2f2bfb59dc1eb7eec220a1707c2bb"), looks := false }, kinds := [], alts := [], laidByText := true, laidKinds := [.widerDeep, .widerDeep], laidTests := true, laidLooks := .later }
def CutLongCardSaid : Prop := Claim7.holds Tryd.pinned (.plain (OpenSpec.ofChange cutLongSpec)) cutLongCard

/-- THE TIED CARD OF 'pouchlaw32.CutCase'. -/
def cutCaseCard : Claim7 := { stood := { row := cutCaseRow, standIns := [], harness := (true, "13d25e02d4c2314c8a41f2152ee884769eb2f2bfb59dc1eb7eec220a1707c2bb"), looks := false }, kinds := [], alts := [], laidByText := true, laidKinds := [.widerDeep, .widerDeep], laidTests := true, laidLooks := .later }
def CutCaseCardSaid : Prop := Claim7.holds Tryd.pinned (.plain (OpenSpec.ofChange cutCaseSpec)) cutCaseCard

/-- THE TIED CARD OF 'pouchlaw32.CutPlaces'. -/
def cutPlacesCard : Claim7 := { stood := { row := cutPlacesRow, standIns := [], harness := (true, "13d25e02d4c2314c8a41f2152ee884769eb2f2bfb59dc1eb7eec220a1707c2bb"), looks := false }, kinds := [], alts := [], laidByText := true, laidKinds := [.data, .widerDeep, .widerDeep, .pinned], laidTests := true, laidLooks := .later }
def CutPlacesCardSaid : Prop := Claim7.holds Tryd.pinned (.plain (OpenSpec.ofChange cutPlacesSpec)) cutPlacesCard

/-- THE TIED CARD OF 'pouchlaw32.CutBoth'. -/
def cutBothCard : Claim7 := { stood := { row := cutBothRow, standIns := [], harness := (true, "13d25e02d4c2314c8a41f2152ee884769eb2f2bfb59dc1eb7eec220a1707c2bb"), looks := false }, kinds := [], alts := [], laidByText := true, laidKinds := [.data, .widerDeep, .widerDeep, .pinned], laidTests := true, laidLooks := .later }
def CutBothCardSaid : Prop := Claim7.holds Tryd.pinned (.plain (OpenSpec.ofChange cutBothSpec)) cutBothCard

/-- THE TIED CARD OF 'pouchlaw39.SnipTells'. -/
def snipTellsCard : Claim7 := { stood := { row := snipTellsRow, standIns := [], harness := (true, "13d25e02d4c2314c8a41f2152ee884769eb2f2bfb59dc1eb7eec220a1707c2bb"), looks := false }, kinds := [], alts := [], laidByText := true, laidKinds := [.widerDeep, .widerDeep], laidTests := true, laidLooks := .later }
def SnipTellsCardSaid : Prop := Claim7.holds Tryd.pinned (.plain (OpenSpec.ofChange snipTellsSpec)) snipTellsCard

/-- THE TIED CARD OF 'pouchlaw39.SnipBest'. -/
def snipBestCard : Claim7 := { stood := { row := snipBestRow, standIns := [], harness := (true, "13d25e02d4c2314c8a41f2152ee884769eb2f2bfb59dc1eb7eec220a1707c2bb"), looks := false }, kinds := [], alts := [], laidByText := true, laidKinds := [.widerDeep, .widerDeep], laidTests := true, laidLooks := .later }
def SnipBestCardSaid : Prop := Claim7.holds Tryd.pinned (.plain (OpenSpec.ofChange snipBestSpec)) snipBestCard

/-- THE TIED CARD OF 'pouchlaw39.SnipLetters'. -/
def snipLettersCard : Claim7 := { stood := { row := snipLettersRow, standIns := [], harness := (true, "13d25e02d4c2314c8a41f2152ee884769eb2f2bfb59dc1eb7eec220a1707c2bb"), looks := false }, kinds := [], alts := [], laidByText := true, laidKinds := [.widerDeep, .widerDeep], laidTests := true, laidLooks := .later }
def SnipLettersCardSaid : Prop := Claim7.holds Tryd.pinned (.plain (OpenSpec.ofChange snipLettersSpec)) snipLettersCard

/-- THE TIED CARD OF 'pouchlaw39.SnipStands'. -/
def snipStandsCard : Claim7 := { stood := { row := snipStandsRow, standIns := [], harness := (true, "13d25e02d4c2314c8a41f2152ee884769eb2f2bfb59dc1eb7eec220a1707c2bb"), looks := false }, kinds := [], alts := [], laidByText := true, laidKinds := [.data, .widerDeep, .widerDeep, .pinned], laidTests := true, laidLooks := .later }
def SnipStandsCardSaid : Prop := Claim7.holds Tryd.pinned (.plain (OpenSpec.ofChange snipStandsSpec)) snipStandsCard

/-- THE SECOND FORM's CARD OF 'pouchlaw04.CharsetTells'. -/
def charsetTellsUptoCard : Claim7 := { stood := { row := charsetTellsUptoRow, standIns := [], harness := (true, "13d25e02d4c2314c8a41f2152ee884769eb2f2bfb59dc1eb7eec220a1707c2bb"), looks := false }, kinds := [], alts := [], laidByText := true, laidKinds := [.data, .pinned], laidTests := true, laidLooks := .later }
def CharsetTellsUptoCardSaid : Prop := Claim7.holds Tryd.pinned (.plain (OpenSpec.upto charsetTellsSpec)) charsetTellsUptoCard

/-- THE SECOND FORM's CARD OF 'pouchlaw04.CharsetRepairs'. -/
def charsetRepairsUptoCard : Claim7 := { stood := { row := charsetRepairsUptoRow, standIns := [], harness := (true, "13d25e02d4c2314c8a41f2152ee884769eb2f2bfb59dc1eb7eec220a1707c2bb"), looks := false }, kinds := [], alts := [], laidByText := true, laidKinds := [.data, .pinned], laidTests := true, laidLooks := .later }
def CharsetRepairsUptoCardSaid : Prop := Claim7.holds Tryd.pinned (.plain (OpenSpec.upto charsetRepairsSpec)) charsetRepairsUptoCard

/-- THE SECOND FORM's CARD OF 'pouchlaw04.CharsetDecodes'. -/
def charsetDecodesUptoCard : Claim7 := { stood := { row := charsetDecodesUptoRow, standIns := [], harness := (true, "13d25e02d4c2314c8a41f2152ee884769eb2f2bfb59dc1eb7eec220a1707c2bb"), looks := false }, kinds := [], alts := [], laidByText := true, laidKinds := [.data, .pinned], laidTests := true, laidLooks := .later }
def CharsetDecodesUptoCardSaid : Prop := Claim7.holds Tryd.pinned (.plain (OpenSpec.upto charsetDecodesSpec)) charsetDecodesUptoCard

/-- THE SECOND FORM's CARD OF 'pouchlaw04.CharsetParts'. -/
def charsetPartsUptoCard : Claim7 := { stood := { row := charsetPartsUptoRow, standIns := [], harness := (true, "13d25e02d4c2314c8a41f2152ee884769eb2f2bfb59dc1eb7eec220a1707c2bb"), looks := false }, kinds := [], alts := [], laidByText := true, laidKinds := [.data, .pinned], laidTests := true, laidLooks := .later }
def CharsetPartsUptoCardSaid : Prop := Claim7.holds Tryd.pinned (.plain (OpenSpec.upto charsetPartsSpec)) charsetPartsUptoCard

/-- THE SECOND FORM's CARD OF 'pouchlaw04.CharsetBounds'. -/
def charsetBoundsUptoCard : Claim7 := { stood := { row := charsetBoundsUptoRow, standIns := [], harness := (true, "13d25e02d4c2314c8a41f2152ee884769eb2f2bfb59dc1eb7eec220a1707c2bb"), looks := false }, kinds := [], alts := [], laidByText := true, laidKinds := [.data, .pinned], laidTests := true, laidLooks := .later }
def CharsetBoundsUptoCardSaid : Prop := Claim7.holds Tryd.pinned (.plain (OpenSpec.upto charsetBoundsSpec)) charsetBoundsUptoCard

/-- THE SECOND FORM's CARD OF 'pouchlaw32.CutTells'. -/
def cutTellsUptoCard : Claim7 := { stood := { row := cutTellsUptoRow, standIns := [], harness := (true, "13d25e02d4c2314c8a41f2152ee884769eb2f2bfb59dc1eb7eec220a1707c2bb"), looks := false }, kinds := [], alts := [], laidByText := true, laidKinds := [.widerDeep, .widerDeep], laidTests := true, laidLooks := .later }
def CutTellsUptoCardSaid : Prop := Claim7.holds Tryd.pinned (.plain (OpenSpec.upto cutTellsSpec)) cutTellsUptoCard

/-- THE SECOND FORM's CARD OF 'pouchlaw32.CutAgain'. -/
def cutAgainUptoCard : Claim7 := { stood := { row := cutAgainUptoRow, standIns := [], harness := (true, "13d25e02d4c2314c8a41f2152ee884769eb2f2bfb59dc1eb7eec220a1707c2bb"), looks := false }, kinds := [], alts := [], laidByText := true, laidKinds := [.widerDeep, .widerDeep], laidTests := true, laidLooks := .later }
def CutAgainUptoCardSaid : Prop := Claim7.holds Tryd.pinned (.plain (OpenSpec.upto cutAgainSpec)) cutAgainUptoCard

/-- THE SECOND FORM's CARD OF 'pouchlaw32.CutLong'. -/
def cutLongUptoCard : Claim7 := { stood := { row := cutLongUptoRow, standIns := [], harness := (true, "13d25e02d4c2314c8a41f2152ee884769eb2f2bfb59dc1eb7eec220a1707c2bb"), looks := false }, kinds := [], alts := [], laidByText := true, laidKinds := [.widerDeep, .widerDeep], laidTests := true, laidLooks := .later }
def CutLongUptoCardSaid : Prop := Claim7.holds Tryd.pinned (.plain (OpenSpec.upto cutLongSpec)) cutLongUptoCard

/-- THE SECOND FORM's CARD OF 'pouchlaw32.CutCase'. -/
def cutCaseUptoCard : Claim7 := { stood := { row := cutCaseUptoRow, standIns := [], harness := (true, "13d25e02d4c2314c8a41f2152ee884769eb2f2bfb59dc1eb7eec220a1707c2bb"), looks := false }, kinds := [], alts := [], laidByText := true, laidKinds := [.widerDeep, .widerDeep], laidTests := true, laidLooks := .later }
def CutCaseUptoCardSaid : Prop := Claim7.holds Tryd.pinned (.plain (OpenSpec.upto cutCaseSpec)) cutCaseUptoCard

/-- THE SECOND FORM's CARD OF 'pouchlaw32.CutPlaces'. -/
def cutPlacesUptoCard : Claim7 := { stood := { row := cutPlacesUptoRow, standIns := [], harness := (true, "13d25e02d4c2314c8a41f2152ee884769eb2f2bfb59dc1eb7eec220a1707c2bb"), looks := false }, kinds := [], alts := [], laidByText := true, laidKinds := [.data, .widerDeep, .widerDeep, .pinned], laidTests := true, laidLooks := .later }
def CutPlacesUptoCardSaid : Prop := Claim7.holds Tryd.pinned (.plain (OpenSpec.upto cutPlacesSpec)) cutPlacesUptoCard

/-- THE SECOND FORM's CARD OF 'pouchlaw32.CutBoth'. -/
def cutBothUptoCard : Claim7 := { stood := { row := cutBothUptoRow, standIns := [], harness := (true, "13d25e02d4c2314c8a41f2152ee884769eb2f2bfb59dc1eb7eec220a1707c2bb"), looks := false }, kinds := [], alts := [], laidByText := true, laidKinds := [.data, .widerDeep, .widerDeep, .pinned], laidTests := true, laidLooks := .later }
def CutBothUptoCardSaid : Prop := Claim7.holds Tryd.pinned (.plain (OpenSpec.upto cutBothSpec)) cutBothUptoCard

/-- THE SECOND FORM's CARD OF 'pouchlaw39.SnipTells'. -/
def snipTellsUptoCard : Claim7 := { stood := { row := snipTellsUptoRow, standIns := [], harness := (true, "13d25e02d4c2314c8a41f2152ee884769eb2f2bfb59dc1eb7eec220a1707c2bb"), looks := false }, kinds := [], alts := [], laidByText := true, laidKinds := [.widerDeep, .widerDeep], laidTests := true, laidLooks := .later }
def SnipTellsUptoCardSaid : Prop := Claim7.holds Tryd.pinned (.plain (OpenSpec.upto snipTellsSpec)) snipTellsUptoCard

/-- THE SECOND FORM's CARD OF 'pouchlaw39.SnipBest'. -/
def snipBestUptoCard : Claim7 := { stood := { row := snipBestUptoRow, standIns := [], harness := (true, "13d25e02d4c2314c8a41f2152ee884769eb2f2bfb59dc1eb7eec220a1707c2bb"), looks := false }, kinds := [], alts := [], laidByText := true, laidKinds := [.widerDeep, .widerDeep], laidTests := true, laidLooks := .later }
def SnipBestUptoCardSaid : Prop := Claim7.holds Tryd.pinned (.plain (OpenSpec.upto snipBestSpec)) snipBestUptoCard

/-- THE SECOND FORM's CARD OF 'pouchlaw39.SnipLetters'. -/
def snipLettersUptoCard : Claim7 := { stood := { row := snipLettersUptoRow, standIns := [], harness := (true, "13d25e02d4c2314c8a41f2152ee884769eb2f2bfb59dc1eb7eec220a1707c2bb"), looks := false }, kinds := [], alts := [], laidByText := true, laidKinds := [.widerDeep, .widerDeep], laidTests := true, laidLooks := .later }
def SnipLettersUptoCardSaid : Prop := Claim7.holds Tryd.pinned (.plain (OpenSpec.upto snipLettersSpec)) snipLettersUptoCard

/-- THE SECOND FORM's CARD OF 'pouchlaw39.SnipStands'. -/
def snipStandsUptoCard : Claim7 := { stood := { row := snipStandsUptoRow, standIns := [], harness := (true, "13d25e02d4c2314c8a41f2152ee884769eb2f2bfb59dc1eb7eec220a1707c2bb"), looks := false }, kinds := [], alts := [], laidByText := true, laidKinds := [.data, .widerDeep, .widerDeep, .pinned], laidTests := true, laidLooks := .later }
def SnipStandsUptoCardSaid : Prop := Claim7.holds Tryd.pinned (.plain (OpenSpec.upto snipStandsSpec)) snipStandsUptoCard
end Rows
end Go.Proofs.YtmipmlcolaaonaaDoor
