/-
  DERIVED. GIVEN WITH THE SEED: THE CARDS: each row of YtmjeacpoobbjjaaGreatDoorRows.lean that lists a variable, with what it lists TIED to the program's text (the seventh form; the later family's looks); each row that meets fmt, with fmt's text TOLD by the authors' own Lean function (tested against real Go, not proved from fmt's source: count such statements apart). THE CARD IS WHAT COUNTS. Prove the row's statement (the work); the ties are given (YtmjeacpoobbjjaaGreatDoorTie.lean); close each card by the builder's one call (the guide's Derived/Test/ToyasCard.lean, 'card_holds'). Laid BY PROGRAM, IN A SANDBOX (cutbox-door.mjs). By AI agents, Wed Nov 11 2026. No macro, syntax, notation, axiom, sorry.
-/
import Derived.Test.YtmjeacpoobbjjaaGreatDoorRows
import GoSem.ClaimSeven
namespace Go.Proofs.YtmjeacpoobbjjaaGreatDoor
namespace Rows

/-- THE TIED CARD OF 'pouchlaw14.MimeTells'. -/
def mimeTellsCard : Claim7 := { stood := { row := mimeTellsRow, standIns := [], harness := (true, "fba3a51264b7db96ef474202e13b11e1a26ca51072eae1272945332287d79f14"), looks := true }, kinds := [], alts := [], laidByText := true, laidKinds := [.data, .data, .data, .data, .sentinel, .sentinel, .pinned], laidTests := true, laidLooks := .later }
def MimeTellsCardSaid : Prop := Claim7.holds Tryz.pinned (.plain (OpenSpec.ofChange mimeTellsSpec)) mimeTellsCard

/-- THE TIED CARD OF 'pouchlaw14.MimeNests'. -/
def mimeNestsCard : Claim7 := { stood := { row := mimeNestsRow, standIns := [], harness := (true, "fba3a51264b7db96ef474202e13b11e1a26ca51072eae1272945332287d79f14"), looks := true }, kinds := [], alts := [], laidByText := true, laidKinds := [.data, .data, .data, .data, .sentinel, .sentinel, .pinned], laidTests := true, laidLooks := .later }
def MimeNestsCardSaid : Prop := Claim7.holds Tryz.pinned (.plain (OpenSpec.ofChange mimeNestsSpec)) mimeNestsCard

/-- THE TIED CARD OF 'pouchlaw14.MimeBuilt'. -/
def mimeBuiltCard : Claim7 := { stood := { row := mimeBuiltRow, standIns := [], harness := (true, "fba3a51264b7db96ef474202e13b11e1a26ca51072eae1272945332287d79f14"), looks := true }, kinds := [], alts := [], laidByText := true, laidKinds := [.data, .data, .data, .data, .sentinel, .sentinel, .pinned], laidTests := true, laidLooks := .later }
def MimeBuiltCardSaid : Prop := Claim7.holds Tryz.pinned (.plain (OpenSpec.ofChange mimeBuiltSpec)) mimeBuiltCard

/-- THE TIED CARD OF 'pouchlaw14.MimeWithin'. -/
def mimeWithinCard : Claim7 := { stood := { row := mimeWithinRow, standIns := [], harness := (true, "fba3a51264b7db96ef474202e13b11e1a26ca51072eae1272945332287d79f14"), looks := true }, kinds := [], alts := [], laidByText := true, laidKinds := [.data, .data, .data, .data, .sentinel, .sentinel, .pinned], laidTests := true, laidLooks := .later }
def MimeWithinCardSaid : Prop := Claim7.holds Tryz.pinned (.plain (OpenSpec.ofChange mimeWithinSpec)) mimeWithinCard

/-- THE TIED CARD OF 'pouchlaw14.MimePlain'. -/
def mimePlainCard : Claim7 := { stood := { row := mimePlainRow, standIns := [], harness := (true, "fba3a51264b7db96ef474202e13b11e1a26ca51072eae1272945332287d79f14"), looks := true }, kinds := [], alts := [], laidByText := true, laidKinds := [.data, .data, .data, .data, .sentinel, .sentinel, .pinned], laidTests := true, laidLooks := .later }
def MimePlainCardSaid : Prop := Claim7.holds Tryz.pinned (.plain (OpenSpec.ofChange mimePlainSpec)) mimePlainCard

/-- THE TIED CARD OF 'pouchlaw14.MimeDeep'. -/
def mimeDeepCard : Claim7 := { stood := { row := mimeDeepRow, standIns := [], harness := (true, "fba3a51264b7db96ef474202e13b11e1a26ca51072eae1272945332287d79f14"), looks := true }, kinds := [], alts := [], laidByText := true, laidKinds := [.data, .data, .data, .data, .sentinel, .sentinel, .pinned], laidTests := true, laidLooks := .later }
def MimeDeepCardSaid : Prop := Claim7.holds Tryz.pinned (.plain (OpenSpec.ofChange mimeDeepSpec)) mimeDeepCard

/-- THE SECOND FORM's CARD OF 'pouchlaw14.MimeTells'. -/
def mimeTellsUptoCard : Claim7 := { stood := { row := mimeTellsUptoRow, standIns := [], harness := (true, "fba3a51264b7db96ef474202e13b11e1a26ca51072eae1272945332287d79f14"), looks := true }, kinds := [], alts := [], laidByText := true, laidKinds := [.data, .data, .data, .data, .sentinel, .sentinel, .pinned], laidTests := true, laidLooks := .later }
def MimeTellsUptoCardSaid : Prop := Claim7.holds Tryz.pinned (.plain (OpenSpec.upto mimeTellsSpec)) mimeTellsUptoCard

/-- THE SECOND FORM's CARD OF 'pouchlaw14.MimeNests'. -/
def mimeNestsUptoCard : Claim7 := { stood := { row := mimeNestsUptoRow, standIns := [], harness := (true, "fba3a51264b7db96ef474202e13b11e1a26ca51072eae1272945332287d79f14"), looks := true }, kinds := [], alts := [], laidByText := true, laidKinds := [.data, .data, .data, .data, .sentinel, .sentinel, .pinned], laidTests := true, laidLooks := .later }
def MimeNestsUptoCardSaid : Prop := Claim7.holds Tryz.pinned (.plain (OpenSpec.upto mimeNestsSpec)) mimeNestsUptoCard

/-- THE SECOND FORM's CARD OF 'pouchlaw14.MimeBuilt'. -/
def mimeBuiltUptoCard : Claim7 := { stood := { row := mimeBuiltUptoRow, standIns := [], harness := (true, "fba3a51264b7db96ef474202e13b11e1a26ca51072eae1272945332287d79f14"), looks := true }, kinds := [], alts := [], laidByText := true, laidKinds := [.data, .data, .data, .data, .sentinel, .sentinel, .pinned], laidTests := true, laidLooks := .later }
def MimeBuiltUptoCardSaid : Prop := Claim7.holds Tryz.pinned (.plain (OpenSpec.upto mimeBuiltSpec)) mimeBuiltUptoCard

/-- THE SECOND FORM's CARD OF 'pouchlaw14.MimeWithin'. -/
def mimeWithinUptoCard : Claim7 := { stood := { row := mimeWithinUptoRow, standIns := [], harness := (true, "fba3a51264b7db96ef474202e13b11e1a26ca51072eae1272945332287d79f14"), looks := true }, kinds := [], alts := [], laidByText := true, laidKinds := [.data, .data, .data, .data, .sentinel, .sentinel, .pinned], laidTests := true, laidLooks := .later }
def MimeWithinUptoCardSaid : Prop := Claim7.holds Tryz.pinned (.plain (OpenSpec.upto mimeWithinSpec)) mimeWithinUptoCard

/-- THE SECOND FORM's CARD OF 'pouchlaw14.MimePlain'. -/
def mimePlainUptoCard : Claim7 := { stood := { row := mimePlainUptoRow, standIns := [], harness := (true, "fba3a51264b7db96ef474202e13b11e1a26ca51072eae1272945332287d79f14"), looks := true }, kinds := [], alts := [], laidByText := true, laidKinds := [.data, .data, .data, .data, .sentinel, .sentinel, .pinned], laidTests := true, laidLooks := .later }
def MimePlainUptoCardSaid : Prop := Claim7.holds Tryz.pinned (.plain (OpenSpec.upto mimePlainSpec)) mimePlainUptoCard

/-- THE SECOND FORM's CARD OF 'pouchlaw14.MimeDeep'. -/
def mimeDeepUptoCard : Claim7 := { stood := { row := mimeDeepUptoRow, standIns := [], harness := (true, "fba3a51264b7db96ef474202e13b11e1a26ca51072eae1272945332287d79f14"), looks := true }, kinds := [], alts := [], laidByText := true, laidKinds := [.data, .data, .data, .data, .sentinel, .sentinel, .pinned], laidTests := true, laidLooks := .later }
def MimeDeepUptoCardSaid : Prop := Claim7.holds Tryz.pinned (.plain (OpenSpec.upto mimeDeepSpec)) mimeDeepUptoCard
end Rows
end Go.Proofs.YtmjeacpoobbjjaaGreatDoor
