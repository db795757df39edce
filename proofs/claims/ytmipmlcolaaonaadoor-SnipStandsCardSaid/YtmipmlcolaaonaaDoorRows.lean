/-
  NARROWER THAN 'FOR EVERY INPUT', by the rows' own cells (each row's printed sentence says how): CharsetTells: laid · CharsetRepairs: laid · CharsetDecodes: laid · CharsetParts: laid · CharsetBounds: laid · CutTells: laid · CutAgain: laid · CutLong: laid · CutCase: laid · CutPlaces: laid · CutBoth: laid · SnipTells: laid · SnipBest: laid · SnipLetters: laid · SnipStands: laid.
  DERIVED. THE GIVEN ROWS OF THIS SEAT. 15 by the template 'for every input the law returns true; each argument reads behind the call as it read before'; 0 by the template 'total and deterministic' (their statements: YtmipmlcolaaonaaDoorTotals.lean).
  GIVEN WITH THE SEED: the statements are not yours to turn. If you find one false, say at which input.
  Laid BY PROGRAM, IN A SANDBOX (cutbox-rows.mjs): the forced cells as the released guide's own fill.sh prints them over the translation 85f956be75493c7d… (all of the seat's roots in one cut). By AI agents, Wed Nov 11 2026. No macro, syntax, notation, axiom, sorry.
-/
import Derived.Test.YtmipmlcolaaonaaDoorChecked
import GoSem.PinnedTables
import GoSem.Claim
import GoSem.ClaimJoined
import GoSem.ClaimMapViews
import Derived.JoinedTies
import Derived.KernelRfl
namespace Go.Proofs.YtmipmlcolaaonaaDoor
/- THE CELL 'sum', in the pinned program and in every row, IS THE sha256 OF THE DUMP (.gsa) THAT YtmipmlcolaaonaaDoorProg.lean LOADS. Nothing in Lean hashes anything: it is a label: what it is worth is what the hold of that sum in a sandbox is worth. -/
noncomputable def Tryd.pinned : Pinned := { name := "ytmipmlcolaaonaadoor", sum := "85f956be75493c7d1560b4a9e51d66e34efb0a991d9bdec487f98855b61db642", checked := Tryd.checked }
namespace Rows
def none {H : Type} : Left H := { results := [], args := [] }

/- WHAT THE LISTED PACKAGE-LEVEL VARIABLES READ AS WHEN THE CALL BEGINS. Each datum BY PROGRAM (the guide's laid-datum.mjs) off the statement by which the dump's own 'gosem.cut.vars' lays the variable. In a bare row this is a premise. The card (YtmipmlcolaaonaaDoorCards.lean) ties it to the program's text. -/
def laid_unicode_utf8_acceptRanges {H : Type} : DataW H := .agg [.agg [.lit (.int .u8 128), .lit (.int .u8 191)], .agg [.lit (.int .u8 160), .lit (.int .u8 191)], .agg [.lit (.int .u8 128), .lit (.int .u8 159)], .agg [.lit (.int .u8 144), .lit (.int .u8 191)], .agg [.lit (.int .u8 128), .lit (.int .u8 143)], .agg [.lit (.int .u8 0), .lit (.int .u8 0)], .agg [.lit (.int .u8 0), .lit (.int .u8 0)], .agg [.lit (.int .u8 0), .lit (.int .u8 0)], .agg [.lit (.int .u8 0), .lit (.int .u8 0)], .agg [.lit (.int .u8 0), .lit (.int .u8 0)], .agg [.lit (.int .u8 0), .lit (.int .u8 0)], .agg [.lit (.int .u8 0), .lit (.int .u8 0)], .agg [.lit (.int .u8 0), .lit (.int .u8 0)], .agg [.lit (.int .u8 0), .lit (.int .u8 0)], .agg [.lit (.int .u8 0), .lit (.int .u8 0)], .agg [.lit (.int .u8 0), .lit (.int .u8 0)]]
/-- One of Go's own tables, pinned by name: the form's constant. -/
def laid_unicode_utf8_first : DataW Unit := Go.Pinned.utf8First
def laid_pouch_fold_spans {H : Type} : DataW H := .slice [.agg [.lit (.int .i32 65), .lit (.int .i32 90), .lit (.int .i32 1), .lit (.int .i32 32)], .agg [.lit (.int .i32 192), .lit (.int .i32 214), .lit (.int .i32 1), .lit (.int .i32 32)], .agg [.lit (.int .i32 216), .lit (.int .i32 222), .lit (.int .i32 1), .lit (.int .i32 32)], .agg [.lit (.int .i32 256), .lit (.int .i32 303), .lit (.int .i32 2), .lit (.int .i32 1)], .agg [.lit (.int .i32 306), .lit (.int .i32 311), .lit (.int .i32 2), .lit (.int .i32 1)], .agg [.lit (.int .i32 313), .lit (.int .i32 328), .lit (.int .i32 2), .lit (.int .i32 1)], .agg [.lit (.int .i32 330), .lit (.int .i32 375), .lit (.int .i32 2), .lit (.int .i32 1)], .agg [.lit (.int .i32 376), .lit (.int .i32 376), .lit (.int .i32 1), .lit (.int .i32 (-121))], .agg [.lit (.int .i32 377), .lit (.int .i32 382), .lit (.int .i32 2), .lit (.int .i32 1)], .agg [.lit (.int .i32 902), .lit (.int .i32 902), .lit (.int .i32 1), .lit (.int .i32 38)], .agg [.lit (.int .i32 904), .lit (.int .i32 906), .lit (.int .i32 1), .lit (.int .i32 37)], .agg [.lit (.int .i32 908), .lit (.int .i32 908), .lit (.int .i32 1), .lit (.int .i32 64)], .agg [.lit (.int .i32 910), .lit (.int .i32 911), .lit (.int .i32 1), .lit (.int .i32 63)], .agg [.lit (.int .i32 913), .lit (.int .i32 929), .lit (.int .i32 1), .lit (.int .i32 32)], .agg [.lit (.int .i32 931), .lit (.int .i32 939), .lit (.int .i32 1), .lit (.int .i32 32)], .agg [.lit (.int .i32 1024), .lit (.int .i32 1039), .lit (.int .i32 1), .lit (.int .i32 80)], .agg [.lit (.int .i32 1040), .lit (.int .i32 1071), .lit (.int .i32 1), .lit (.int .i32 32)]] []
def laid_pouch_cut_spans {H : Type} : DataW H := .slice [.agg [.lit (.int .i64 215), .lit (.int .i64 215), .lit (.int .i64 0)], .agg [.lit (.int .i64 247), .lit (.int .i64 247), .lit (.int .i64 0)], .agg [.lit (.int .i64 8192), .lit (.int .i64 11263), .lit (.int .i64 0)], .agg [.lit (.int .i64 11904), .lit (.int .i64 12255), .lit (.int .i64 2)], .agg [.lit (.int .i64 12288), .lit (.int .i64 12351), .lit (.int .i64 0)], .agg [.lit (.int .i64 12353), .lit (.int .i64 12543), .lit (.int .i64 2)], .agg [.lit (.int .i64 12549), .lit (.int .i64 12591), .lit (.int .i64 2)], .agg [.lit (.int .i64 12593), .lit (.int .i64 12686), .lit (.int .i64 2)], .agg [.lit (.int .i64 13312), .lit (.int .i64 19903), .lit (.int .i64 2)], .agg [.lit (.int .i64 19968), .lit (.int .i64 40959), .lit (.int .i64 2)], .agg [.lit (.int .i64 44032), .lit (.int .i64 55203), .lit (.int .i64 2)], .agg [.lit (.int .i64 55296), .lit (.int .i64 63743), .lit (.int .i64 0)], .agg [.lit (.int .i64 63744), .lit (.int .i64 64255), .lit (.int .i64 2)], .agg [.lit (.int .i64 65024), .lit (.int .i64 65039), .lit (.int .i64 0)], .agg [.lit (.int .i64 65072), .lit (.int .i64 65135), .lit (.int .i64 0)], .agg [.lit (.int .i64 65280), .lit (.int .i64 65295), .lit (.int .i64 0)], .agg [.lit (.int .i64 65520), .lit (.int .i64 65535), .lit (.int .i64 0)], .agg [.lit (.int .i64 126976), .lit (.int .i64 129791), .lit (.int .i64 0)], .agg [.lit (.int .i64 131072), .lit (.int .i64 262143), .lit (.int .i64 2)]] []

/-- 'pouchlaw04.CharsetTells': WHATEVER THE INPUT: true; the input reads as it did. -/
def charsetTellsSpec : ChangeSpec := { name := "charsetTells", fn := fun _ => fun
  | [d1, d2, d3] => { results := [.lit (.bool true)], args := [d1, d2, d3] }
  | _ => none }
def charsetTellsRow : OpenClaim := { program := "ytmipmlcolaaonaadoor", sum := "85f956be75493c7d1560b4a9e51d66e34efb0a991d9bdec487f98855b61db642", func := "pouch/pouchlaw04.CharsetTells", spec := "charsetTells", inPlace := ["internal/abi.NoEscape"], unfollowed := true, recurses := true, named := ["unicode/utf8.first", "unicode/utf8.acceptRanges"], apart := false, laid := [("unicode/utf8.acceptRanges", laid_unicode_utf8_acceptRanges), ("unicode/utf8.first", laid_unicode_utf8_first)] }
def CharsetTellsSaid : Prop := charsetTellsRow.holds Tryd.pinned (OpenSpec.ofChange charsetTellsSpec)

/-- ITS FALSE NEIGHBOUR: 'it returns false'. Refute it at one input. -/
def charsetTellsWrong : ChangeSpec := { name := "charsetTells", fn := fun _ => fun
  | [d1, d2, d3] => { results := [.lit (.bool false)], args := [d1, d2, d3] }
  | _ => none }
def CharsetTellsWrongFalsely : Prop := charsetTellsRow.holds Tryd.pinned (OpenSpec.ofChange charsetTellsWrong)

/-- 'pouchlaw04.CharsetRepairs': WHATEVER THE INPUT: true; the input reads as it did. -/
def charsetRepairsSpec : ChangeSpec := { name := "charsetRepairs", fn := fun _ => fun
  | [d] => { results := [.lit (.bool true)], args := [d] }
  | _ => none }
def charsetRepairsRow : OpenClaim := { program := "ytmipmlcolaaonaadoor", sum := "85f956be75493c7d1560b4a9e51d66e34efb0a991d9bdec487f98855b61db642", func := "pouch/pouchlaw04.CharsetRepairs", spec := "charsetRepairs", inPlace := ["internal/abi.NoEscape"], unfollowed := true, recurses := true, named := ["unicode/utf8.first", "unicode/utf8.acceptRanges"], apart := false, laid := [("unicode/utf8.acceptRanges", laid_unicode_utf8_acceptRanges), ("unicode/utf8.first", laid_unicode_utf8_first)] }
def CharsetRepairsSaid : Prop := charsetRepairsRow.holds Tryd.pinned (OpenSpec.ofChange charsetRepairsSpec)

/-- ITS FALSE NEIGHBOUR: 'it returns false'. Refute it at one input. -/
def charsetRepairsWrong : ChangeSpec := { name := "charsetRepairs", fn := fun _ => fun
  | [d] => { results := [.lit (.bool false)], args := [d] }
  | _ => none }
def CharsetRepairsWrongFalsely : Prop := charsetRepairsRow.holds Tryd.pinned (OpenSpec.ofChange charsetRepairsWrong)

/-- 'pouchlaw04.CharsetDecodes': WHATEVER THE INPUT: true; the input reads as it did. -/
def charsetDecodesSpec : ChangeSpec := { name := "charsetDecodes", fn := fun _ => fun
  | [d1, d2] => { results := [.lit (.bool true)], args := [d1, d2] }
  | _ => none }
def charsetDecodesRow : OpenClaim := { program := "ytmipmlcolaaonaadoor", sum := "85f956be75493c7d1560b4a9e51d66e34efb0a991d9bdec487f98855b61db642", func := "pouch/pouchlaw04.CharsetDecodes", spec := "charsetDecodes", inPlace := ["internal/abi.NoEscape"], unfollowed := true, recurses := true, named := ["unicode/utf8.first", "unicode/utf8.acceptRanges"], apart := false, laid := [("unicode/utf8.acceptRanges", laid_unicode_utf8_acceptRanges), ("unicode/utf8.first", laid_unicode_utf8_first)] }
def CharsetDecodesSaid : Prop := charsetDecodesRow.holds Tryd.pinned (OpenSpec.ofChange charsetDecodesSpec)

/-- ITS FALSE NEIGHBOUR: 'it returns false'. Refute it at one input. -/
def charsetDecodesWrong : ChangeSpec := { name := "charsetDecodes", fn := fun _ => fun
  | [d1, d2] => { results := [.lit (.bool false)], args := [d1, d2] }
  | _ => none }
def CharsetDecodesWrongFalsely : Prop := charsetDecodesRow.holds Tryd.pinned (OpenSpec.ofChange charsetDecodesWrong)

/-- 'pouchlaw04.CharsetParts': WHATEVER THE INPUT: true; the input reads as it did. -/
def charsetPartsSpec : ChangeSpec := { name := "charsetParts", fn := fun _ => fun
  | [d1, d2] => { results := [.lit (.bool true)], args := [d1, d2] }
  | _ => none }
def charsetPartsRow : OpenClaim := { program := "ytmipmlcolaaonaadoor", sum := "85f956be75493c7d1560b4a9e51d66e34efb0a991d9bdec487f98855b61db642", func := "pouch/pouchlaw04.CharsetParts", spec := "charsetParts", inPlace := ["internal/abi.NoEscape"], unfollowed := true, recurses := true, named := ["unicode/utf8.first", "unicode/utf8.acceptRanges"], apart := false, laid := [("unicode/utf8.acceptRanges", laid_unicode_utf8_acceptRanges), ("unicode/utf8.first", laid_unicode_utf8_first)] }
def CharsetPartsSaid : Prop := charsetPartsRow.holds Tryd.pinned (OpenSpec.ofChange charsetPartsSpec)

/-- ITS FALSE NEIGHBOUR: 'it returns false'. Refute it at one input. -/
def charsetPartsWrong : ChangeSpec := { name := "charsetParts", fn := fun _ => fun
  | [d1, d2] => { results := [.lit (.bool false)], args := [d1, d2] }
  | _ => none }
def CharsetPartsWrongFalsely : Prop := charsetPartsRow.holds Tryd.pinned (OpenSpec.ofChange charsetPartsWrong)

/-- 'pouchlaw04.CharsetBounds': WHATEVER THE INPUT: true; the input reads as it did. -/
def charsetBoundsSpec : ChangeSpec := { name := "charsetBounds", fn := fun _ => fun
  | [d] => { results := [.lit (.bool true)], args := [d] }
  | _ => none }
def charsetBoundsRow : OpenClaim := { program := "ytmipmlcolaaonaadoor", sum := "85f956be75493c7d1560b4a9e51d66e34efb0a991d9bdec487f98855b61db642", func := "pouch/pouchlaw04.CharsetBounds", spec := "charsetBounds", inPlace := ["internal/abi.NoEscape"], unfollowed := true, recurses := true, named := ["unicode/utf8.first", "unicode/utf8.acceptRanges"], apart := false, laid := [("unicode/utf8.acceptRanges", laid_unicode_utf8_acceptRanges), ("unicode/utf8.first", laid_unicode_utf8_first)] }
def CharsetBoundsSaid : Prop := charsetBoundsRow.holds Tryd.pinned (OpenSpec.ofChange charsetBoundsSpec)

/-- ITS FALSE NEIGHBOUR: 'it returns false'. Refute it at one input. -/
def charsetBoundsWrong : ChangeSpec := { name := "charsetBounds", fn := fun _ => fun
  | [d] => { results := [.lit (.bool false)], args := [d] }
  | _ => none }
def CharsetBoundsWrongFalsely : Prop := charsetBoundsRow.holds Tryd.pinned (OpenSpec.ofChange charsetBoundsWrong)

/-- 'pouchlaw32.CutTells': WHATEVER THE INPUT: true; the input reads as it did. -/
def cutTellsSpec : ChangeSpec := { name := "cutTells", fn := fun _ => fun
  | [d1, d2] => { results := [.lit (.bool true)], args := [d1, d2] }
  | _ => none }
def cutTellsRow : OpenClaim := { program := "ytmipmlcolaaonaadoor", sum := "85f956be75493c7d1560b4a9e51d66e34efb0a991d9bdec487f98855b61db642", func := "pouch/pouchlaw32.CutTells", spec := "cutTells", inPlace := ["internal/abi.NoEscape"], unfollowed := true, recurses := true, named := ["pouch/fold.spans", "pouch/cut.spans"], apart := false, laid := [("pouch/fold.spans", laid_pouch_fold_spans), ("pouch/cut.spans", laid_pouch_cut_spans)] }
def CutTellsSaid : Prop := cutTellsRow.holds Tryd.pinned (OpenSpec.ofChange cutTellsSpec)

/-- ITS FALSE NEIGHBOUR: 'it returns false'. Refute it at one input. -/
def cutTellsWrong : ChangeSpec := { name := "cutTells", fn := fun _ => fun
  | [d1, d2] => { results := [.lit (.bool false)], args := [d1, d2] }
  | _ => none }
def CutTellsWrongFalsely : Prop := cutTellsRow.holds Tryd.pinned (OpenSpec.ofChange cutTellsWrong)

/-- 'pouchlaw32.CutAgain': WHATEVER THE INPUT: true; the input reads as it did. -/
def cutAgainSpec : ChangeSpec := { name := "cutAgain", fn := fun _ => fun
  | [d] => { results := [.lit (.bool true)], args := [d] }
  | _ => none }
def cutAgainRow : OpenClaim := { program := "ytmipmlcolaaonaadoor", sum := "85f956be75493c7d1560b4a9e51d66e34efb0a991d9bdec487f98855b61db642", func := "pouch/pouchlaw32.CutAgain", spec := "cutAgain", inPlace := ["internal/abi.NoEscape"], unfollowed := true, recurses := true, named := ["pouch/fold.spans", "pouch/cut.spans"], apart := false, laid := [("pouch/fold.spans", laid_pouch_fold_spans), ("pouch/cut.spans", laid_pouch_cut_spans)] }
def CutAgainSaid : Prop := cutAgainRow.holds Tryd.pinned (OpenSpec.ofChange cutAgainSpec)

/-- ITS FALSE NEIGHBOUR: 'it returns false'. Refute it at one input. -/
def cutAgainWrong : ChangeSpec := { name := "cutAgain", fn := fun _ => fun
  | [d] => { results := [.lit (.bool false)], args := [d] }
  | _ => none }
def CutAgainWrongFalsely : Prop := cutAgainRow.holds Tryd.pinned (OpenSpec.ofChange cutAgainWrong)

/-- 'pouchlaw32.CutLong': WHATEVER THE INPUT: true; the input reads as it did. -/
def cutLongSpec : ChangeSpec := { name := "cutLong", fn := fun _ => fun
  | [d1, d2] => { results := [.lit (.bool true)], args := [d1, d2] }
  | _ => none }
def cutLongRow : OpenClaim := { program := "ytmipmlcolaaonaadoor", sum := "85f956be75493c7d1560b4a9e51d66e34efb0a991d9bdec487f98855b61db642", func := "pouch/pouchlaw32.CutLong", spec := "cutLong", inPlace := ["internal/abi.NoEscape"], unfollowed := true, recurses := true, named := ["pouch/fold.spans", "pouch/cut.spans"], apart := false, laid := [("pouch/fold.spans", laid_pouch_fold_spans), ("pouch/cut.spans", laid_pouch_cut_spans)] }
def CutLongSaid : Prop := cutLongRow.holds Tryd.pinned (OpenSpec.ofChange cutLongSpec)

/-- ITS FALSE NEIGHBOUR: 'it returns false'. Refute it at one input. -/
def cutLongWrong : ChangeSpec := { name := "cutLong", fn := fun _ => fun
  | [d1, d2] => { results := [.lit (.bool false)], args := [d1, d2] }
  | _ => none }
def CutLongWrongFalsely : Prop := cutLongRow.holds Tryd.pinned (OpenSpec.ofChange cutLongWrong)

/-- 'pouchlaw32.CutCase': WHATEVER THE INPUT: true; the input reads as it did. -/
def cutCaseSpec : ChangeSpec := { name := "cutCase", fn := fun _ => fun
  | [d1, d2] => { results := [.lit (.bool true)], args := [d1, d2] }
  | _ => none }
def cutCaseRow : OpenClaim := { program := "ytmipmlcolaaonaadoor", sum := "85f956be75493c7d1560b4a9e51d66e34efb0a991d9bdec487f98855b61db642", func := "pouch/pouchlaw32.CutCase", spec := "cutCase", inPlace := ["internal/abi.NoEscape"], unfollowed := true, recurses := true, named := ["pouch/fold.spans", "pouch/cut.spans"], apart := false, laid := [("pouch/fold.spans", laid_pouch_fold_spans), ("pouch/cut.spans", laid_pouch_cut_spans)] }
def CutCaseSaid : Prop := cutCaseRow.holds Tryd.pinned (OpenSpec.ofChange cutCaseSpec)

/-- ITS FALSE NEIGHBOUR: 'it returns false'. Refute it at one input. -/
def cutCaseWrong : ChangeSpec := { name := "cutCase", fn := fun _ => fun
  | [d1, d2] => { results := [.lit (.bool false)], args := [d1, d2] }
  | _ => none }
def CutCaseWrongFalsely : Prop := cutCaseRow.holds Tryd.pinned (OpenSpec.ofChange cutCaseWrong)

/-- 'pouchlaw32.CutPlaces': WHATEVER THE INPUT: true; the input reads as it did. -/
def cutPlacesSpec : ChangeSpec := { name := "cutPlaces", fn := fun _ => fun
  | [d] => { results := [.lit (.bool true)], args := [d] }
  | _ => none }
def cutPlacesRow : OpenClaim := { program := "ytmipmlcolaaonaadoor", sum := "85f956be75493c7d1560b4a9e51d66e34efb0a991d9bdec487f98855b61db642", func := "pouch/pouchlaw32.CutPlaces", spec := "cutPlaces", inPlace := ["internal/abi.NoEscape"], unfollowed := true, recurses := true, named := ["pouch/fold.spans", "pouch/cut.spans", "unicode/utf8.first", "unicode/utf8.acceptRanges"], apart := false, laid := [("unicode/utf8.acceptRanges", laid_unicode_utf8_acceptRanges), ("pouch/fold.spans", laid_pouch_fold_spans), ("pouch/cut.spans", laid_pouch_cut_spans), ("unicode/utf8.first", laid_unicode_utf8_first)] }
def CutPlacesSaid : Prop := cutPlacesRow.holds Tryd.pinned (OpenSpec.ofChange cutPlacesSpec)

/-- ITS FALSE NEIGHBOUR: 'it returns false'. Refute it at one input. -/
def cutPlacesWrong : ChangeSpec := { name := "cutPlaces", fn := fun _ => fun
  | [d] => { results := [.lit (.bool false)], args := [d] }
  | _ => none }
def CutPlacesWrongFalsely : Prop := cutPlacesRow.holds Tryd.pinned (OpenSpec.ofChange cutPlacesWrong)

/-- 'pouchlaw32.CutBoth': WHATEVER THE INPUT: true; the input reads as it did. -/
def cutBothSpec : ChangeSpec := { name := "cutBoth", fn := fun _ => fun
  | [d1, d2, d3] => { results := [.lit (.bool true)], args := [d1, d2, d3] }
  | _ => none }
def cutBothRow : OpenClaim := { program := "ytmipmlcolaaonaadoor", sum := "85f956be75493c7d1560b4a9e51d66e34efb0a991d9bdec487f98855b61db642", func := "pouch/pouchlaw32.CutBoth", spec := "cutBoth", inPlace := ["internal/abi.NoEscape"], unfollowed := true, recurses := true, named := ["pouch/fold.spans", "pouch/cut.spans", "unicode/utf8.first", "unicode/utf8.acceptRanges"], apart := false, laid := [("unicode/utf8.acceptRanges", laid_unicode_utf8_acceptRanges), ("pouch/fold.spans", laid_pouch_fold_spans), ("pouch/cut.spans", laid_pouch_cut_spans), ("unicode/utf8.first", laid_unicode_utf8_first)] }
def CutBothSaid : Prop := cutBothRow.holds Tryd.pinned (OpenSpec.ofChange cutBothSpec)

/-- ITS FALSE NEIGHBOUR: 'it returns false'. Refute it at one input. -/
def cutBothWrong : ChangeSpec := { name := "cutBoth", fn := fun _ => fun
  | [d1, d2, d3] => { results := [.lit (.bool false)], args := [d1, d2, d3] }
  | _ => none }
def CutBothWrongFalsely : Prop := cutBothRow.holds Tryd.pinned (OpenSpec.ofChange cutBothWrong)

/-- 'pouchlaw39.SnipTells': WHATEVER THE INPUT: true; the input reads as it did. -/
def snipTellsSpec : ChangeSpec := { name := "snipTells", fn := fun _ => fun
  | [d1, d2, d3] => { results := [.lit (.bool true)], args := [d1, d2, d3] }
  | _ => none }
def snipTellsRow : OpenClaim := { program := "ytmipmlcolaaonaadoor", sum := "85f956be75493c7d1560b4a9e51d66e34efb0a991d9bdec487f98855b61db642", func := "pouch/pouchlaw39.SnipTells", spec := "snipTells", inPlace := ["internal/abi.NoEscape"], unfollowed := true, recurses := true, named := ["pouch/fold.spans", "pouch/cut.spans"], apart := false, laid := [("pouch/fold.spans", laid_pouch_fold_spans), ("pouch/cut.spans", laid_pouch_cut_spans)] }
def SnipTellsSaid : Prop := snipTellsRow.holds Tryd.pinned (OpenSpec.ofChange snipTellsSpec)

/-- ITS FALSE NEIGHBOUR: 'it returns false'. Refute it at one input. -/
def snipTellsWrong : ChangeSpec := { name := "snipTells", fn := fun _ => fun
  | [d1, d2, d3] => { results := [.lit (.bool false)], args := [d1, d2, d3] }
  | _ => none }
def SnipTellsWrongFalsely : Prop := snipTellsRow.holds Tryd.pinned (OpenSpec.ofChange snipTellsWrong)

/-- 'pouchlaw39.SnipBest': WHATEVER THE INPUT: true; the input reads as it did. -/
def snipBestSpec : ChangeSpec := { name := "snipBest", fn := fun _ => fun
  | [d1, d2, d3, d4, d5] => { results := [.lit (.bool true)], args := [d1, d2, d3, d4, d5] }
  | _ => none }
def snipBestRow : OpenClaim := { program := "ytmipmlcolaaonaadoor", sum := "85f956be75493c7d1560b4a9e51d66e34efb0a991d9bdec487f98855b61db642", func := "pouch/pouchlaw39.SnipBest", spec := "snipBest", inPlace := ["internal/abi.NoEscape"], unfollowed := true, recurses := true, named := ["pouch/fold.spans", "pouch/cut.spans"], apart := false, laid := [("pouch/fold.spans", laid_pouch_fold_spans), ("pouch/cut.spans", laid_pouch_cut_spans)] }
def SnipBestSaid : Prop := snipBestRow.holds Tryd.pinned (OpenSpec.ofChange snipBestSpec)

/-- ITS FALSE NEIGHBOUR: 'it returns false'. Refute it at one input. -/
def snipBestWrong : ChangeSpec := { name := "snipBest", fn := fun _ => fun
  | [d1, d2, d3, d4, d5] => { results := [.lit (.bool false)], args := [d1, d2, d3, d4, d5] }
  | _ => none }
def SnipBestWrongFalsely : Prop := snipBestRow.holds Tryd.pinned (OpenSpec.ofChange snipBestWrong)

/-- 'pouchlaw39.SnipLetters': WHATEVER THE INPUT: true; the input reads as it did. -/
def snipLettersSpec : ChangeSpec := { name := "snipLetters", fn := fun _ => fun
  | [d1, d2, d3] => { results := [.lit (.bool true)], args := [d1, d2, d3] }
  | _ => none }
def snipLettersRow : OpenClaim := { program := "ytmipmlcolaaonaadoor", sum := "85f956be75493c7d1560b4a9e51d66e34efb0a991d9bdec487f98855b61db642", func := "pouch/pouchlaw39.SnipLetters", spec := "snipLetters", inPlace := ["internal/abi.NoEscape"], unfollowed := true, recurses := true, named := ["pouch/fold.spans", "pouch/cut.spans"], apart := false, laid := [("pouch/fold.spans", laid_pouch_fold_spans), ("pouch/cut.spans", laid_pouch_cut_spans)] }
def SnipLettersSaid : Prop := snipLettersRow.holds Tryd.pinned (OpenSpec.ofChange snipLettersSpec)

/-- ITS FALSE NEIGHBOUR: 'it returns false'. Refute it at one input. -/
def snipLettersWrong : ChangeSpec := { name := "snipLetters", fn := fun _ => fun
  | [d1, d2, d3] => { results := [.lit (.bool false)], args := [d1, d2, d3] }
  | _ => none }
def SnipLettersWrongFalsely : Prop := snipLettersRow.holds Tryd.pinned (OpenSpec.ofChange snipLettersWrong)

/-- 'pouchlaw39.SnipStands': WHATEVER THE INPUT: true; the input reads as it did. -/
def snipStandsSpec : ChangeSpec := { name := "snipStands", fn := fun _ => fun
  | [d1, d2, d3] => { results := [.lit (.bool true)], args := [d1, d2, d3] }
  | _ => none }
def snipStandsRow : OpenClaim := { program := "ytmipmlcolaaonaadoor", sum := "85f956be75493c7d1560b4a9e51d66e34efb0a991d9bdec487f98855b61db642", func := "pouch/pouchlaw39.SnipStands", spec := "snipStands", inPlace := ["internal/abi.NoEscape"], unfollowed := true, recurses := true, named := ["pouch/fold.spans", "pouch/cut.spans", "unicode/utf8.first", "unicode/utf8.acceptRanges"], apart := false, laid := [("unicode/utf8.acceptRanges", laid_unicode_utf8_acceptRanges), ("pouch/fold.spans", laid_pouch_fold_spans), ("pouch/cut.spans", laid_pouch_cut_spans), ("unicode/utf8.first", laid_unicode_utf8_first)] }
def SnipStandsSaid : Prop := snipStandsRow.holds Tryd.pinned (OpenSpec.ofChange snipStandsSpec)

/-- ITS FALSE NEIGHBOUR: 'it returns false'. Refute it at one input. -/
def snipStandsWrong : ChangeSpec := { name := "snipStands", fn := fun _ => fun
  | [d1, d2, d3] => { results := [.lit (.bool false)], args := [d1, d2, d3] }
  | _ => none }
def SnipStandsWrongFalsely : Prop := snipStandsRow.holds Tryd.pinned (OpenSpec.ofChange snipStandsWrong)

/- THE SECOND FORM. 'bulk': how many values and letters a reading holds, each counted each time it is reached (what is shared counts as often as it is met; a slice's spare places count too). A statement '..UptoSaid' is the law's where the arguments, and the package variables that the reading takes, are together of bulk at most 1048576: NARROWER than '..Said'. Prove '..Said' where nothing that the law and all that it calls make is longer than what came in: it says more and counts as full. Else prove '..UptoSaid'. A law counts once. -/
mutual
def uptoBulk {H : Type} : DataW H → Nat
  | .lit (.string bytes) => bytes.length + 1
  | .lit _ => 1
  | .nil => 1
  | .ptr d => uptoBulk d + 1
  | .slice elems spare => uptoBulkAll elems + uptoBulkAll spare + 1
  | .agg parts => uptoBulkAll parts + 1
  | .iface _ d => uptoBulk d + 1
  | .map entries => uptoBulkEntries entries + 1
  | .held _ => 1
def uptoBulkAll {H : Type} : List (DataW H) → Nat
  | [] => 0
  | d :: r => uptoBulk d + uptoBulkAll r
def uptoBulkEntries {H : Type} : List (Lit × DataW H) → Nat
  | [] => 0
  | x :: r => uptoBulkEntry x + uptoBulkEntries r
def uptoBulkEntry {H : Type} : Lit × DataW H → Nat
  | (.string bytes, d) => bytes.length + uptoBulk d + 1
  | (_, d) => uptoBulk d + 1
 end
def uptoSmall : (H : Type) → List (DataW H) → Bool := fun _ ds => decide (uptoBulkAll ds ≤ 1048576)
def OpenSpec.upto (s : _root_.Go.ChangeSpec) : _root_.Go.OpenSpec := { _root_.Go.OpenSpec.ofChange s with cond := some uptoSmall }

/-- 'pouchlaw04.CharsetTells', WHERE WHAT IT READS IS OF BULK AT MOST 1048576: true; the input reads as it did. -/
def charsetTellsUptoRow : OpenClaim := { program := "ytmipmlcolaaonaadoor", sum := "85f956be75493c7d1560b4a9e51d66e34efb0a991d9bdec487f98855b61db642", func := "pouch/pouchlaw04.CharsetTells", spec := "charsetTells", inPlace := ["internal/abi.NoEscape"], unfollowed := true, recurses := true, named := ["unicode/utf8.first", "unicode/utf8.acceptRanges"], apart := false, laid := [("unicode/utf8.acceptRanges", laid_unicode_utf8_acceptRanges), ("unicode/utf8.first", laid_unicode_utf8_first)], narrowed := true }
def CharsetTellsUptoSaid : Prop := charsetTellsUptoRow.holds Tryd.pinned (OpenSpec.upto charsetTellsSpec)

/-- 'pouchlaw04.CharsetRepairs', WHERE WHAT IT READS IS OF BULK AT MOST 1048576: true; the input reads as it did. -/
def charsetRepairsUptoRow : OpenClaim := { program := "ytmipmlcolaaonaadoor", sum := "85f956be75493c7d1560b4a9e51d66e34efb0a991d9bdec487f98855b61db642", func := "pouch/pouchlaw04.CharsetRepairs", spec := "charsetRepairs", inPlace := ["internal/abi.NoEscape"], unfollowed := true, recurses := true, named := ["unicode/utf8.first", "unicode/utf8.acceptRanges"], apart := false, laid := [("unicode/utf8.acceptRanges", laid_unicode_utf8_acceptRanges), ("unicode/utf8.first", laid_unicode_utf8_first)], narrowed := true }
def CharsetRepairsUptoSaid : Prop := charsetRepairsUptoRow.holds Tryd.pinned (OpenSpec.upto charsetRepairsSpec)

/-- 'pouchlaw04.CharsetDecodes', WHERE WHAT IT READS IS OF BULK AT MOST 1048576: true; the input reads as it did. -/
def charsetDecodesUptoRow : OpenClaim := { program := "ytmipmlcolaaonaadoor", sum := "85f956be75493c7d1560b4a9e51d66e34efb0a991d9bdec487f98855b61db642", func := "pouch/pouchlaw04.CharsetDecodes", spec := "charsetDecodes", inPlace := ["internal/abi.NoEscape"], unfollowed := true, recurses := true, named := ["unicode/utf8.first", "unicode/utf8.acceptRanges"], apart := false, laid := [("unicode/utf8.acceptRanges", laid_unicode_utf8_acceptRanges), ("unicode/utf8.first", laid_unicode_utf8_first)], narrowed := true }
def CharsetDecodesUptoSaid : Prop := charsetDecodesUptoRow.holds Tryd.pinned (OpenSpec.upto charsetDecodesSpec)

/-- 'pouchlaw04.CharsetParts', WHERE WHAT IT READS IS OF BULK AT MOST 1048576: true; the input reads as it did. -/
def charsetPartsUptoRow : OpenClaim := { program := "ytmipmlcolaaonaadoor", sum := "85f956be75493c7d1560b4a9e51d66e34efb0a991d9bdec487f98855b61db642", func := "pouch/pouchlaw04.CharsetParts", spec := "charsetParts", inPlace := ["internal/abi.NoEscape"], unfollowed := true, recurses := true, named := ["unicode/utf8.first", "unicode/utf8.acceptRanges"], apart := false, laid := [("unicode/utf8.acceptRanges", laid_unicode_utf8_acceptRanges), ("unicode/utf8.first", laid_unicode_utf8_first)], narrowed := true }
def CharsetPartsUptoSaid : Prop := charsetPartsUptoRow.holds Tryd.pinned (OpenSpec.upto charsetPartsSpec)

/-- 'pouchlaw04.CharsetBounds', WHERE WHAT IT READS IS OF BULK AT MOST 1048576: true; the input reads as it did. -/
def charsetBoundsUptoRow : OpenClaim := { program := "ytmipmlcolaaonaadoor", sum := "85f956be75493c7d1560b4a9e51d66e34efb0a991d9bdec487f98855b61db642", func := "pouch/pouchlaw04.CharsetBounds", spec := "charsetBounds", inPlace := ["internal/abi.NoEscape"], unfollowed := true, recurses := true, named := ["unicode/utf8.first", "unicode/utf8.acceptRanges"], apart := false, laid := [("unicode/utf8.acceptRanges", laid_unicode_utf8_acceptRanges), ("unicode/utf8.first", laid_unicode_utf8_first)], narrowed := true }
def CharsetBoundsUptoSaid : Prop := charsetBoundsUptoRow.holds Tryd.pinned (OpenSpec.upto charsetBoundsSpec)

/-- 'pouchlaw32.CutTells', WHERE WHAT IT READS IS OF BULK AT MOST 1048576: true; the input reads as it did. -/
def cutTellsUptoRow : OpenClaim := { program := "ytmipmlcolaaonaadoor", sum := "85f956be75493c7d1560b4a9e51d66e34efb0a991d9bdec487f98855b61db642", func := "pouch/pouchlaw32.CutTells", spec := "cutTells", inPlace := ["internal/abi.NoEscape"], unfollowed := true, recurses := true, named := ["pouch/fold.spans", "pouch/cut.spans"], apart := false, laid := [("pouch/fold.spans", laid_pouch_fold_spans), ("pouch/cut.spans", laid_pouch_cut_spans)], narrowed := true }
def CutTellsUptoSaid : Prop := cutTellsUptoRow.holds Tryd.pinned (OpenSpec.upto cutTellsSpec)

/-- 'pouchlaw32.CutAgain', WHERE WHAT IT READS IS OF BULK AT MOST 1048576: true; the input reads as it did. -/
def cutAgainUptoRow : OpenClaim := { program := "ytmipmlcolaaonaadoor", sum := "85f956be75493c7d1560b4a9e51d66e34efb0a991d9bdec487f98855b61db642", func := "pouch/pouchlaw32.CutAgain", spec := "cutAgain", inPlace := ["internal/abi.NoEscape"], unfollowed := true, recurses := true, named := ["pouch/fold.spans", "pouch/cut.spans"], apart := false, laid := [("pouch/fold.spans", laid_pouch_fold_spans), ("pouch/cut.spans", laid_pouch_cut_spans)], narrowed := true }
def CutAgainUptoSaid : Prop := cutAgainUptoRow.holds Tryd.pinned (OpenSpec.upto cutAgainSpec)

/-- 'pouchlaw32.CutLong', WHERE WHAT IT READS IS OF BULK AT MOST 1048576: true; the input reads as it did. -/
def cutLongUptoRow : OpenClaim := { program := "ytmipmlcolaaonaadoor", sum := "85f956be75493c7d1560b4a9e51d66e34efb0a991d9bdec487f98855b61db642", func := "pouch/pouchlaw32.CutLong", spec := "cutLong", inPlace := ["internal/abi.NoEscape"], unfollowed := true, recurses := true, named := ["pouch/fold.spans", "pouch/cut.spans"], apart := false, laid := [("pouch/fold.spans", laid_pouch_fold_spans), ("pouch/cut.spans", laid_pouch_cut_spans)], narrowed := true }
def CutLongUptoSaid : Prop := cutLongUptoRow.holds Tryd.pinned (OpenSpec.upto cutLongSpec)

/-- 'pouchlaw32.CutCase', WHERE WHAT IT READS IS OF BULK AT MOST 1048576: true; the input reads as it did. -/
def cutCaseUptoRow : OpenClaim := { program := "ytmipmlcolaaonaadoor", sum := "85f956be75493c7d1560b4a9e51d66e34efb0a991d9bdec487f98855b61db642", func := "pouch/pouchlaw32.CutCase", spec := "cutCase", inPlace := ["internal/abi.NoEscape"], unfollowed := true, recurses := true, named := ["pouch/fold.spans", "pouch/cut.spans"], apart := false, laid := [("pouch/fold.spans", laid_pouch_fold_spans), ("pouch/cut.spans", laid_pouch_cut_spans)], narrowed := true }
def CutCaseUptoSaid : Prop := cutCaseUptoRow.holds Tryd.pinned (OpenSpec.upto cutCaseSpec)

/-- 'pouchlaw32.CutPlaces', WHERE WHAT IT READS IS OF BULK AT MOST 1048576: true; the input reads as it did. -/
def cutPlacesUptoRow : OpenClaim := { program := "ytmipmlcolaaonaadoor", sum := "85f956be75493c7d1560b4a9e51d66e34efb0a991d9bdec487f98855b61db642", func := "pouch/pouchlaw32.CutPlaces", spec := "cutPlaces", inPlace := ["internal/abi.NoEscape"], unfollowed := true, recurses := true, named := ["pouch/fold.spans", "pouch/cut.spans", "unicode/utf8.first", "unicode/utf8.acceptRanges"], apart := false, laid := [("unicode/utf8.acceptRanges", laid_unicode_utf8_acceptRanges), ("pouch/fold.spans", laid_pouch_fold_spans), ("pouch/cut.spans", laid_pouch_cut_spans), ("unicode/utf8.first", laid_unicode_utf8_first)], narrowed := true }
def CutPlacesUptoSaid : Prop := cutPlacesUptoRow.holds Tryd.pinned (OpenSpec.upto cutPlacesSpec)

/-- 'pouchlaw32.CutBoth', WHERE WHAT IT READS IS OF BULK AT MOST 1048576: true; the input reads as it did. -/
def cutBothUptoRow : OpenClaim := { program := "ytmipmlcolaaonaadoor", sum := "85f956be75493c7d1560b4a9e51d66e34efb0a991d9bdec487f98855b61db642", func := "pouch/pouchlaw32.CutBoth", spec := "cutBoth", inPlace := ["internal/abi.NoEscape"], unfollowed := true, recurses := true, named := ["pouch/fold.spans", "pouch/cut.spans", "unicode/utf8.first", "unicode/utf8.acceptRanges"], apart := false, laid := [("unicode/utf8.acceptRanges", laid_unicode_utf8_acceptRanges), ("pouch/fold.spans", laid_pouch_fold_spans), ("pouch/cut.spans", laid_pouch_cut_spans), ("unicode/utf8.first", laid_unicode_utf8_first)], narrowed := true }
def CutBothUptoSaid : Prop := cutBothUptoRow.holds Tryd.pinned (OpenSpec.upto cutBothSpec)

/-- 'pouchlaw39.SnipTells', WHERE WHAT IT READS IS OF BULK AT MOST 1048576: true; the input reads as it did. -/
def snipTellsUptoRow : OpenClaim := { program := "ytmipmlcolaaonaadoor", sum := "85f956be75493c7d1560b4a9e51d66e34efb0a991d9bdec487f98855b61db642", func := "pouch/pouchlaw39.SnipTells", spec := "snipTells", inPlace := ["internal/abi.NoEscape"], unfollowed := true, recurses := true, named := ["pouch/fold.spans", "pouch/cut.spans"], apart := false, laid := [("pouch/fold.spans", laid_pouch_fold_spans), ("pouch/cut.spans", laid_pouch_cut_spans)], narrowed := true }
def SnipTellsUptoSaid : Prop := snipTellsUptoRow.holds Tryd.pinned (OpenSpec.upto snipTellsSpec)

/-- 'pouchlaw39.SnipBest', WHERE WHAT IT READS IS OF BULK AT MOST 1048576: true; the input reads as it did. -/
def snipBestUptoRow : OpenClaim := { program := "ytmipmlcolaaonaadoor", sum := "85f956be75493c7d1560b4a9e51d66e34efb0a991d9bdec487f98855b61db642", func := "pouch/pouchlaw39.SnipBest", spec := "snipBest", inPlace := ["internal/abi.NoEscape"], unfollowed := true, recurses := true, named := ["pouch/fold.spans", "pouch/cut.spans"], apart := false, laid := [("pouch/fold.spans", laid_pouch_fold_spans), ("pouch/cut.spans", laid_pouch_cut_spans)], narrowed := true }
def SnipBestUptoSaid : Prop := snipBestUptoRow.holds Tryd.pinned (OpenSpec.upto snipBestSpec)

/-- 'pouchlaw39.SnipLetters', WHERE WHAT IT READS IS OF BULK AT MOST 1048576: true; the input reads as it did. -/
def snipLettersUptoRow : OpenClaim := { program := "ytmipmlcolaaonaadoor", sum := "85f956be75493c7d1560b4a9e51d66e34efb0a991d9bdec487f98855b61db642", func := "pouch/pouchlaw39.SnipLetters", spec := "snipLetters", inPlace := ["internal/abi.NoEscape"], unfollowed := true, recurses := true, named := ["pouch/fold.spans", "pouch/cut.spans"], apart := false, laid := [("pouch/fold.spans", laid_pouch_fold_spans), ("pouch/cut.spans", laid_pouch_cut_spans)], narrowed := true }
def SnipLettersUptoSaid : Prop := snipLettersUptoRow.holds Tryd.pinned (OpenSpec.upto snipLettersSpec)

/-- 'pouchlaw39.SnipStands', WHERE WHAT IT READS IS OF BULK AT MOST 1048576: true; the input reads as it did. -/
def snipStandsUptoRow : OpenClaim := { program := "ytmipmlcolaaonaadoor", sum := "85f956be75493c7d1560b4a9e51d66e34efb0a991d9bdec487f98855b61db642", func := "pouch/pouchlaw39.SnipStands", spec := "snipStands", inPlace := ["internal/abi.NoEscape"], unfollowed := true, recurses := true, named := ["pouch/fold.spans", "pouch/cut.spans", "unicode/utf8.first", "unicode/utf8.acceptRanges"], apart := false, laid := [("unicode/utf8.acceptRanges", laid_unicode_utf8_acceptRanges), ("pouch/fold.spans", laid_pouch_fold_spans), ("pouch/cut.spans", laid_pouch_cut_spans), ("unicode/utf8.first", laid_unicode_utf8_first)], narrowed := true }
def SnipStandsUptoSaid : Prop := snipStandsUptoRow.holds Tryd.pinned (OpenSpec.upto snipStandsSpec)

end Rows
end Go.Proofs.YtmipmlcolaaonaaDoor
