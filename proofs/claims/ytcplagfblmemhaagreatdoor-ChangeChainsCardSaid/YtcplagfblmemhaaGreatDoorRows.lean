/-
  NARROWER THAN 'FOR EVERY INPUT', by the rows' own cells (each row's printed sentence says how): ChangeBoxes: laid · ChangeChains: laid · ChangeFollows: laid.
  DERIVED. THE GIVEN ROWS OF THIS SEAT. 3 by the template 'for every input the law returns true; each argument reads behind the call as it read before'; 0 by the template 'total and deterministic' (their statements: YtcplagfblmemhaaGreatDoorTotals.lean).
  GIVEN WITH THE SEED: the statements are not yours to turn. If you find one false, say at which input.
  Laid BY PROGRAM, IN A SANDBOX (cutbox-rows.mjs): the forced cells as the released guide's own fill.sh prints them over the translation 15438d31d7c013ed… (all of the seat's roots in one cut). By AI agents, Wed Nov 11 2026. No macro, syntax, notation, axiom, sorry.
-/
import Derived.Test.YtcplagfblmemhaaGreatDoorChecked
import GoSem.PinnedTables
import GoSem.Claim
import GoSem.ClaimJoined
import GoSem.ClaimMapViews
import Derived.JoinedTies
import Derived.KernelRfl
namespace Go.Proofs.YtcplagfblmemhaaGreatDoor
/- THE CELL 'sum', in the pinned program and in every row, IS THE sha256 OF THE DUMP (.gsa) THAT YtcplagfblmemhaaGreatDoorProg.lean LOADS. Nothing in Lean hashes anything: it is a label: what it is worth is what the hold of that sum in a sandbox is worth. -/
noncomputable def Tryz.pinned : Pinned := { name := "ytcplagfblmemhaagreatdoor", sum := "15438d31d7c013ed432456d656f740e91c1129e27ae5d04e00f980a6aa8812fc", checked := Tryz.checked }
namespace Rows
def none {H : Type} : Left H := { results := [], args := [] }

/- WHAT THE LISTED PACKAGE-LEVEL VARIABLES READ AS WHEN THE CALL BEGINS. Each datum BY PROGRAM (the guide's laid-datum.mjs) off the statement by which the dump's own 'gosem.cut.vars' lays the variable. In a bare row this is a premise. The card (YtcplagfblmemhaaGreatDoorCards.lean) ties it to the program's text. -/
def laid_unicode_utf8_acceptRanges {H : Type} : DataW H := .agg [.agg [.lit (.int .u8 128), .lit (.int .u8 191)], .agg [.lit (.int .u8 160), .lit (.int .u8 191)], .agg [.lit (.int .u8 128), .lit (.int .u8 159)], .agg [.lit (.int .u8 144), .lit (.int .u8 191)], .agg [.lit (.int .u8 128), .lit (.int .u8 143)], .agg [.lit (.int .u8 0), .lit (.int .u8 0)], .agg [.lit (.int .u8 0), .lit (.int .u8 0)], .agg [.lit (.int .u8 0), .lit (.int .u8 0)], .agg [.lit (.int .u8 0), .lit (.int .u8 0)], .agg [.lit (.int .u8 0), .lit (.int .u8 0)], .agg [.lit (.int .u8 0), .lit (.int .u8 0)], .agg [.lit (.int .u8 0), .lit (.int .u8 0)], .agg [.lit (.int .u8 0), .lit (.int .u8 0)], .agg [.lit (.int .u8 0), .lit (.int .u8 0)], .agg [.lit (.int .u8 0), .lit (.int .u8 0)], .agg [.lit (.int .u8 0), .lit (.int .u8 0)]]
def laid_pouch_fold_spans {H : Type} : DataW H := .slice [.agg [.lit (.int .i32 65), .lit (.int .i32 90), .lit (.int .i32 1), .lit (.int .i32 32)], .agg [.lit (.int .i32 192), .lit (.int .i32 214), .lit (.int .i32 1), .lit (.int .i32 32)], .agg [.lit (.int .i32 216), .lit (.int .i32 222), .lit (.int .i32 1), .lit (.int .i32 32)], .agg [.lit (.int .i32 256), .lit (.int .i32 303), .lit (.int .i32 2), .lit (.int .i32 1)], .agg [.lit (.int .i32 306), .lit (.int .i32 311), .lit (.int .i32 2), .lit (.int .i32 1)], .agg [.lit (.int .i32 313), .lit (.int .i32 328), .lit (.int .i32 2), .lit (.int .i32 1)], .agg [.lit (.int .i32 330), .lit (.int .i32 375), .lit (.int .i32 2), .lit (.int .i32 1)], .agg [.lit (.int .i32 376), .lit (.int .i32 376), .lit (.int .i32 1), .lit (.int .i32 (-121))], .agg [.lit (.int .i32 377), .lit (.int .i32 382), .lit (.int .i32 2), .lit (.int .i32 1)], .agg [.lit (.int .i32 902), .lit (.int .i32 902), .lit (.int .i32 1), .lit (.int .i32 38)], .agg [.lit (.int .i32 904), .lit (.int .i32 906), .lit (.int .i32 1), .lit (.int .i32 37)], .agg [.lit (.int .i32 908), .lit (.int .i32 908), .lit (.int .i32 1), .lit (.int .i32 64)], .agg [.lit (.int .i32 910), .lit (.int .i32 911), .lit (.int .i32 1), .lit (.int .i32 63)], .agg [.lit (.int .i32 913), .lit (.int .i32 929), .lit (.int .i32 1), .lit (.int .i32 32)], .agg [.lit (.int .i32 931), .lit (.int .i32 939), .lit (.int .i32 1), .lit (.int .i32 32)], .agg [.lit (.int .i32 1024), .lit (.int .i32 1039), .lit (.int .i32 1), .lit (.int .i32 80)], .agg [.lit (.int .i32 1040), .lit (.int .i32 1071), .lit (.int .i32 1), .lit (.int .i32 32)]] []
def laid_pouch_box_roles {H : Type} : DataW H := .slice [.lit (.string []), .lit (.string [105, 110, 98, 111, 120]), .lit (.string [100, 114, 97, 102, 116, 115]), .lit (.string [115, 101, 110, 116]), .lit (.string [116, 114, 97, 115, 104]), .lit (.string [106, 117, 110, 107]), .lit (.string [97, 114, 99, 104, 105, 118, 101])] []
/-- One of Go's own tables, pinned by name: the form's constant. -/
def laid_unicode_utf8_first : DataW Unit := Go.Pinned.utf8First

/-- 'pouchlaw43.ChangeBoxes': WHATEVER THE INPUT: true; the input reads as it did. -/
def changeBoxesSpec : ChangeSpec := { name := "changeBoxes", fn := fun _ => fun
  | [d1, d2] => { results := [.lit (.bool true)], args := [d1, d2] }
  | _ => none }
def changeBoxesRow : OpenClaim := { program := "ytcplagfblmemhaagreatdoor", sum := "15438d31d7c013ed432456d656f740e91c1129e27ae5d04e00f980a6aa8812fc", func := "pouch/pouchlaw43.ChangeBoxes", spec := "changeBoxes", inPlace := ["internal/abi.NoEscape", "internal/bytealg.MakeNoZero", "slices.overlaps[pouch/api.Box]", "internal/bytealg.IndexByteString", "internal/bytealg.abigen_runtime_cmpstring", "slices.overlaps[pouch/api.Source]"], unfollowed := true, recurses := true, named := ["pouch/box.roles", "pouch/fold.spans", "unicode/utf8.first", "unicode/utf8.acceptRanges"], plainKeys := false, apart := false, laid := [("unicode/utf8.acceptRanges", laid_unicode_utf8_acceptRanges), ("pouch/fold.spans", laid_pouch_fold_spans), ("pouch/box.roles", laid_pouch_box_roles), ("unicode/utf8.first", laid_unicode_utf8_first)] }
def ChangeBoxesSaid : Prop := changeBoxesRow.holds Tryz.pinned (OpenSpec.ofChange changeBoxesSpec)

/-- ITS FALSE NEIGHBOUR: 'it returns false'. Refute it at one input. -/
def changeBoxesWrong : ChangeSpec := { name := "changeBoxes", fn := fun _ => fun
  | [d1, d2] => { results := [.lit (.bool false)], args := [d1, d2] }
  | _ => none }
def ChangeBoxesWrongFalsely : Prop := changeBoxesRow.holds Tryz.pinned (OpenSpec.ofChange changeBoxesWrong)

/-- 'pouchlaw43.ChangeChains': WHATEVER THE INPUT: true; the input reads as it did. -/
def changeChainsSpec : ChangeSpec := { name := "changeChains", fn := fun _ => fun
  | [d1, d2, d3] => { results := [.lit (.bool true)], args := [d1, d2, d3] }
  | _ => none }
def changeChainsRow : OpenClaim := { program := "ytcplagfblmemhaagreatdoor", sum := "15438d31d7c013ed432456d656f740e91c1129e27ae5d04e00f980a6aa8812fc", func := "pouch/pouchlaw43.ChangeChains", spec := "changeChains", inPlace := ["internal/abi.NoEscape", "internal/bytealg.MakeNoZero", "slices.overlaps[pouch/api.Box]", "internal/bytealg.IndexByteString", "internal/bytealg.abigen_runtime_cmpstring", "slices.overlaps[pouch/api.Source]"], unfollowed := true, recurses := true, named := ["pouch/box.roles", "pouch/fold.spans", "unicode/utf8.first", "unicode/utf8.acceptRanges"], plainKeys := false, apart := false, laid := [("unicode/utf8.acceptRanges", laid_unicode_utf8_acceptRanges), ("pouch/fold.spans", laid_pouch_fold_spans), ("pouch/box.roles", laid_pouch_box_roles), ("unicode/utf8.first", laid_unicode_utf8_first)] }
def ChangeChainsSaid : Prop := changeChainsRow.holds Tryz.pinned (OpenSpec.ofChange changeChainsSpec)

/-- ITS FALSE NEIGHBOUR: 'it returns false'. Refute it at one input. -/
def changeChainsWrong : ChangeSpec := { name := "changeChains", fn := fun _ => fun
  | [d1, d2, d3] => { results := [.lit (.bool false)], args := [d1, d2, d3] }
  | _ => none }
def ChangeChainsWrongFalsely : Prop := changeChainsRow.holds Tryz.pinned (OpenSpec.ofChange changeChainsWrong)

/-- 'pouchlaw43.ChangeFollows': WHATEVER THE INPUT: true; the input reads as it did. -/
def changeFollowsSpec : ChangeSpec := { name := "changeFollows", fn := fun _ => fun
  | [d1, d2, d3] => { results := [.lit (.bool true)], args := [d1, d2, d3] }
  | _ => none }
def changeFollowsRow : OpenClaim := { program := "ytcplagfblmemhaagreatdoor", sum := "15438d31d7c013ed432456d656f740e91c1129e27ae5d04e00f980a6aa8812fc", func := "pouch/pouchlaw43.ChangeFollows", spec := "changeFollows", inPlace := ["internal/abi.NoEscape", "internal/bytealg.MakeNoZero", "slices.overlaps[pouch/api.Box]", "internal/bytealg.IndexByteString", "internal/bytealg.abigen_runtime_cmpstring", "slices.overlaps[pouch/api.Source]"], unfollowed := true, recurses := true, named := ["pouch/box.roles", "pouch/fold.spans", "unicode/utf8.first", "unicode/utf8.acceptRanges"], plainKeys := false, apart := false, laid := [("unicode/utf8.acceptRanges", laid_unicode_utf8_acceptRanges), ("pouch/fold.spans", laid_pouch_fold_spans), ("pouch/box.roles", laid_pouch_box_roles), ("unicode/utf8.first", laid_unicode_utf8_first)] }
def ChangeFollowsSaid : Prop := changeFollowsRow.holds Tryz.pinned (OpenSpec.ofChange changeFollowsSpec)

/-- ITS FALSE NEIGHBOUR: 'it returns false'. Refute it at one input. -/
def changeFollowsWrong : ChangeSpec := { name := "changeFollows", fn := fun _ => fun
  | [d1, d2, d3] => { results := [.lit (.bool false)], args := [d1, d2, d3] }
  | _ => none }
def ChangeFollowsWrongFalsely : Prop := changeFollowsRow.holds Tryz.pinned (OpenSpec.ofChange changeFollowsWrong)

/- THE SECOND FORM. 'bulk': how many values and letters a reading holds, each counted each time it is reached (what is shared counts as often as it is met; a slice's spare places count too). A statement '..UptoSaid' is the law's where the arguments, and the package variables that the reading takes, are together of bulk at most 1048576: NARROWER than '..Said'. Prove '..Said' where nothing that the law and all that it calls make is longer than what came in: it says more and counts as full. Else prove '..UptoSaid'. A law counts once. -/
mutual
def uptoBulk {H : Type} : DataW H → Nat
  | .lit (.string bytes) => bytes.length + 1
  | .lit _ => 1
  | .nil => 1
  | .ptr d => uptoBulk d + 1
  | .slice elems spare => uptoBulkAll elems + uptoBulkAll spare + 1
  | .agg parts => uptoBulkAll parts + 1
  | .iface _ d => uptoBulk d + 1
  | .map entries => uptoBulkEntries entries + 1
  | .held _ => 1
def uptoBulkAll {H : Type} : List (DataW H) → Nat
  | [] => 0
  | d :: r => uptoBulk d + uptoBulkAll r
def uptoBulkEntries {H : Type} : List (Lit × DataW H) → Nat
  | [] => 0
  | x :: r => uptoBulkEntry x + uptoBulkEntries r
def uptoBulkEntry {H : Type} : Lit × DataW H → Nat
  | (.string bytes, d) => bytes.length + uptoBulk d + 1
  | (_, d) => uptoBulk d + 1
 end
def uptoSmall : (H : Type) → List (DataW H) → Bool := fun _ ds => decide (uptoBulkAll ds ≤ 1048576)
def OpenSpec.upto (s : _root_.Go.ChangeSpec) : _root_.Go.OpenSpec := { _root_.Go.OpenSpec.ofChange s with cond := some uptoSmall }

/-- 'pouchlaw43.ChangeBoxes', WHERE WHAT IT READS IS OF BULK AT MOST 1048576: true; the input reads as it did. -/
def changeBoxesUptoRow : OpenClaim := { program := "ytcplagfblmemhaagreatdoor", sum := "15438d31d7c013ed432456d656f740e91c1129e27ae5d04e00f980a6aa8812fc", func := "pouch/pouchlaw43.ChangeBoxes", spec := "changeBoxes", inPlace := ["internal/abi.NoEscape", "internal/bytealg.MakeNoZero", "slices.overlaps[pouch/api.Box]", "internal/bytealg.IndexByteString", "internal/bytealg.abigen_runtime_cmpstring", "slices.overlaps[pouch/api.Source]"], unfollowed := true, recurses := true, named := ["pouch/box.roles", "pouch/fold.spans", "unicode/utf8.first", "unicode/utf8.acceptRanges"], plainKeys := false, apart := false, laid := [("unicode/utf8.acceptRanges", laid_unicode_utf8_acceptRanges), ("pouch/fold.spans", laid_pouch_fold_spans), ("pouch/box.roles", laid_pouch_box_roles), ("unicode/utf8.first", laid_unicode_utf8_first)], narrowed := true }
def ChangeBoxesUptoSaid : Prop := changeBoxesUptoRow.holds Tryz.pinned (OpenSpec.upto changeBoxesSpec)

/-- 'pouchlaw43.ChangeChains', WHERE WHAT IT READS IS OF BULK AT MOST 1048576: true; the input reads as it did. -/
def changeChainsUptoRow : OpenClaim := { program := "ytcplagfblmemhaagreatdoor", sum := "15438d31d7c013ed432456d656f740e91c1129e27ae5d04e00f980a6aa8812fc", func := "pouch/pouchlaw43.ChangeChains", spec := "changeChains", inPlace := ["internal/abi.NoEscape", "internal/bytealg.MakeNoZero", "slices.overlaps[pouch/api.Box]", "internal/bytealg.IndexByteString", "internal/bytealg.abigen_runtime_cmpstring", "slices.overlaps[pouch/api.Source]"], unfollowed := true, recurses := true, named := ["pouch/box.roles", "pouch/fold.spans", "unicode/utf8.first", "unicode/utf8.acceptRanges"], plainKeys := false, apart := false, laid := [("unicode/utf8.acceptRanges", laid_unicode_utf8_acceptRanges), ("pouch/fold.spans", laid_pouch_fold_spans), ("pouch/box.roles", laid_pouch_box_roles), ("unicode/utf8.first", laid_unicode_utf8_first)], narrowed := true }
def ChangeChainsUptoSaid : Prop := changeChainsUptoRow.holds Tryz.pinned (OpenSpec.upto changeChainsSpec)

/-- 'pouchlaw43.ChangeFollows', WHERE WHAT IT READS IS OF BULK AT MOST 1048576: true; the input reads as it did. -/
def changeFollowsUptoRow : OpenClaim := { program := "ytcplagfblmemhaagreatdoor", sum := "15438d31d7c013ed432456d656f740e91c1129e27ae5d04e00f980a6aa8812fc", func := "pouch/pouchlaw43.ChangeFollows", spec := "changeFollows", inPlace := ["internal/abi.NoEscape", "internal/bytealg.MakeNoZero", "slices.overlaps[pouch/api.Box]", "internal/bytealg.IndexByteString", "internal/bytealg.abigen_runtime_cmpstring", "slices.overlaps[pouch/api.Source]"], unfollowed := true, recurses := true, named := ["pouch/box.roles", "pouch/fold.spans", "unicode/utf8.first", "unicode/utf8.acceptRanges"], plainKeys := false, apart := false, laid := [("unicode/utf8.acceptRanges", laid_unicode_utf8_acceptRanges), ("pouch/fold.spans", laid_pouch_fold_spans), ("pouch/box.roles", laid_pouch_box_roles), ("unicode/utf8.first", laid_unicode_utf8_first)], narrowed := true }
def ChangeFollowsUptoSaid : Prop := changeFollowsUptoRow.holds Tryz.pinned (OpenSpec.upto changeFollowsSpec)

end Rows
end Go.Proofs.YtcplagfblmemhaaGreatDoor
