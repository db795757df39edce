/-
  NARROWER THAN 'FOR EVERY INPUT', by the rows' own cells (each row's printed sentence says how): AccountFlags: laid · AccountBoxes: laid · AccountTells: laid · AccountStays: laid.
  DERIVED. THE GIVEN ROWS OF THIS SEAT. 4 by the template 'for every input the law returns true; each argument reads behind the call as it read before'; 0 by the template 'total and deterministic' (their statements: YtohhkegmbgancaaGreatDoorTotals.lean).
  GIVEN WITH THE SEED: the statements are not yours to turn. If you find one false, say at which input.
  Laid BY PROGRAM, IN A SANDBOX (cutbox-rows.mjs): the forced cells as the released guide's own fill.sh prints them over the translation 0e478ad6a23e328d… (all of the seat's roots in one cut). By AI agents, Wed Nov 11 2026. No macro, syntax, notation, axiom, sorry.
-/
import Derived.Test.YtohhkegmbgancaaGreatDoorChecked
import GoSem.PinnedTables
import GoSem.Claim
import GoSem.ClaimJoined
import GoSem.ClaimMapViews
import Derived.JoinedTies
import Derived.KernelRfl
namespace Go.Proofs.YtohhkegmbgancaaGreatDoor
/- THE CELL 'sum', in the pinned program and in every row, IS THE sha256 OF THE DUMP (.gsa) THAT YtohhkegmbgancaaGreatDoorProg.lean LOADS. Nothing in Lean hashes anything: it is a label: what it is worth is what the hold of that sum in a sandbox is worth. -/
noncomputable def Tryz.pinned : Pinned := { name := "ytohhkegmbgancaagreatdoor", sum := "0e478ad6a23e328dc73d164778915b5cf693a606fa89c509842e73d8724e05c8", checked := Tryz.checked }
namespace Rows
def none {H : Type} : Left H := { results := [], args := [] }

/- WHAT THE LISTED PACKAGE-LEVEL VARIABLES READ AS WHEN THE CALL BEGINS. Each datum BY PROGRAM (the guide's laid-datum.mjs) off the statement by which the dump's own 'gosem.cut.vars' lays the variable. In a bare row this is a premise. The card (YtohhkegmbgancaaGreatDoorCards.lean) ties it to the program's text. -/
def laid_unicode_utf8_acceptRanges {H : Type} : DataW H := .agg [.agg [.lit (.int .u8 128), .lit (.int .u8 191)], .agg [.lit (.int .u8 160), .lit (.int .u8 191)], .agg [.lit (.int .u8 128), .lit (.int .u8 159)], .agg [.lit (.int .u8 144), .lit (.int .u8 191)], .agg [.lit (.int .u8 128), .lit (.int .u8 143)], .agg [.lit (.int .u8 0), .lit (.int .u8 0)], .agg [.lit (.int .u8 0), .lit (.int .u8 0)], .agg [.lit (.int .u8 0), .lit (.int .u8 0)], .agg [.lit (.int .u8 0), .lit (.int .u8 0)], .agg [.lit (.int .u8 0), .lit (.int .u8 0)], .agg [.lit (.int .u8 0), .lit (.int .u8 0)], .agg [.lit (.int .u8 0), .lit (.int .u8 0)], .agg [.lit (.int .u8 0), .lit (.int .u8 0)], .agg [.lit (.int .u8 0), .lit (.int .u8 0)], .agg [.lit (.int .u8 0), .lit (.int .u8 0)], .agg [.lit (.int .u8 0), .lit (.int .u8 0)]]
def laid_pouch_fold_spans {H : Type} : DataW H := .slice [.agg [.lit (.int .i32 65), .lit (.int .i32 90), .lit (.int .i32 1), .lit (.int .i32 32)], .agg [.lit (.int .i32 192), .lit (.int .i32 214), .lit (.int .i32 1), .lit (.int .i32 32)], .agg [.lit (.int .i32 216), .lit (.int .i32 222), .lit (.int .i32 1), .lit (.int .i32 32)], .agg [.lit (.int .i32 256), .lit (.int .i32 303), .lit (.int .i32 2), .lit (.int .i32 1)], .agg [.lit (.int .i32 306), .lit (.int .i32 311), .lit (.int .i32 2), .lit (.int .i32 1)], .agg [.lit (.int .i32 313), .lit (.int .i32 328), .lit (.int .i32 2), .lit (.int .i32 1)], .agg [.lit (.int .i32 330), .lit (.int .i32 375), .lit (.int .i32 2), .lit (.int .i32 1)], .agg [.lit (.int .i32 376), .lit (.int .i32 376), .lit (.int .i32 1), .lit (.int .i32 (-121))], .agg [.lit (.int .i32 377), .lit (.int .i32 382), .lit (.int .i32 2), .lit (.int .i32 1)], .agg [.lit (.int .i32 902), .lit (.int .i32 902), .lit (.int .i32 1), .lit (.int .i32 38)], .agg [.lit (.int .i32 904), .lit (.int .i32 906), .lit (.int .i32 1), .lit (.int .i32 37)], .agg [.lit (.int .i32 908), .lit (.int .i32 908), .lit (.int .i32 1), .lit (.int .i32 64)], .agg [.lit (.int .i32 910), .lit (.int .i32 911), .lit (.int .i32 1), .lit (.int .i32 63)], .agg [.lit (.int .i32 913), .lit (.int .i32 929), .lit (.int .i32 1), .lit (.int .i32 32)], .agg [.lit (.int .i32 931), .lit (.int .i32 939), .lit (.int .i32 1), .lit (.int .i32 32)], .agg [.lit (.int .i32 1024), .lit (.int .i32 1039), .lit (.int .i32 1), .lit (.int .i32 80)], .agg [.lit (.int .i32 1040), .lit (.int .i32 1071), .lit (.int .i32 1), .lit (.int .i32 32)]] []
def laid_pouch_box_roles {H : Type} : DataW H := .slice [.lit (.string []), .lit (.string [105, 110, 98, 111, 120]), .lit (.string [100, 114, 97, 102, 116, 115]), .lit (.string [115, 101, 110, 116]), .lit (.string [116, 114, 97, 115, 104]), .lit (.string [106, 117, 110, 107]), .lit (.string [97, 114, 99, 104, 105, 118, 101])] []
/-- One of Go's own tables, pinned by name: the form's constant. -/
def laid_unicode_utf8_first : DataW Unit := Go.Pinned.utf8First

/-- 'pouchlaw42.AccountFlags': WHATEVER THE INPUT: true; the input reads as it did. -/
def accountFlagsSpec : ChangeSpec := { name := "accountFlags", fn := fun _ => fun
  | [d1, d2, d3] => { results := [.lit (.bool true)], args := [d1, d2, d3] }
  | _ => none }
def accountFlagsRow : OpenClaim := { program := "ytohhkegmbgancaagreatdoor", sum := "0e478ad6a23e328dc73d164778915b5cf693a606fa89c509842e73d8724e05c8", func := "pouch/pouchlaw42.AccountFlags", spec := "accountFlags", inPlace := ["internal/abi.NoEscape", "slices.overlaps[pouch/api.Box]", "internal/bytealg.IndexByteString", "internal/bytealg.abigen_runtime_cmpstring", "slices.overlaps[pouch/api.Source]"], unfollowed := true, recurses := true, named := ["pouch/box.roles", "pouch/fold.spans", "unicode/utf8.first", "unicode/utf8.acceptRanges"], plainKeys := false, apart := false, laid := [("unicode/utf8.acceptRanges", laid_unicode_utf8_acceptRanges), ("pouch/fold.spans", laid_pouch_fold_spans), ("pouch/box.roles", laid_pouch_box_roles), ("unicode/utf8.first", laid_unicode_utf8_first)] }
def AccountFlagsSaid : Prop := accountFlagsRow.holds Tryz.pinned (OpenSpec.ofChange accountFlagsSpec)

/-- ITS FALSE NEIGHBOUR: 'it returns false'. Refute it at one input. -/
def accountFlagsWrong : ChangeSpec := { name := "accountFlags", fn := fun _ => fun
  | [d1, d2, d3] => { results := [.lit (.bool false)], args := [d1, d2, d3] }
  | _ => none }
def AccountFlagsWrongFalsely : Prop := accountFlagsRow.holds Tryz.pinned (OpenSpec.ofChange accountFlagsWrong)

/-- 'pouchlaw42.AccountBoxes': WHATEVER THE INPUT: true; the input reads as it did. -/
def accountBoxesSpec : ChangeSpec := { name := "accountBoxes", fn := fun _ => fun
  | [d1, d2] => { results := [.lit (.bool true)], args := [d1, d2] }
  | _ => none }
def accountBoxesRow : OpenClaim := { program := "ytohhkegmbgancaagreatdoor", sum := "0e478ad6a23e328dc73d164778915b5cf693a606fa89c509842e73d8724e05c8", func := "pouch/pouchlaw42.AccountBoxes", spec := "accountBoxes", inPlace := ["internal/abi.NoEscape", "slices.overlaps[pouch/api.Box]", "internal/bytealg.IndexByteString", "internal/bytealg.abigen_runtime_cmpstring", "slices.overlaps[pouch/api.Source]"], unfollowed := true, recurses := true, named := ["pouch/box.roles", "pouch/fold.spans", "unicode/utf8.first", "unicode/utf8.acceptRanges"], plainKeys := false, apart := false, laid := [("unicode/utf8.acceptRanges", laid_unicode_utf8_acceptRanges), ("pouch/fold.spans", laid_pouch_fold_spans), ("pouch/box.roles", laid_pouch_box_roles), ("unicode/utf8.first", laid_unicode_utf8_first)] }
def AccountBoxesSaid : Prop := accountBoxesRow.holds Tryz.pinned (OpenSpec.ofChange accountBoxesSpec)

/-- ITS FALSE NEIGHBOUR: 'it returns false'. Refute it at one input. -/
def accountBoxesWrong : ChangeSpec := { name := "accountBoxes", fn := fun _ => fun
  | [d1, d2] => { results := [.lit (.bool false)], args := [d1, d2] }
  | _ => none }
def AccountBoxesWrongFalsely : Prop := accountBoxesRow.holds Tryz.pinned (OpenSpec.ofChange accountBoxesWrong)

/-- 'pouchlaw42.AccountTells': WHATEVER THE INPUT: true; the input reads as it did. -/
def accountTellsSpec : ChangeSpec := { name := "accountTells", fn := fun _ => fun
  | [d1, d2, d3] => { results := [.lit (.bool true)], args := [d1, d2, d3] }
  | _ => none }
def accountTellsRow : OpenClaim := { program := "ytohhkegmbgancaagreatdoor", sum := "0e478ad6a23e328dc73d164778915b5cf693a606fa89c509842e73d8724e05c8", func := "pouch/pouchlaw42.AccountTells", spec := "accountTells", inPlace := ["internal/abi.NoEscape", "slices.overlaps[pouch/api.Box]", "internal/bytealg.IndexByteString", "internal/bytealg.abigen_runtime_cmpstring", "slices.overlaps[pouch/api.Source]"], unfollowed := true, recurses := true, named := ["pouch/box.roles", "pouch/fold.spans", "unicode/utf8.first", "unicode/utf8.acceptRanges"], plainKeys := false, apart := false, laid := [("unicode/utf8.acceptRanges", laid_unicode_utf8_acceptRanges), ("pouch/fold.spans", laid_pouch_fold_spans), ("pouch/box.roles", laid_pouch_box_roles), ("unicode/utf8.first", laid_unicode_utf8_first)] }
def AccountTellsSaid : Prop := accountTellsRow.holds Tryz.pinned (OpenSpec.ofChange accountTellsSpec)

/-- ITS FALSE NEIGHBOUR: 'it returns false'. Refute it at one input. -/
def accountTellsWrong : ChangeSpec := { name := "accountTells", fn := fun _ => fun
  | [d1, d2, d3] => { results := [.lit (.bool false)], args := [d1, d2, d3] }
  | _ => none }
def AccountTellsWrongFalsely : Prop := accountTellsRow.holds Tryz.pinned (OpenSpec.ofChange accountTellsWrong)

/-- 'pouchlaw42.AccountStays': WHATEVER THE INPUT: true; the input reads as it did. -/
def accountStaysSpec : ChangeSpec := { name := "accountStays", fn := fun _ => fun
  | [d] => { results := [.lit (.bool true)], args := [d] }
  | _ => none }
def accountStaysRow : OpenClaim := { program := "ytohhkegmbgancaagreatdoor", sum := "0e478ad6a23e328dc73d164778915b5cf693a606fa89c509842e73d8724e05c8", func := "pouch/pouchlaw42.AccountStays", spec := "accountStays", inPlace := ["internal/abi.NoEscape", "slices.overlaps[pouch/api.Box]", "internal/bytealg.IndexByteString", "internal/bytealg.abigen_runtime_cmpstring", "slices.overlaps[pouch/api.Source]"], unfollowed := true, recurses := true, named := ["pouch/box.roles", "pouch/fold.spans", "unicode/utf8.first", "unicode/utf8.acceptRanges"], plainKeys := false, apart := false, laid := [("unicode/utf8.acceptRanges", laid_unicode_utf8_acceptRanges), ("pouch/fold.spans", laid_pouch_fold_spans), ("pouch/box.roles", laid_pouch_box_roles), ("unicode/utf8.first", laid_unicode_utf8_first)] }
def AccountStaysSaid : Prop := accountStaysRow.holds Tryz.pinned (OpenSpec.ofChange accountStaysSpec)

/-- ITS FALSE NEIGHBOUR: 'it returns false'. Refute it at one input. -/
def accountStaysWrong : ChangeSpec := { name := "accountStays", fn := fun _ => fun
  | [d] => { results := [.lit (.bool false)], args := [d] }
  | _ => none }
def AccountStaysWrongFalsely : Prop := accountStaysRow.holds Tryz.pinned (OpenSpec.ofChange accountStaysWrong)

/- THE SECOND FORM. 'bulk': how many values and letters a reading holds, each counted each time it is reached (what is shared counts as often as it is met; a slice's spare places count too). A statement '..UptoSaid' is the law's where the arguments, and the package variables that the reading takes, are together of bulk at most 1048576: NARROWER than '..Said'. Prove '..Said' where nothing that the law and all that it calls make is longer than what came in: it says more and counts as full. Else prove '..UptoSaid'. A law counts once. -/
mutual
def uptoBulk {H : Type} : DataW H → Nat
  | .lit (.string bytes) => bytes.length + 1
  | .lit _ => 1
  | .nil => 1
  | .ptr d => uptoBulk d + 1
  | .slice elems spare => uptoBulkAll elems + uptoBulkAll spare + 1
  | .agg parts => uptoBulkAll parts + 1
  | .iface _ d => uptoBulk d + 1
  | .map entries => uptoBulkEntries entries + 1
  | .held _ => 1
def uptoBulkAll {H : Type} : List (DataW H) → Nat
  | [] => 0
  | d :: r => uptoBulk d + uptoBulkAll r
def uptoBulkEntries {H : Type} : List (Lit × DataW H) → Nat
  | [] => 0
  | x :: r => uptoBulkEntry x + uptoBulkEntries r
def uptoBulkEntry {H : Type} : Lit × DataW H → Nat
  | (.string bytes, d) => bytes.length + uptoBulk d + 1
  | (_, d) => uptoBulk d + 1
 end
def uptoSmall : (H : Type) → List (DataW H) → Bool := fun _ ds => decide (uptoBulkAll ds ≤ 1048576)
def OpenSpec.upto (s : _root_.Go.ChangeSpec) : _root_.Go.OpenSpec := { _root_.Go.OpenSpec.ofChange s with cond := some uptoSmall }

/-- 'pouchlaw42.AccountFlags', WHERE WHAT IT READS IS OF BULK AT MOST 1048576: true; the input reads as it did. -/
def accountFlagsUptoRow : OpenClaim := { program := "ytohhkegmbgancaagreatdoor", sum := "0e478ad6a23e328dc73d164778915b5cf693a606fa89c509842e73d8724e05c8", func := "pouch/pouchlaw42.AccountFlags", spec := "accountFlags", inPlace := ["internal/abi.NoEscape", "slices.overlaps[pouch/api.Box]", "internal/bytealg.IndexByteString", "internal/bytealg.abigen_runtime_cmpstring", "slices.overlaps[pouch/api.Source]"], unfollowed := true, recurses := true, named := ["pouch/box.roles", "pouch/fold.spans", "unicode/utf8.first", "unicode/utf8.acceptRanges"], plainKeys := false, apart := false, laid := [("unicode/utf8.acceptRanges", laid_unicode_utf8_acceptRanges), ("pouch/fold.spans", laid_pouch_fold_spans), ("pouch/box.roles", laid_pouch_box_roles), ("unicode/utf8.first", laid_unicode_utf8_first)], narrowed := true }
def AccountFlagsUptoSaid : Prop := accountFlagsUptoRow.holds Tryz.pinned (OpenSpec.upto accountFlagsSpec)

/-- 'pouchlaw42.AccountBoxes', WHERE WHAT IT READS IS OF BULK AT MOST 1048576: true; the input reads as it did. -/
def accountBoxesUptoRow : OpenClaim := { program := "ytohhkegmbgancaagreatdoor", sum := "0e478ad6a23e328dc73d164778915b5cf693a606fa89c509842e73d8724e05c8", func := "pouch/pouchlaw42.AccountBoxes", spec := "accountBoxes", inPlace := ["internal/abi.NoEscape", "slices.overlaps[pouch/api.Box]", "internal/bytealg.IndexByteString", "internal/bytealg.abigen_runtime_cmpstring", "slices.overlaps[pouch/api.Source]"], unfollowed := true, recurses := true, named := ["pouch/box.roles", "pouch/fold.spans", "unicode/utf8.first", "unicode/utf8.acceptRanges"], plainKeys := false, apart := false, laid := [("unicode/utf8.acceptRanges", laid_unicode_utf8_acceptRanges), ("pouch/fold.spans", laid_pouch_fold_spans), ("pouch/box.roles", laid_pouch_box_roles), ("unicode/utf8.first", laid_unicode_utf8_first)], narrowed := true }
def AccountBoxesUptoSaid : Prop := accountBoxesUptoRow.holds Tryz.pinned (OpenSpec.upto accountBoxesSpec)

/-- 'pouchlaw42.AccountTells', WHERE WHAT IT READS IS OF BULK AT MOST 1048576: true; the input reads as it did. -/
def accountTellsUptoRow : OpenClaim := { program := "ytohhkegmbgancaagreatdoor", sum := "0e478ad6a23e328dc73d164778915b5cf693a606fa89c509842e73d8724e05c8", func := "pouch/pouchlaw42.AccountTells", spec := "accountTells", inPlace := ["internal/abi.NoEscape", "slices.overlaps[pouch/api.Box]", "internal/bytealg.IndexByteString", "internal/bytealg.abigen_runtime_cmpstring", "slices.overlaps[pouch/api.Source]"], unfollowed := true, recurses := true, named := ["pouch/box.roles", "pouch/fold.spans", "unicode/utf8.first", "unicode/utf8.acceptRanges"], plainKeys := false, apart := false, laid := [("unicode/utf8.acceptRanges", laid_unicode_utf8_acceptRanges), ("pouch/fold.spans", laid_pouch_fold_spans), ("pouch/box.roles", laid_pouch_box_roles), ("unicode/utf8.first", laid_unicode_utf8_first)], narrowed := true }
def AccountTellsUptoSaid : Prop := accountTellsUptoRow.holds Tryz.pinned (OpenSpec.upto accountTellsSpec)

/-- 'pouchlaw42.AccountStays', WHERE WHAT IT READS IS OF BULK AT MOST 1048576: true; the input reads as it did. -/
def accountStaysUptoRow : OpenClaim := { program := "ytohhkegmbgancaagreatdoor", sum := "0e478ad6a23e328dc73d164778915b5cf693a606fa89c509842e73d8724e05c8", func := "pouch/pouchlaw42.AccountStays", spec := "accountStays", inPlace := ["internal/abi.NoEscape", "slices.overlaps[pouch/api.Box]", "internal/bytealg.IndexByteString", "internal/bytealg.abigen_runtime_cmpstring", "slices.overlaps[pouch/api.Source]"], unfollowed := true, recurses := true, named := ["pouch/box.roles", "pouch/fold.spans", "unicode/utf8.first", "unicode/utf8.acceptRanges"], plainKeys := false, apart := false, laid := [("unicode/utf8.acceptRanges", laid_unicode_utf8_acceptRanges), ("pouch/fold.spans", laid_pouch_fold_spans), ("pouch/box.roles", laid_pouch_box_roles), ("unicode/utf8.first", laid_unicode_utf8_first)], narrowed := true }
def AccountStaysUptoSaid : Prop := accountStaysUptoRow.holds Tryz.pinned (OpenSpec.upto accountStaysSpec)

end Rows
end Go.Proofs.YtohhkegmbgancaaGreatDoor
