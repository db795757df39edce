/-
  NARROWER THAN 'FOR EVERY INPUT', by the rows' own cells (each row's printed sentence says how): IndexReads: laid · IndexDrops: laid · IndexCase: laid · IndexTells: laid · IndexScratch: laid · IndexSteps: laid · IndexOrder: laid · SnipFinds: laid.
  DERIVED. THE GIVEN ROWS OF THIS SEAT. 8 by the template 'for every input the law returns true; each argument reads behind the call as it read before'; 0 by the template 'total and deterministic' (their statements: YtennokckmjcefaaGreatDoorTotals.lean).
  GIVEN WITH THE SEED: the statements are not yours to turn. If you find one false, say at which input.
  Laid BY PROGRAM, IN A SANDBOX (cutbox-rows.mjs): the forced cells as the released guide's own fill.sh prints them over the translation 375b88050b1b8eda… (all of the seat's roots in one cut). By AI agents, Wed Nov 11 2026. No macro, syntax, notation, axiom, sorry.
-/
import Derived.Test.YtennokckmjcefaaGreatDoorChecked
import GoSem.Claim
import GoSem.ClaimJoined
import GoSem.ClaimMapViews
import Derived.JoinedTies
import Derived.KernelRfl
namespace Go.Proofs.YtennokckmjcefaaGreatDoor
/- THE CELL 'sum', in the pinned program and in every row, IS THE sha256 OF THE DUMP (.gsa) THAT YtennokckmjcefaaGreatDoorProg.lean LOADS. Nothing in Lean hashes anything: it is a label: what it is worth is what the hold of that sum in a sandbox is worth. -/
noncomputable def Tryz.pinned : Pinned := { name := "ytennokckmjcefaagreatdoor", sum := "375b88050b1b8eda0c797bfb99369b55c0f84b83829d389a943bc642ceb44eaf", checked := Tryz.checked }
namespace Rows
def none {H : Type} : Left H := { results := [], args := [] }

/- WHAT THE LISTED PACKAGE-LEVEL VARIABLES READ AS WHEN THE CALL BEGINS. Each datum BY PROGRAM (the guide's laid-datum.mjs) off the statement by which the dump's own 'gosem.cut.vars' lays the variable. In a bare row this is a premise. The card (YtennokckmjcefaaGreatDoorCards.lean) ties it to the program's text. -/
def laid_pouch_fold_spans {H : Type} : DataW H := .slice [.agg [.lit (.int .i32 65), .lit (.int .i32 90), .lit (.int .i32 1), .lit (.int .i32 32)], .agg [.lit (.int .i32 192), .lit (.int .i32 214), .lit (.int .i32 1), .lit (.int .i32 32)], .agg [.lit (.int .i32 216), .lit (.int .i32 222), .lit (.int .i32 1), .lit (.int .i32 32)], .agg [.lit (.int .i32 256), .lit (.int .i32 303), .lit (.int .i32 2), .lit (.int .i32 1)], .agg [.lit (.int .i32 306), .lit (.int .i32 311), .lit (.int .i32 2), .lit (.int .i32 1)], .agg [.lit (.int .i32 313), .lit (.int .i32 328), .lit (.int .i32 2), .lit (.int .i32 1)], .agg [.lit (.int .i32 330), .lit (.int .i32 375), .lit (.int .i32 2), .lit (.int .i32 1)], .agg [.lit (.int .i32 376), .lit (.int .i32 376), .lit (.int .i32 1), .lit (.int .i32 (-121))], .agg [.lit (.int .i32 377), .lit (.int .i32 382), .lit (.int .i32 2), .lit (.int .i32 1)], .agg [.lit (.int .i32 902), .lit (.int .i32 902), .lit (.int .i32 1), .lit (.int .i32 38)], .agg [.lit (.int .i32 904), .lit (.int .i32 906), .lit (.int .i32 1), .lit (.int .i32 37)], .agg [.lit (.int .i32 908), .lit (.int .i32 908), .lit (.int .i32 1), .lit (.int .i32 64)], .agg [.lit (.int .i32 910), .lit (.int .i32 911), .lit (.int .i32 1), .lit (.int .i32 63)], .agg [.lit (.int .i32 913), .lit (.int .i32 929), .lit (.int .i32 1), .lit (.int .i32 32)], .agg [.lit (.int .i32 931), .lit (.int .i32 939), .lit (.int .i32 1), .lit (.int .i32 32)], .agg [.lit (.int .i32 1024), .lit (.int .i32 1039), .lit (.int .i32 1), .lit (.int .i32 80)], .agg [.lit (.int .i32 1040), .lit (.int .i32 1071), .lit (.int .i32 1), .lit (.int .i32 32)]] []
def laid_pouch_cut_spans {H : Type} : DataW H := .slice [.agg [.lit (.int .i64 215), .lit (.int .i64 215), .lit (.int .i64 0)], .agg [.lit (.int .i64 247), .lit (.int .i64 247), .lit (.int .i64 0)], .agg [.lit (.int .i64 8192), .lit (.int .i64 11263), .lit (.int .i64 0)], .agg [.lit (.int .i64 11904), .lit (.int .i64 12255), .lit (.int .i64 2)], .agg [.lit (.int .i64 12288), .lit (.int .i64 12351), .lit (.int .i64 0)], .agg [.lit (.int .i64 12353), .lit (.int .i64 12543), .lit (.int .i64 2)], .agg [.lit (.int .i64 12549), .lit (.int .i64 12591), .lit (.int .i64 2)], .agg [.lit (.int .i64 12593), .lit (.int .i64 12686), .lit (.int .i64 2)], .agg [.lit (.int .i64 13312), .lit (.int .i64 19903), .lit (.int .i64 2)], .agg [.lit (.int .i64 19968), .lit (.int .i64 40959), .lit (.int .i64 2)], .agg [.lit (.int .i64 44032), .lit (.int .i64 55203), .lit (.int .i64 2)], .agg [.lit (.int .i64 55296), .lit (.int .i64 63743), .lit (.int .i64 0)], .agg [.lit (.int .i64 63744), .lit (.int .i64 64255), .lit (.int .i64 2)], .agg [.lit (.int .i64 65024), .lit (.int .i64 65039), .lit (.int .i64 0)], .agg [.lit (.int .i64 65072), .lit (.int .i64 65135), .lit (.int .i64 0)], .agg [.lit (.int .i64 65280), .lit (.int .i64 65295), .lit (.int .i64 0)], .agg [.lit (.int .i64 65520), .lit (.int .i64 65535), .lit (.int .i64 0)], .agg [.lit (.int .i64 126976), .lit (.int .i64 129791), .lit (.int .i64 0)], .agg [.lit (.int .i64 131072), .lit (.int .i64 262143), .lit (.int .i64 2)]] []

/-- 'pouchlaw36.IndexReads': WHATEVER THE INPUT: true; the input reads as it did. -/
def indexReadsSpec : ChangeSpec := { name := "indexReads", fn := fun _ => fun
  | [d] => { results := [.lit (.bool true)], args := [d] }
  | _ => none }
def indexReadsRow : OpenClaim := { program := "ytennokckmjcefaagreatdoor", sum := "375b88050b1b8eda0c797bfb99369b55c0f84b83829d389a943bc642ceb44eaf", func := "pouch/pouchlaw36.IndexReads", spec := "indexReads", inPlace := ["internal/bytealg.abigen_runtime_cmpstring", "internal/abi.NoEscape", "slices.overlaps[pouch/api.Segment]", "slices.overlaps[int]"], unfollowed := true, recurses := true, named := ["pouch/fold.spans", "pouch/cut.spans"], plainKeys := false, apart := false, laid := [("pouch/fold.spans", laid_pouch_fold_spans), ("pouch/cut.spans", laid_pouch_cut_spans)] }
def IndexReadsSaid : Prop := indexReadsRow.holds Tryz.pinned (OpenSpec.ofChange indexReadsSpec)

/-- ITS FALSE NEIGHBOUR: 'it returns false'. Refute it at one input. -/
def indexReadsWrong : ChangeSpec := { name := "indexReads", fn := fun _ => fun
  | [d] => { results := [.lit (.bool false)], args := [d] }
  | _ => none }
def IndexReadsWrongFalsely : Prop := indexReadsRow.holds Tryz.pinned (OpenSpec.ofChange indexReadsWrong)

/-- 'pouchlaw36.IndexDrops': WHATEVER THE INPUT: true; the input reads as it did. -/
def indexDropsSpec : ChangeSpec := { name := "indexDrops", fn := fun _ => fun
  | [d1, d2, d3, d4, d5] => { results := [.lit (.bool true)], args := [d1, d2, d3, d4, d5] }
  | _ => none }
def indexDropsRow : OpenClaim := { program := "ytennokckmjcefaagreatdoor", sum := "375b88050b1b8eda0c797bfb99369b55c0f84b83829d389a943bc642ceb44eaf", func := "pouch/pouchlaw36.IndexDrops", spec := "indexDrops", inPlace := ["internal/bytealg.abigen_runtime_cmpstring", "internal/abi.NoEscape", "slices.overlaps[pouch/api.Segment]", "slices.overlaps[int]"], unfollowed := true, recurses := true, named := ["pouch/fold.spans", "pouch/cut.spans"], plainKeys := false, apart := false, laid := [("pouch/fold.spans", laid_pouch_fold_spans), ("pouch/cut.spans", laid_pouch_cut_spans)] }
def IndexDropsSaid : Prop := indexDropsRow.holds Tryz.pinned (OpenSpec.ofChange indexDropsSpec)

/-- ITS FALSE NEIGHBOUR: 'it returns false'. Refute it at one input. -/
def indexDropsWrong : ChangeSpec := { name := "indexDrops", fn := fun _ => fun
  | [d1, d2, d3, d4, d5] => { results := [.lit (.bool false)], args := [d1, d2, d3, d4, d5] }
  | _ => none }
def IndexDropsWrongFalsely : Prop := indexDropsRow.holds Tryz.pinned (OpenSpec.ofChange indexDropsWrong)

/-- 'pouchlaw36.IndexCase': WHATEVER THE INPUT: true; the input reads as it did. -/
def indexCaseSpec : ChangeSpec := { name := "indexCase", fn := fun _ => fun
  | [d] => { results := [.lit (.bool true)], args := [d] }
  | _ => none }
def indexCaseRow : OpenClaim := { program := "ytennokckmjcefaagreatdoor", sum := "375b88050b1b8eda0c797bfb99369b55c0f84b83829d389a943bc642ceb44eaf", func := "pouch/pouchlaw36.IndexCase", spec := "indexCase", inPlace := ["internal/bytealg.abigen_runtime_cmpstring", "internal/abi.NoEscape", "slices.overlaps[pouch/api.Segment]", "slices.overlaps[int]"], unfollowed := true, recurses := true, named := ["pouch/fold.spans", "pouch/cut.spans"], plainKeys := false, apart := false, laid := [("pouch/fold.spans", laid_pouch_fold_spans), ("pouch/cut.spans", laid_pouch_cut_spans)] }
def IndexCaseSaid : Prop := indexCaseRow.holds Tryz.pinned (OpenSpec.ofChange indexCaseSpec)

/-- ITS FALSE NEIGHBOUR: 'it returns false'. Refute it at one input. -/
def indexCaseWrong : ChangeSpec := { name := "indexCase", fn := fun _ => fun
  | [d] => { results := [.lit (.bool false)], args := [d] }
  | _ => none }
def IndexCaseWrongFalsely : Prop := indexCaseRow.holds Tryz.pinned (OpenSpec.ofChange indexCaseWrong)

/-- 'pouchlaw36.IndexTells': WHATEVER THE INPUT: true; the input reads as it did. -/
def indexTellsSpec : ChangeSpec := { name := "indexTells", fn := fun _ => fun
  | [d] => { results := [.lit (.bool true)], args := [d] }
  | _ => none }
def indexTellsRow : OpenClaim := { program := "ytennokckmjcefaagreatdoor", sum := "375b88050b1b8eda0c797bfb99369b55c0f84b83829d389a943bc642ceb44eaf", func := "pouch/pouchlaw36.IndexTells", spec := "indexTells", inPlace := ["internal/bytealg.abigen_runtime_cmpstring", "internal/abi.NoEscape", "slices.overlaps[pouch/api.Segment]", "slices.overlaps[int]"], unfollowed := true, recurses := true, named := ["pouch/fold.spans", "pouch/cut.spans"], plainKeys := false, apart := false, laid := [("pouch/fold.spans", laid_pouch_fold_spans), ("pouch/cut.spans", laid_pouch_cut_spans)] }
def IndexTellsSaid : Prop := indexTellsRow.holds Tryz.pinned (OpenSpec.ofChange indexTellsSpec)

/-- ITS FALSE NEIGHBOUR: 'it returns false'. Refute it at one input. -/
def indexTellsWrong : ChangeSpec := { name := "indexTells", fn := fun _ => fun
  | [d] => { results := [.lit (.bool false)], args := [d] }
  | _ => none }
def IndexTellsWrongFalsely : Prop := indexTellsRow.holds Tryz.pinned (OpenSpec.ofChange indexTellsWrong)

/-- 'pouchlaw36.IndexScratch': WHATEVER THE INPUT: true; the input reads as it did. -/
def indexScratchSpec : ChangeSpec := { name := "indexScratch", fn := fun _ => fun
  | [d1, d2, d3, d4] => { results := [.lit (.bool true)], args := [d1, d2, d3, d4] }
  | _ => none }
def indexScratchRow : OpenClaim := { program := "ytennokckmjcefaagreatdoor", sum := "375b88050b1b8eda0c797bfb99369b55c0f84b83829d389a943bc642ceb44eaf", func := "pouch/pouchlaw36.IndexScratch", spec := "indexScratch", inPlace := ["internal/bytealg.abigen_runtime_cmpstring", "internal/abi.NoEscape", "slices.overlaps[pouch/api.Segment]", "slices.overlaps[int]"], unfollowed := true, recurses := true, named := ["pouch/fold.spans", "pouch/cut.spans"], plainKeys := false, apart := false, laid := [("pouch/fold.spans", laid_pouch_fold_spans), ("pouch/cut.spans", laid_pouch_cut_spans)] }
def IndexScratchSaid : Prop := indexScratchRow.holds Tryz.pinned (OpenSpec.ofChange indexScratchSpec)

/-- ITS FALSE NEIGHBOUR: 'it returns false'. Refute it at one input. -/
def indexScratchWrong : ChangeSpec := { name := "indexScratch", fn := fun _ => fun
  | [d1, d2, d3, d4] => { results := [.lit (.bool false)], args := [d1, d2, d3, d4] }
  | _ => none }
def IndexScratchWrongFalsely : Prop := indexScratchRow.holds Tryz.pinned (OpenSpec.ofChange indexScratchWrong)

/-- 'pouchlaw36.IndexSteps': WHATEVER THE INPUT: true; the input reads as it did. -/
def indexStepsSpec : ChangeSpec := { name := "indexSteps", fn := fun _ => fun
  | [d1, d2, d3, d4] => { results := [.lit (.bool true)], args := [d1, d2, d3, d4] }
  | _ => none }
def indexStepsRow : OpenClaim := { program := "ytennokckmjcefaagreatdoor", sum := "375b88050b1b8eda0c797bfb99369b55c0f84b83829d389a943bc642ceb44eaf", func := "pouch/pouchlaw36.IndexSteps", spec := "indexSteps", inPlace := ["internal/bytealg.abigen_runtime_cmpstring", "internal/abi.NoEscape", "slices.overlaps[pouch/api.Segment]", "slices.overlaps[int]"], unfollowed := true, recurses := true, named := ["pouch/fold.spans", "pouch/cut.spans"], plainKeys := false, apart := false, laid := [("pouch/fold.spans", laid_pouch_fold_spans), ("pouch/cut.spans", laid_pouch_cut_spans)] }
def IndexStepsSaid : Prop := indexStepsRow.holds Tryz.pinned (OpenSpec.ofChange indexStepsSpec)

/-- ITS FALSE NEIGHBOUR: 'it returns false'. Refute it at one input. -/
def indexStepsWrong : ChangeSpec := { name := "indexSteps", fn := fun _ => fun
  | [d1, d2, d3, d4] => { results := [.lit (.bool false)], args := [d1, d2, d3, d4] }
  | _ => none }
def IndexStepsWrongFalsely : Prop := indexStepsRow.holds Tryz.pinned (OpenSpec.ofChange indexStepsWrong)

/-- 'pouchlaw36.IndexOrder': WHATEVER THE INPUT: true; the input reads as it did. -/
def indexOrderSpec : ChangeSpec := { name := "indexOrder", fn := fun _ => fun
  | [d1, d2, d3, d4] => { results := [.lit (.bool true)], args := [d1, d2, d3, d4] }
  | _ => none }
def indexOrderRow : OpenClaim := { program := "ytennokckmjcefaagreatdoor", sum := "375b88050b1b8eda0c797bfb99369b55c0f84b83829d389a943bc642ceb44eaf", func := "pouch/pouchlaw36.IndexOrder", spec := "indexOrder", inPlace := ["internal/bytealg.abigen_runtime_cmpstring", "internal/abi.NoEscape", "slices.overlaps[pouch/api.Segment]", "slices.overlaps[int]"], unfollowed := true, recurses := true, named := ["pouch/fold.spans", "pouch/cut.spans"], plainKeys := false, apart := false, laid := [("pouch/fold.spans", laid_pouch_fold_spans), ("pouch/cut.spans", laid_pouch_cut_spans)] }
def IndexOrderSaid : Prop := indexOrderRow.holds Tryz.pinned (OpenSpec.ofChange indexOrderSpec)

/-- ITS FALSE NEIGHBOUR: 'it returns false'. Refute it at one input. -/
def indexOrderWrong : ChangeSpec := { name := "indexOrder", fn := fun _ => fun
  | [d1, d2, d3, d4] => { results := [.lit (.bool false)], args := [d1, d2, d3, d4] }
  | _ => none }
def IndexOrderWrongFalsely : Prop := indexOrderRow.holds Tryz.pinned (OpenSpec.ofChange indexOrderWrong)

/-- 'pouchlaw39.SnipFinds': WHATEVER THE INPUT: true; the input reads as it did. -/
def snipFindsSpec : ChangeSpec := { name := "snipFinds", fn := fun _ => fun
  | [d1, d2] => { results := [.lit (.bool true)], args := [d1, d2] }
  | _ => none }
def snipFindsRow : OpenClaim := { program := "ytennokckmjcefaagreatdoor", sum := "375b88050b1b8eda0c797bfb99369b55c0f84b83829d389a943bc642ceb44eaf", func := "pouch/pouchlaw39.SnipFinds", spec := "snipFinds", inPlace := ["internal/abi.NoEscape", "internal/bytealg.abigen_runtime_cmpstring", "slices.overlaps[pouch/api.Segment]"], unfollowed := true, recurses := true, named := ["pouch/fold.spans", "pouch/cut.spans"], plainKeys := false, apart := false, laid := [("pouch/fold.spans", laid_pouch_fold_spans), ("pouch/cut.spans", laid_pouch_cut_spans)] }
def SnipFindsSaid : Prop := snipFindsRow.holds Tryz.pinned (OpenSpec.ofChange snipFindsSpec)

/-- ITS FALSE NEIGHBOUR: 'it returns false'. Refute it at one input. -/
def snipFindsWrong : ChangeSpec := { name := "snipFinds", fn := fun _ => fun
  | [d1, d2] => { results := [.lit (.bool false)], args := [d1, d2] }
  | _ => none }
def SnipFindsWrongFalsely : Prop := snipFindsRow.holds Tryz.pinned (OpenSpec.ofChange snipFindsWrong)

/- THE SECOND FORM. 'bulk': how many values and letters a reading holds, each counted each time it is reached (what is shared counts as often as it is met; a slice's spare places count too). A statement '..UptoSaid' is the law's where the arguments, and the package variables that the reading takes, are together of bulk at most 1048576: NARROWER than '..Said'. Prove '..Said' where nothing that the law and all that it calls make is longer than what came in: it says more and counts as full. Else prove '..UptoSaid'. A law counts once. -/
mutual
def uptoBulk {H : Type} : DataW H → Nat
  | .lit (.string bytes) => bytes.length + 1
  | .lit _ => 1
  | .nil => 1
  | .ptr d => uptoBulk d + 1
  | .slice elems spare => uptoBulkAll elems + uptoBulkAll spare + 1
  | .agg parts => uptoBulkAll parts + 1
  | .iface _ d => uptoBulk d + 1
  | .map entries => uptoBulkEntries entries + 1
  | .held _ => 1
def uptoBulkAll {H : Type} : List (DataW H) → Nat
  | [] => 0
  | d :: r => uptoBulk d + uptoBulkAll r
def uptoBulkEntries {H : Type} : List (Lit × DataW H) → Nat
  | [] => 0
  | x :: r => uptoBulkEntry x + uptoBulkEntries r
def uptoBulkEntry {H : Type} : Lit × DataW H → Nat
  | (.string bytes, d) => bytes.length + uptoBulk d + 1
  | (_, d) => uptoBulk d + 1
 end
def uptoSmall : (H : Type) → List (DataW H) → Bool := fun _ ds => decide (uptoBulkAll ds ≤ 1048576)
def OpenSpec.upto (s : _root_.Go.ChangeSpec) : _root_.Go.OpenSpec := { _root_.Go.OpenSpec.ofChange s with cond := some uptoSmall }

/-- 'pouchlaw36.IndexReads', WHERE WHAT IT READS IS OF BULK AT MOST 1048576: true; the input reads as it did. -/
def indexReadsUptoRow : OpenClaim := { program := "ytennokckmjcefaagreatdoor", sum := "375b88050b1b8eda0c797bfb99369b55c0f84b83829d389a943bc642ceb44eaf", func := "pouch/pouchlaw36.IndexReads", spec := "indexReads", inPlace := ["internal/bytealg.abigen_runtime_cmpstring", "internal/abi.NoEscape", "slices.overlaps[pouch/api.Segment]", "slices.overlaps[int]"], unfollowed := true, recurses := true, named := ["pouch/fold.spans", "pouch/cut.spans"], plainKeys := false, apart := false, laid := [("pouch/fold.spans", laid_pouch_fold_spans), ("pouch/cut.spans", laid_pouch_cut_spans)], narrowed := true }
def IndexReadsUptoSaid : Prop := indexReadsUptoRow.holds Tryz.pinned (OpenSpec.upto indexReadsSpec)

/-- 'pouchlaw36.IndexDrops', WHERE WHAT IT READS IS OF BULK AT MOST 1048576: true; the input reads as it did. -/
def indexDropsUptoRow : OpenClaim := { program := "ytennokckmjcefaagreatdoor", sum := "375b88050b1b8eda0c797bfb99369b55c0f84b83829d389a943bc642ceb44eaf", func := "pouch/pouchlaw36.IndexDrops", spec := "indexDrops", inPlace := ["internal/bytealg.abigen_runtime_cmpstring", "internal/abi.NoEscape", "slices.overlaps[pouch/api.Segment]", "slices.overlaps[int]"], unfollowed := true, recurses := true, named := ["pouch/fold.spans", "pouch/cut.spans"], plainKeys := false, apart := false, laid := [("pouch/fold.spans", laid_pouch_fold_spans), ("pouch/cut.spans", laid_pouch_cut_spans)], narrowed := true }
def IndexDropsUptoSaid : Prop := indexDropsUptoRow.holds Tryz.pinned (OpenSpec.upto indexDropsSpec)

/-- 'pouchlaw36.IndexCase', WHERE WHAT IT READS IS OF BULK AT MOST 1048576: true; the input reads as it did. -/
def indexCaseUptoRow : OpenClaim := { program := "ytennokckmjcefaagreatdoor", sum := "375b88050b1b8eda0c797bfb99369b55c0f84b83829d389a943bc642ceb44eaf", func := "pouch/pouchlaw36.IndexCase", spec := "indexCase", inPlace := ["internal/bytealg.abigen_runtime_cmpstring", "internal/abi.NoEscape", "slices.overlaps[pouch/api.Segment]", "slices.overlaps[int]"], unfollowed := true, recurses := true, named := ["pouch/fold.spans", "pouch/cut.spans"], plainKeys := false, apart := false, laid := [("pouch/fold.spans", laid_pouch_fold_spans), ("pouch/cut.spans", laid_pouch_cut_spans)], narrowed := true }
def IndexCaseUptoSaid : Prop := indexCaseUptoRow.holds Tryz.pinned (OpenSpec.upto indexCaseSpec)

/-- 'pouchlaw36.IndexTells', WHERE WHAT IT READS IS OF BULK AT MOST 1048576: true; the input reads as it did. -/
def indexTellsUptoRow : OpenClaim := { program := "ytennokckmjcefaagreatdoor", sum := "375b88050b1b8eda0c797bfb99369b55c0f84b83829d389a943bc642ceb44eaf", func := "pouch/pouchlaw36.IndexTells", spec := "indexTells", inPlace := ["internal/bytealg.abigen_runtime_cmpstring", "internal/abi.NoEscape", "slices.overlaps[pouch/api.Segment]", "slices.overlaps[int]"], unfollowed := true, recurses := true, named := ["pouch/fold.spans", "pouch/cut.spans"], plainKeys := false, apart := false, laid := [("pouch/fold.spans", laid_pouch_fold_spans), ("pouch/cut.spans", laid_pouch_cut_spans)], narrowed := true }
def IndexTellsUptoSaid : Prop := indexTellsUptoRow.holds Tryz.pinned (OpenSpec.upto indexTellsSpec)

/-- 'pouchlaw36.IndexScratch', WHERE WHAT IT READS IS OF BULK AT MOST 1048576: true; the input reads as it did. -/
def indexScratchUptoRow : OpenClaim := { program := "ytennokckmjcefaagreatdoor", sum := "375b88050b1b8eda0c797bfb99369b55c0f84b83829d389a943bc642ceb44eaf", func := "pouch/pouchlaw36.IndexScratch", spec := "indexScratch", inPlace := ["internal/bytealg.abigen_runtime_cmpstring", "internal/abi.NoEscape", "slices.overlaps[pouch/api.Segment]", "slices.overlaps[int]"], unfollowed := true, recurses := true, named := ["pouch/fold.spans", "pouch/cut.spans"], plainKeys := false, apart := false, laid := [("pouch/fold.spans", laid_pouch_fold_spans), ("pouch/cut.spans", laid_pouch_cut_spans)], narrowed := true }
def IndexScratchUptoSaid : Prop := indexScratchUptoRow.holds Tryz.pinned (OpenSpec.upto indexScratchSpec)

/-- 'pouchlaw36.IndexSteps', WHERE WHAT IT READS IS OF BULK AT MOST 1048576: true; the input reads as it did. -/
def indexStepsUptoRow : OpenClaim := { program := "ytennokckmjcefaagreatdoor", sum := "375b88050b1b8eda0c797bfb99369b55c0f84b83829d389a943bc642ceb44eaf", func := "pouch/pouchlaw36.IndexSteps", spec := "indexSteps", inPlace := ["internal/bytealg.abigen_runtime_cmpstring", "internal/abi.NoEscape", "slices.overlaps[pouch/api.Segment]", "slices.overlaps[int]"], unfollowed := true, recurses := true, named := ["pouch/fold.spans", "pouch/cut.spans"], plainKeys := false, apart := false, laid := [("pouch/fold.spans", laid_pouch_fold_spans), ("pouch/cut.spans", laid_pouch_cut_spans)], narrowed := true }
def IndexStepsUptoSaid : Prop := indexStepsUptoRow.holds Tryz.pinned (OpenSpec.upto indexStepsSpec)

/-- 'pouchlaw36.IndexOrder', WHERE WHAT IT READS IS OF BULK AT MOST 1048576: true; the input reads as it did. -/
def indexOrderUptoRow : OpenClaim := { program := "ytennokckmjcefaagreatdoor", sum := "375b88050b1b8eda0c797bfb99369b55c0f84b83829d389a943bc642ceb44eaf", func := "pouch/pouchlaw36.IndexOrder", spec := "indexOrder", inPlace := ["internal/bytealg.abigen_runtime_cmpstring", "internal/abi.NoEscape", "slices.overlaps[pouch/api.Segment]", "slices.overlaps[int]"], unfollowed := true, recurses := true, named := ["pouch/fold.spans", "pouch/cut.spans"], plainKeys := false, apart := false, laid := [("pouch/fold.spans", laid_pouch_fold_spans), ("pouch/cut.spans", laid_pouch_cut_spans)], narrowed := true }
def IndexOrderUptoSaid : Prop := indexOrderUptoRow.holds Tryz.pinned (OpenSpec.upto indexOrderSpec)

/-- 'pouchlaw39.SnipFinds', WHERE WHAT IT READS IS OF BULK AT MOST 1048576: true; the input reads as it did. -/
def snipFindsUptoRow : OpenClaim := { program := "ytennokckmjcefaagreatdoor", sum := "375b88050b1b8eda0c797bfb99369b55c0f84b83829d389a943bc642ceb44eaf", func := "pouch/pouchlaw39.SnipFinds", spec := "snipFinds", inPlace := ["internal/abi.NoEscape", "internal/bytealg.abigen_runtime_cmpstring", "slices.overlaps[pouch/api.Segment]"], unfollowed := true, recurses := true, named := ["pouch/fold.spans", "pouch/cut.spans"], plainKeys := false, apart := false, laid := [("pouch/fold.spans", laid_pouch_fold_spans), ("pouch/cut.spans", laid_pouch_cut_spans)], narrowed := true }
def SnipFindsUptoSaid : Prop := snipFindsUptoRow.holds Tryz.pinned (OpenSpec.upto snipFindsSpec)

end Rows
end Go.Proofs.YtennokckmjcefaaGreatDoor
