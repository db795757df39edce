/-
  NARROWER THAN 'FOR EVERY INPUT', by the rows' own cells (each row's printed sentence says how): MergeTells: laid · MergePicks: laid · MergeBuilt: laid · MergeRows: laid · MergeLooks: laid.
  DERIVED. THE GIVEN ROWS OF THIS SEAT. 5 by the template 'for every input the law returns true; each argument reads behind the call as it read before'; 0 by the template 'total and deterministic' (their statements: YtcdpocffoapbeaaGreatDoorTotals.lean).
  GIVEN WITH THE SEED: the statements are not yours to turn. If you find one false, say at which input.
  Laid BY PROGRAM, IN A SANDBOX (cutbox-rows.mjs): the forced cells as the released guide's own fill.sh prints them over the translation d841d4e9edd9cc4e… (all of the seat's roots in one cut). By AI agents, Wed Nov 11 2026. No macro, syntax, notation, axiom, sorry.
-/
import Derived.Test.YtcdpocffoapbeaaGreatDoorChecked
import GoSem.Claim
import GoSem.ClaimJoined
import GoSem.ClaimMapViews
import Derived.JoinedTies
import Derived.KernelRfl
namespace Go.Proofs.YtcdpocffoapbeaaGreatDoor
/- THE CELL 'sum', in the pinned program and in every row, IS THE sha256 OF THE DUMP (.gsa) THAT YtcdpocffoapbeaaGreatDoorProg.lean LOADS. Nothing in Lean hashes anything: it is a label: what it is worth is what the hold of that sum in a sandbox is worth. -/
noncomputable def Tryz.pinned : Pinned := { name := "ytcdpocffoapbeaagreatdoor", sum := "d841d4e9edd9cc4ebd3f0ee52faf29f013dfc67d76acdab64564195181ebf0b8", checked := Tryz.checked }
namespace Rows
def none {H : Type} : Left H := { results := [], args := [] }

/- WHAT THE LISTED PACKAGE-LEVEL VARIABLES READ AS WHEN THE CALL BEGINS. Each datum BY PROGRAM (the guide's laid-datum.mjs) off the statement by which the dump's own 'gosem.cut.vars' lays the variable. In a bare row this is a premise. The card (YtcdpocffoapbeaaGreatDoorCards.lean) ties it to the program's text. -/
def laid_pouch_fold_spans {H : Type} : DataW H := .slice [.agg [.lit (.int .i32 65), .lit (.int .i32 90), .lit (.int .i32 1), .lit (.int .i32 32)], .agg [.lit (.int .i32 192), .lit (.int .i32 214), .lit (.int .i32 1), .lit (.int .i32 32)], .agg [.lit (.int .i32 216), .lit (.int .i32 222), .lit (.int .i32 1), .lit (.int .i32 32)], .agg [.lit (.int .i32 256), .lit (.int .i32 303), .lit (.int .i32 2), .lit (.int .i32 1)], .agg [.lit (.int .i32 306), .lit (.int .i32 311), .lit (.int .i32 2), .lit (.int .i32 1)], .agg [.lit (.int .i32 313), .lit (.int .i32 328), .lit (.int .i32 2), .lit (.int .i32 1)], .agg [.lit (.int .i32 330), .lit (.int .i32 375), .lit (.int .i32 2), .lit (.int .i32 1)], .agg [.lit (.int .i32 376), .lit (.int .i32 376), .lit (.int .i32 1), .lit (.int .i32 (-121))], .agg [.lit (.int .i32 377), .lit (.int .i32 382), .lit (.int .i32 2), .lit (.int .i32 1)], .agg [.lit (.int .i32 902), .lit (.int .i32 902), .lit (.int .i32 1), .lit (.int .i32 38)], .agg [.lit (.int .i32 904), .lit (.int .i32 906), .lit (.int .i32 1), .lit (.int .i32 37)], .agg [.lit (.int .i32 908), .lit (.int .i32 908), .lit (.int .i32 1), .lit (.int .i32 64)], .agg [.lit (.int .i32 910), .lit (.int .i32 911), .lit (.int .i32 1), .lit (.int .i32 63)], .agg [.lit (.int .i32 913), .lit (.int .i32 929), .lit (.int .i32 1), .lit (.int .i32 32)], .agg [.lit (.int .i32 931), .lit (.int .i32 939), .lit (.int .i32 1), .lit (.int .i32 32)], .agg [.lit (.int .i32 1024), .lit (.int .i32 1039), .lit (.int .i32 1), .lit (.int .i32 80)], .agg [.lit (.int .i32 1040), .lit (.int .i32 1071), .lit (.int .i32 1), .lit (.int .i32 32)]] []
def laid_pouch_cut_spans {H : Type} : DataW H := .slice [.agg [.lit (.int .i64 215), .lit (.int .i64 215), .lit (.int .i64 0)], .agg [.lit (.int .i64 247), .lit (.int .i64 247), .lit (.int .i64 0)], .agg [.lit (.int .i64 8192), .lit (.int .i64 11263), .lit (.int .i64 0)], .agg [.lit (.int .i64 11904), .lit (.int .i64 12255), .lit (.int .i64 2)], .agg [.lit (.int .i64 12288), .lit (.int .i64 12351), .lit (.int .i64 0)], .agg [.lit (.int .i64 12353), .lit (.int .i64 12543), .lit (.int .i64 2)], .agg [.lit (.int .i64 12549), .lit (.int .i64 12591), .lit (.int .i64 2)], .agg [.lit (.int .i64 12593), .lit (.int .i64 12686), .lit (.int .i64 2)], .agg [.lit (.int .i64 13312), .lit (.int .i64 19903), .lit (.int .i64 2)], .agg [.lit (.int .i64 19968), .lit (.int .i64 40959), .lit (.int .i64 2)], .agg [.lit (.int .i64 44032), .lit (.int .i64 55203), .lit (.int .i64 2)], .agg [.lit (.int .i64 55296), .lit (.int .i64 63743), .lit (.int .i64 0)], .agg [.lit (.int .i64 63744), .lit (.int .i64 64255), .lit (.int .i64 2)], .agg [.lit (.int .i64 65024), .lit (.int .i64 65039), .lit (.int .i64 0)], .agg [.lit (.int .i64 65072), .lit (.int .i64 65135), .lit (.int .i64 0)], .agg [.lit (.int .i64 65280), .lit (.int .i64 65295), .lit (.int .i64 0)], .agg [.lit (.int .i64 65520), .lit (.int .i64 65535), .lit (.int .i64 0)], .agg [.lit (.int .i64 126976), .lit (.int .i64 129791), .lit (.int .i64 0)], .agg [.lit (.int .i64 131072), .lit (.int .i64 262143), .lit (.int .i64 2)]] []

/-- 'pouchlaw35.MergeTells': WHATEVER THE INPUT: true; the input reads as it did. -/
def mergeTellsSpec : ChangeSpec := { name := "mergeTells", fn := fun _ => fun
  | [d1, d2, d3] => { results := [.lit (.bool true)], args := [d1, d2, d3] }
  | _ => none }
def mergeTellsRow : OpenClaim := { program := "ytcdpocffoapbeaagreatdoor", sum := "d841d4e9edd9cc4ebd3f0ee52faf29f013dfc67d76acdab64564195181ebf0b8", func := "pouch/pouchlaw35.MergeTells", spec := "mergeTells", inPlace := ["internal/abi.NoEscape", "internal/bytealg.abigen_runtime_cmpstring"], unfollowed := true, recurses := true, named := ["pouch/fold.spans", "pouch/cut.spans"], plainKeys := false, apart := false, laid := [("pouch/fold.spans", laid_pouch_fold_spans), ("pouch/cut.spans", laid_pouch_cut_spans)] }
def MergeTellsSaid : Prop := mergeTellsRow.holds Tryz.pinned (OpenSpec.ofChange mergeTellsSpec)

/-- ITS FALSE NEIGHBOUR: 'it returns false'. Refute it at one input. -/
def mergeTellsWrong : ChangeSpec := { name := "mergeTells", fn := fun _ => fun
  | [d1, d2, d3] => { results := [.lit (.bool false)], args := [d1, d2, d3] }
  | _ => none }
def MergeTellsWrongFalsely : Prop := mergeTellsRow.holds Tryz.pinned (OpenSpec.ofChange mergeTellsWrong)

/-- 'pouchlaw35.MergePicks': WHATEVER THE INPUT: true; the input reads as it did. -/
def mergePicksSpec : ChangeSpec := { name := "mergePicks", fn := fun _ => fun
  | [d] => { results := [.lit (.bool true)], args := [d] }
  | _ => none }
def mergePicksRow : OpenClaim := { program := "ytcdpocffoapbeaagreatdoor", sum := "d841d4e9edd9cc4ebd3f0ee52faf29f013dfc67d76acdab64564195181ebf0b8", func := "pouch/pouchlaw35.MergePicks", spec := "mergePicks", inPlace := ["internal/abi.NoEscape", "internal/bytealg.abigen_runtime_cmpstring"], unfollowed := true, recurses := true, named := ["pouch/fold.spans", "pouch/cut.spans"], plainKeys := false, apart := false, laid := [("pouch/fold.spans", laid_pouch_fold_spans), ("pouch/cut.spans", laid_pouch_cut_spans)] }
def MergePicksSaid : Prop := mergePicksRow.holds Tryz.pinned (OpenSpec.ofChange mergePicksSpec)

/-- ITS FALSE NEIGHBOUR: 'it returns false'. Refute it at one input. -/
def mergePicksWrong : ChangeSpec := { name := "mergePicks", fn := fun _ => fun
  | [d] => { results := [.lit (.bool false)], args := [d] }
  | _ => none }
def MergePicksWrongFalsely : Prop := mergePicksRow.holds Tryz.pinned (OpenSpec.ofChange mergePicksWrong)

/-- 'pouchlaw35.MergeBuilt': WHATEVER THE INPUT: true; the input reads as it did. -/
def mergeBuiltSpec : ChangeSpec := { name := "mergeBuilt", fn := fun _ => fun
  | [d1, d2, d3] => { results := [.lit (.bool true)], args := [d1, d2, d3] }
  | _ => none }
def mergeBuiltRow : OpenClaim := { program := "ytcdpocffoapbeaagreatdoor", sum := "d841d4e9edd9cc4ebd3f0ee52faf29f013dfc67d76acdab64564195181ebf0b8", func := "pouch/pouchlaw35.MergeBuilt", spec := "mergeBuilt", inPlace := ["internal/abi.NoEscape", "internal/bytealg.abigen_runtime_cmpstring"], unfollowed := true, recurses := true, named := ["pouch/fold.spans", "pouch/cut.spans"], plainKeys := false, apart := false, laid := [("pouch/fold.spans", laid_pouch_fold_spans), ("pouch/cut.spans", laid_pouch_cut_spans)] }
def MergeBuiltSaid : Prop := mergeBuiltRow.holds Tryz.pinned (OpenSpec.ofChange mergeBuiltSpec)

/-- ITS FALSE NEIGHBOUR: 'it returns false'. Refute it at one input. -/
def mergeBuiltWrong : ChangeSpec := { name := "mergeBuilt", fn := fun _ => fun
  | [d1, d2, d3] => { results := [.lit (.bool false)], args := [d1, d2, d3] }
  | _ => none }
def MergeBuiltWrongFalsely : Prop := mergeBuiltRow.holds Tryz.pinned (OpenSpec.ofChange mergeBuiltWrong)

/-- 'pouchlaw35.MergeRows': WHATEVER THE INPUT: true; the input reads as it did. -/
def mergeRowsSpec : ChangeSpec := { name := "mergeRows", fn := fun _ => fun
  | [d1, d2, d3, d4] => { results := [.lit (.bool true)], args := [d1, d2, d3, d4] }
  | _ => none }
def mergeRowsRow : OpenClaim := { program := "ytcdpocffoapbeaagreatdoor", sum := "d841d4e9edd9cc4ebd3f0ee52faf29f013dfc67d76acdab64564195181ebf0b8", func := "pouch/pouchlaw35.MergeRows", spec := "mergeRows", inPlace := ["internal/abi.NoEscape", "internal/bytealg.abigen_runtime_cmpstring"], unfollowed := true, recurses := true, named := ["pouch/fold.spans", "pouch/cut.spans"], plainKeys := false, apart := false, laid := [("pouch/fold.spans", laid_pouch_fold_spans), ("pouch/cut.spans", laid_pouch_cut_spans)] }
def MergeRowsSaid : Prop := mergeRowsRow.holds Tryz.pinned (OpenSpec.ofChange mergeRowsSpec)

/-- ITS FALSE NEIGHBOUR: 'it returns false'. Refute it at one input. -/
def mergeRowsWrong : ChangeSpec := { name := "mergeRows", fn := fun _ => fun
  | [d1, d2, d3, d4] => { results := [.lit (.bool false)], args := [d1, d2, d3, d4] }
  | _ => none }
def MergeRowsWrongFalsely : Prop := mergeRowsRow.holds Tryz.pinned (OpenSpec.ofChange mergeRowsWrong)

/-- 'pouchlaw35.MergeLooks': WHATEVER THE INPUT: true; the input reads as it did. -/
def mergeLooksSpec : ChangeSpec := { name := "mergeLooks", fn := fun _ => fun
  | [d1, d2, d3, d4, d5] => { results := [.lit (.bool true)], args := [d1, d2, d3, d4, d5] }
  | _ => none }
def mergeLooksRow : OpenClaim := { program := "ytcdpocffoapbeaagreatdoor", sum := "d841d4e9edd9cc4ebd3f0ee52faf29f013dfc67d76acdab64564195181ebf0b8", func := "pouch/pouchlaw35.MergeLooks", spec := "mergeLooks", inPlace := ["internal/abi.NoEscape", "internal/bytealg.abigen_runtime_cmpstring"], unfollowed := true, recurses := true, named := ["pouch/fold.spans", "pouch/cut.spans"], plainKeys := false, apart := false, laid := [("pouch/fold.spans", laid_pouch_fold_spans), ("pouch/cut.spans", laid_pouch_cut_spans)] }
def MergeLooksSaid : Prop := mergeLooksRow.holds Tryz.pinned (OpenSpec.ofChange mergeLooksSpec)

/-- ITS FALSE NEIGHBOUR: 'it returns false'. Refute it at one input. -/
def mergeLooksWrong : ChangeSpec := { name := "mergeLooks", fn := fun _ => fun
  | [d1, d2, d3, d4, d5] => { results := [.lit (.bool false)], args := [d1, d2, d3, d4, d5] }
  | _ => none }
def MergeLooksWrongFalsely : Prop := mergeLooksRow.holds Tryz.pinned (OpenSpec.ofChange mergeLooksWrong)

/- THE SECOND FORM. 'bulk': how many values and letters a reading holds, each counted each time it is reached (what is shared counts as often as it is met; a slice's spare places count too). A statement '..UptoSaid' is the law's where the arguments, and the package variables that the reading takes, are together of bulk at most 1048576: NARROWER than '..Said'. Prove '..Said' where nothing that the law and all that it calls make is longer than what came in: it says more and counts as full. Else prove '..UptoSaid'. A law counts once. -/
mutual
def uptoBulk {H : Type} : DataW H → Nat
  | .lit (.string bytes) => bytes.length + 1
  | .lit _ => 1
  | .nil => 1
  | .ptr d => uptoBulk d + 1
  | .slice elems spare => uptoBulkAll elems + uptoBulkAll spare + 1
  | .agg parts => uptoBulkAll parts + 1
  | .iface _ d => uptoBulk d + 1
  | .map entries => uptoBulkEntries entries + 1
  | .held _ => 1
def uptoBulkAll {H : Type} : List (DataW H) → Nat
  | [] => 0
  | d :: r => uptoBulk d + uptoBulkAll r
def uptoBulkEntries {H : Type} : List (Lit × DataW H) → Nat
  | [] => 0
  | x :: r => uptoBulkEntry x + uptoBulkEntries r
def uptoBulkEntry {H : Type} : Lit × DataW H → Nat
  | (.string bytes, d) => bytes.length + uptoBulk d + 1
  | (_, d) => uptoBulk d + 1
 end
def uptoSmall : (H : Type) → List (DataW H) → Bool := fun _ ds => decide (uptoBulkAll ds ≤ 1048576)
def OpenSpec.upto (s : _root_.Go.ChangeSpec) : _root_.Go.OpenSpec := { _root_.Go.OpenSpec.ofChange s with cond := some uptoSmall }

/-- 'pouchlaw35.MergeTells', WHERE WHAT IT READS IS OF BULK AT MOST 1048576: true; the input reads as it did. -/
def mergeTellsUptoRow : OpenClaim := { program := "ytcdpocffoapbeaagreatdoor", sum := "d841d4e9edd9cc4ebd3f0ee52faf29f013dfc67d76acdab64564195181ebf0b8", func := "pouch/pouchlaw35.MergeTells", spec := "mergeTells", inPlace := ["internal/abi.NoEscape", "internal/bytealg.abigen_runtime_cmpstring"], unfollowed := true, recurses := true, named := ["pouch/fold.spans", "pouch/cut.spans"], plainKeys := false, apart := false, laid := [("pouch/fold.spans", laid_pouch_fold_spans), ("pouch/cut.spans", laid_pouch_cut_spans)], narrowed := true }
def MergeTellsUptoSaid : Prop := mergeTellsUptoRow.holds Tryz.pinned (OpenSpec.upto mergeTellsSpec)

/-- 'pouchlaw35.MergePicks', WHERE WHAT IT READS IS OF BULK AT MOST 1048576: true; the input reads as it did. -/
def mergePicksUptoRow : OpenClaim := { program := "ytcdpocffoapbeaagreatdoor", sum := "d841d4e9edd9cc4ebd3f0ee52faf29f013dfc67d76acdab64564195181ebf0b8", func := "pouch/pouchlaw35.MergePicks", spec := "mergePicks", inPlace := ["internal/abi.NoEscape", "internal/bytealg.abigen_runtime_cmpstring"], unfollowed := true, recurses := true, named := ["pouch/fold.spans", "pouch/cut.spans"], plainKeys := false, apart := false, laid := [("pouch/fold.spans", laid_pouch_fold_spans), ("pouch/cut.spans", laid_pouch_cut_spans)], narrowed := true }
def MergePicksUptoSaid : Prop := mergePicksUptoRow.holds Tryz.pinned (OpenSpec.upto mergePicksSpec)

/-- 'pouchlaw35.MergeBuilt', WHERE WHAT IT READS IS OF BULK AT MOST 1048576: true; the input reads as it did. -/
def mergeBuiltUptoRow : OpenClaim := { program := "ytcdpocffoapbeaagreatdoor", sum := "d841d4e9edd9cc4ebd3f0ee52faf29f013dfc67d76acdab64564195181ebf0b8", func := "pouch/pouchlaw35.MergeBuilt", spec := "mergeBuilt", inPlace := ["internal/abi.NoEscape", "internal/bytealg.abigen_runtime_cmpstring"], unfollowed := true, recurses := true, named := ["pouch/fold.spans", "pouch/cut.spans"], plainKeys := false, apart := false, laid := [("pouch/fold.spans", laid_pouch_fold_spans), ("pouch/cut.spans", laid_pouch_cut_spans)], narrowed := true }
def MergeBuiltUptoSaid : Prop := mergeBuiltUptoRow.holds Tryz.pinned (OpenSpec.upto mergeBuiltSpec)

/-- 'pouchlaw35.MergeRows', WHERE WHAT IT READS IS OF BULK AT MOST 1048576: true; the input reads as it did. -/
def mergeRowsUptoRow : OpenClaim := { program := "ytcdpocffoapbeaagreatdoor", sum := "d841d4e9edd9cc4ebd3f0ee52faf29f013dfc67d76acdab64564195181ebf0b8", func := "pouch/pouchlaw35.MergeRows", spec := "mergeRows", inPlace := ["internal/abi.NoEscape", "internal/bytealg.abigen_runtime_cmpstring"], unfollowed := true, recurses := true, named := ["pouch/fold.spans", "pouch/cut.spans"], plainKeys := false, apart := false, laid := [("pouch/fold.spans", laid_pouch_fold_spans), ("pouch/cut.spans", laid_pouch_cut_spans)], narrowed := true }
def MergeRowsUptoSaid : Prop := mergeRowsUptoRow.holds Tryz.pinned (OpenSpec.upto mergeRowsSpec)

/-- 'pouchlaw35.MergeLooks', WHERE WHAT IT READS IS OF BULK AT MOST 1048576: true; the input reads as it did. -/
def mergeLooksUptoRow : OpenClaim := { program := "ytcdpocffoapbeaagreatdoor", sum := "d841d4e9edd9cc4ebd3f0ee52faf29f013dfc67d76acdab64564195181ebf0b8", func := "pouch/pouchlaw35.MergeLooks", spec := "mergeLooks", inPlace := ["internal/abi.NoEscape", "internal/bytealg.abigen_runtime_cmpstring"], unfollowed := true, recurses := true, named := ["pouch/fold.spans", "pouch/cut.spans"], plainKeys := false, apart := false, laid := [("pouch/fold.spans", laid_pouch_fold_spans), ("pouch/cut.spans", laid_pouch_cut_spans)], narrowed := true }
def MergeLooksUptoSaid : Prop := mergeLooksUptoRow.holds Tryz.pinned (OpenSpec.upto mergeLooksSpec)

end Rows
end Go.Proofs.YtcdpocffoapbeaaGreatDoor
