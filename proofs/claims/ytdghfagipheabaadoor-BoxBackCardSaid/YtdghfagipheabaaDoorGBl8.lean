/- Helper text of this claim: Bl8, Tabs2: lemmas and contracts that the proved statement rests on; no conditions of its own. -/
import Derived.Test.YtdghfagipheabaaDoorGBw14
import Derived.Test.YtdghfagipheabaaDoorGOpn
import Derived.Test.YtdghfagipheabaaDoorGShf
import Derived.Test.YtdghfagipheabaaDoorRows
import Derived.PinnedBridge
import Derived.Lib.LaidU8
-- alias Tryd
namespace Go.Proofs.YtdghfagipheabaaDoor
open Go.RowKit Go.Pw Go.Vc Go.Cs Go.Lib
set_option linter.unusedVariables false
set_option maxRecDepth 100000
instance : Inhabited Bx := ⟨bx0⟩
instance : Inhabited ActB := ⟨⟨0, 0, 0, [], []⟩⟩
theorem opens_box {W : World} : Opens Tryd.prog W 37 boxCells (fun _ => True) := by
  refine @Opens.imp _ _ _ _ _ (fun y : Int × Int × ByteArray × ByteArray × Unit => (fun z : Int => [Value.int .i64 z]) y.1 ++ (fun y : Int × ByteArray × ByteArray × Unit => (fun z : Int => [Value.int .i64 z]) y.1 ++ (fun y : ByteArray × ByteArray × Unit => (fun z : ByteArray => [Value.string z]) y.1 ++ (fun y : ByteArray × Unit => (fun z : ByteArray => [Value.string z]) y.1 ++ (fun _ : Unit => ([] : List Value)) y.2) y.2) y.2) y.2) (fun y : Int × Int × ByteArray × ByteArray × Unit => (fun z : Int => -9223372036854775808 ≤ z ∧ z ≤ 9223372036854775807) y.1 ∧ (fun y : Int × ByteArray × ByteArray × Unit => (fun z : Int => -9223372036854775808 ≤ z ∧ z ≤ 9223372036854775807) y.1 ∧ (fun y : ByteArray × ByteArray × Unit => (fun z : ByteArray => z.size ≤ 140737488355328) y.1 ∧ (fun y : ByteArray × Unit => (fun z : ByteArray => z.size ≤ 140737488355328) y.1 ∧ (fun _ : Unit => True) y.2) y.2) y.2) y.2) _ _ (@opens_struct _ _ _ _ 4 (Int × Int × ByteArray × ByteArray × Unit) _ _ Tryd.underlying37 (by kernel_rfl) ?h) (fun y => (⟨y.1, y.2.1, L y.2.2.1, L y.2.2.2.1⟩ : Bx)) (fun _ => rfl) (fun _ _ => trivial)
  refine @opens_cons _ _ _ _ _ _ 1 _ _ (fun z : Int => [Value.int .i64 z]) (fun z : Int => -9223372036854775808 ≤ z ∧ z ≤ 9223372036854775807) (fun y : Int × ByteArray × ByteArray × Unit => (fun z : Int => [Value.int .i64 z]) y.1 ++ (fun y : ByteArray × ByteArray × Unit => (fun z : ByteArray => [Value.string z]) y.1 ++ (fun y : ByteArray × Unit => (fun z : ByteArray => [Value.string z]) y.1 ++ (fun _ : Unit => ([] : List Value)) y.2) y.2) y.2) (fun y : Int × ByteArray × ByteArray × Unit => (fun z : Int => -9223372036854775808 ≤ z ∧ z ≤ 9223372036854775807) y.1 ∧ (fun y : ByteArray × ByteArray × Unit => (fun z : ByteArray => z.size ≤ 140737488355328) y.1 ∧ (fun y : ByteArray × Unit => (fun z : ByteArray => z.size ≤ 140737488355328) y.1 ∧ (fun _ : Unit => True) y.2) y.2) y.2) rfl ?_ ?_ ?_
  · kernel_rfl
  · exact @opens_int _ _ _ Tryd.underlying3
  refine @opens_cons _ _ _ _ _ _ 1 _ _ (fun z : Int => [Value.int .i64 z]) (fun z : Int => -9223372036854775808 ≤ z ∧ z ≤ 9223372036854775807) (fun y : ByteArray × ByteArray × Unit => (fun z : ByteArray => [Value.string z]) y.1 ++ (fun y : ByteArray × Unit => (fun z : ByteArray => [Value.string z]) y.1 ++ (fun _ : Unit => ([] : List Value)) y.2) y.2) (fun y : ByteArray × ByteArray × Unit => (fun z : ByteArray => z.size ≤ 140737488355328) y.1 ∧ (fun y : ByteArray × Unit => (fun z : ByteArray => z.size ≤ 140737488355328) y.1 ∧ (fun _ : Unit => True) y.2) y.2) rfl ?_ ?_ ?_
  · kernel_rfl
  · exact @opens_int _ _ _ Tryd.underlying3
  refine @opens_cons _ _ _ _ _ _ 1 _ _ (fun z : ByteArray => [Value.string z]) (fun z : ByteArray => z.size ≤ 140737488355328) (fun y : ByteArray × Unit => (fun z : ByteArray => [Value.string z]) y.1 ++ (fun _ : Unit => ([] : List Value)) y.2) (fun y : ByteArray × Unit => (fun z : ByteArray => z.size ≤ 140737488355328) y.1 ∧ (fun _ : Unit => True) y.2) rfl ?_ ?_ ?_
  · kernel_rfl
  · exact @opens_string _ _ _ Tryd.underlying9
  refine @opens_cons _ _ _ _ _ _ 1 _ _ (fun z : ByteArray => [Value.string z]) (fun z : ByteArray => z.size ≤ 140737488355328) (fun _ : Unit => ([] : List Value)) (fun _ : Unit => True) rfl ?_ ?_ ?_
  · kernel_rfl
  · exact @opens_string _ _ _ Tryd.underlying9
  exact @opens_nil _ _ _
theorem opens_act {W : World} : Opens Tryd.prog W 32 actCells (fun _ => True) := by
  refine @Opens.imp _ _ _ _ _ (fun y : Int × Int × Int × ByteArray × ByteArray × Unit => (fun z : Int => [Value.int .i64 z]) y.1 ++ (fun y : Int × Int × ByteArray × ByteArray × Unit => (fun z : Int => [Value.int .i64 z]) y.1 ++ (fun y : Int × ByteArray × ByteArray × Unit => (fun z : Int => [Value.int .i64 z]) y.1 ++ (fun y : ByteArray × ByteArray × Unit => (fun z : ByteArray => [Value.string z]) y.1 ++ (fun y : ByteArray × Unit => (fun z : ByteArray => [Value.string z]) y.1 ++ (fun _ : Unit => ([] : List Value)) y.2) y.2) y.2) y.2) y.2) (fun y : Int × Int × Int × ByteArray × ByteArray × Unit => (fun z : Int => -9223372036854775808 ≤ z ∧ z ≤ 9223372036854775807) y.1 ∧ (fun y : Int × Int × ByteArray × ByteArray × Unit => (fun z : Int => -9223372036854775808 ≤ z ∧ z ≤ 9223372036854775807) y.1 ∧ (fun y : Int × ByteArray × ByteArray × Unit => (fun z : Int => -9223372036854775808 ≤ z ∧ z ≤ 9223372036854775807) y.1 ∧ (fun y : ByteArray × ByteArray × Unit => (fun z : ByteArray => z.size ≤ 140737488355328) y.1 ∧ (fun y : ByteArray × Unit => (fun z : ByteArray => z.size ≤ 140737488355328) y.1 ∧ (fun _ : Unit => True) y.2) y.2) y.2) y.2) y.2) _ _ (@opens_struct _ _ _ _ 5 (Int × Int × Int × ByteArray × ByteArray × Unit) _ _ Tryd.underlying32 (by kernel_rfl) ?h) (fun y => (⟨y.1, y.2.1, y.2.2.1, L y.2.2.2.1, L y.2.2.2.2.1⟩ : ActB)) (fun _ => rfl) (fun _ _ => trivial)
  refine @opens_cons _ _ _ _ _ _ 1 _ _ (fun z : Int => [Value.int .i64 z]) (fun z : Int => -9223372036854775808 ≤ z ∧ z ≤ 9223372036854775807) (fun y : Int × Int × ByteArray × ByteArray × Unit => (fun z : Int => [Value.int .i64 z]) y.1 ++ (fun y : Int × ByteArray × ByteArray × Unit => (fun z : Int => [Value.int .i64 z]) y.1 ++ (fun y : ByteArray × ByteArray × Unit => (fun z : ByteArray => [Value.string z]) y.1 ++ (fun y : ByteArray × Unit => (fun z : ByteArray => [Value.string z]) y.1 ++ (fun _ : Unit => ([] : List Value)) y.2) y.2) y.2) y.2) (fun y : Int × Int × ByteArray × ByteArray × Unit => (fun z : Int => -9223372036854775808 ≤ z ∧ z ≤ 9223372036854775807) y.1 ∧ (fun y : Int × ByteArray × ByteArray × Unit => (fun z : Int => -9223372036854775808 ≤ z ∧ z ≤ 9223372036854775807) y.1 ∧ (fun y : ByteArray × ByteArray × Unit => (fun z : ByteArray => z.size ≤ 140737488355328) y.1 ∧ (fun y : ByteArray × Unit => (fun z : ByteArray => z.size ≤ 140737488355328) y.1 ∧ (fun _ : Unit => True) y.2) y.2) y.2) y.2) rfl ?_ ?_ ?_
  · kernel_rfl
  · exact @opens_int _ _ _ Tryd.underlying3
  refine @opens_cons _ _ _ _ _ _ 1 _ _ (fun z : Int => [Value.int .i64 z]) (fun z : Int => -9223372036854775808 ≤ z ∧ z ≤ 9223372036854775807) (fun y : Int × ByteArray × ByteArray × Unit => (fun z : Int => [Value.int .i64 z]) y.1 ++ (fun y : ByteArray × ByteArray × Unit => (fun z : ByteArray => [Value.string z]) y.1 ++ (fun y : ByteArray × Unit => (fun z : ByteArray => [Value.string z]) y.1 ++ (fun _ : Unit => ([] : List Value)) y.2) y.2) y.2) (fun y : Int × ByteArray × ByteArray × Unit => (fun z : Int => -9223372036854775808 ≤ z ∧ z ≤ 9223372036854775807) y.1 ∧ (fun y : ByteArray × ByteArray × Unit => (fun z : ByteArray => z.size ≤ 140737488355328) y.1 ∧ (fun y : ByteArray × Unit => (fun z : ByteArray => z.size ≤ 140737488355328) y.1 ∧ (fun _ : Unit => True) y.2) y.2) y.2) rfl ?_ ?_ ?_
  · kernel_rfl
  · exact @opens_int _ _ _ Tryd.underlying3
  refine @opens_cons _ _ _ _ _ _ 1 _ _ (fun z : Int => [Value.int .i64 z]) (fun z : Int => -9223372036854775808 ≤ z ∧ z ≤ 9223372036854775807) (fun y : ByteArray × ByteArray × Unit => (fun z : ByteArray => [Value.string z]) y.1 ++ (fun y : ByteArray × Unit => (fun z : ByteArray => [Value.string z]) y.1 ++ (fun _ : Unit => ([] : List Value)) y.2) y.2) (fun y : ByteArray × ByteArray × Unit => (fun z : ByteArray => z.size ≤ 140737488355328) y.1 ∧ (fun y : ByteArray × Unit => (fun z : ByteArray => z.size ≤ 140737488355328) y.1 ∧ (fun _ : Unit => True) y.2) y.2) rfl ?_ ?_ ?_
  · kernel_rfl
  · exact @opens_int _ _ _ Tryd.underlying3
  refine @opens_cons _ _ _ _ _ _ 1 _ _ (fun z : ByteArray => [Value.string z]) (fun z : ByteArray => z.size ≤ 140737488355328) (fun y : ByteArray × Unit => (fun z : ByteArray => [Value.string z]) y.1 ++ (fun _ : Unit => ([] : List Value)) y.2) (fun y : ByteArray × Unit => (fun z : ByteArray => z.size ≤ 140737488355328) y.1 ∧ (fun _ : Unit => True) y.2) rfl ?_ ?_ ?_
  · kernel_rfl
  · exact @opens_string _ _ _ Tryd.underlying9
  refine @opens_cons _ _ _ _ _ _ 1 _ _ (fun z : ByteArray => [Value.string z]) (fun z : ByteArray => z.size ≤ 140737488355328) (fun _ : Unit => ([] : List Value)) (fun _ : Unit => True) rfl ?_ ?_ ?_
  · kernel_rfl
  · exact @opens_string _ _ _ Tryd.underlying9
  exact @opens_nil _ _ _
theorem boxes_of {W : World} {H : Type} {enc : TypeId × Value → H} {v : Value} {d : DataW H} {ps : List MemPlace} (hs : v.cells.toList = [v]) (ht : DataW.Trod enc Tryd.prog W 0 (fun _ => true) true 22 v d ps) (hsz : ∀ n ∈ d.weights Tryd.prog 22, n ≤ reachBytes) :
    ∃ l : List Bx, RowB W v l ∧ l.length ≤ 9223372036854775807 := by
  have op := @opens_slice Tryd.prog W 22 _ Bx _ _ _ 4 48 Tryd.underlying22 (@opens_box W) (fun _ => rfl) (by decide) (by kernel_rfl) (by kernel_rfl) (by decide)
  obtain ⟨⟨v1, l⟩, e, h1, h2, _⟩ := opens_param (@op) ht hsz
  rw [hs] at e
  obtain rfl : v = v1 := by simpa using e
  exact ⟨l, h1, by dsimp only at h2; omega⟩
theorem acts_of {W : World} {H : Type} {enc : TypeId × Value → H} {v : Value} {d : DataW H} {ps : List MemPlace} (hs : v.cells.toList = [v]) (ht : DataW.Trod enc Tryd.prog W 0 (fun _ => true) true 30 v d ps) (hsz : ∀ n ∈ d.weights Tryd.prog 30, n ≤ reachBytes) :
    ∃ l : List ActB, RowO W v actCells l ∧ l.length ≤ 9223372036854775807 := by
  have op := @opens_slice Tryd.prog W 30 _ ActB _ _ _ 5 56 Tryd.underlying30 (@opens_act W) (fun _ => rfl) (by decide) (by kernel_rfl) (by kernel_rfl) (by decide)
  obtain ⟨⟨v1, l⟩, e, h1, h2, _⟩ := opens_param (@op) ht hsz
  rw [hs] at e
  obtain rfl : v = v1 := by simpa using e
  exact ⟨l, h1, by dsimp only at h2; omega⟩
end Go.Proofs.YtdghfagipheabaaDoor

-- alias Tryd
namespace Go.Proofs.YtdghfagipheabaaDoor
open Go.Shelf Go.RowKit Go.Pw Go.Vc Go.Cs Go.Lib
set_option maxRecDepth 100000
theorem u8x2 : U8Extra Tryd.prog ren197 := ⟨by kernel_rfl, by kernel_rfl, by kernel_rfl, by kernel_rfl, by kernel_rfl, by kernel_rfl, by kernel_rfl⟩
theorem acc_eq2 : (Rows.laid_unicode_utf8_acceptRanges : DataW Unit) = acceptData := by kernel_rfl
theorem fst_eq2 : Rows.laid_unicode_utf8_first = firstData := Pinned.utf8First_eq
/-- What the row's listed tables give. -/
theorem tabs_of2 {W : World} (h3 : VarReads Tryd.prog W "unicode/utf8.first" Rows.laid_unicode_utf8_first) (h4 : VarReads Tryd.prog W "unicode/utf8.acceptRanges" Rows.laid_unicode_utf8_acceptRanges) : Tabs W := by
  rw [acc_eq2] at h4
  rw [fst_eq2] at h3
  exact utf8Tabs_of_reads { lays197 with } u8x2 h3 h4
end Go.Proofs.YtdghfagipheabaaDoor
