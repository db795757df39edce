/- Helper text of this claim: CyO: lemmas and contracts that the proved statement rests on; no conditions of its own. -/
import Derived.Test.YtcplagfblmemhaaGCy5
import Derived.Test.YtcplagfblmemhaaGOpn
-- alias Try
namespace Go.Proofs.Ytcplagfblmemhaa
set_option linter.unusedVariables false
open Go.Shelf Go.RowKit Go.Pw Go.Vc Go.Cs Go.Lib Go.Cx
set_option linter.unusedVariables false
set_option maxRecDepth 100000
abbrev cJ : Int → List Value := fun z => [Value.int .i64 z]
abbrev pJ : Int → Prop := fun z => -9223372036854775808 ≤ z ∧ z ≤ 9223372036854775807
abbrev c3 : Int × Unit → List Value := fun y => cJ y.1 ++ (fun _ : Unit => ([] : List Value)) y.2
abbrev p3 : Int × Unit → Prop := fun y => pJ y.1 ∧ (fun _ : Unit => True) y.2
abbrev c2 : Int × Int × Unit → List Value := fun y => cJ y.1 ++ c3 y.2
abbrev p2 : Int × Int × Unit → Prop := fun y => pJ y.1 ∧ p3 y.2
abbrev c1 : Int × Int × Int × Unit → List Value := fun y => cJ y.1 ++ c2 y.2
abbrev p1 : Int × Int × Int × Unit → Prop := fun y => pJ y.1 ∧ p2 y.2
theorem opens_chg {W : World} : Opens Try.prog W 48 chC (fun c => c.id < 9223372036854775808) := by
  refine @Opens.imp _ _ _ _ _ c1 p1 _ _ (@opens_struct _ _ _ _ 3 (Int × Int × Int × Unit) c1 p1 Try.underlying48 (by kernel_rfl) ?h) (fun y => (⟨y.1, y.2.1, y.2.2.1⟩ : Chg)) (fun _ => rfl) (fun y h => by have := h.2.1.2; dsimp only; omega)
  refine @opens_cons _ _ _ _ _ _ 1 _ _ cJ pJ c2 p2 rfl ?_ ?_ ?_
  · kernel_rfl
  · exact @opens_int _ _ _ Try.underlying3
  refine @opens_cons _ _ _ _ _ _ 1 _ _ cJ pJ c3 p3 rfl ?_ ?_ ?_
  · kernel_rfl
  · exact @opens_int _ _ _ Try.underlying3
  refine @opens_cons _ _ _ _ _ _ 1 _ _ cJ pJ (fun _ : Unit => ([] : List Value)) (fun _ : Unit => True) rfl ?_ ?_ ?_
  · kernel_rfl
  · exact @opens_int _ _ _ Try.underlying3
  exact @opens_nil _ _ _
abbrev qC (W : World) : Value × List Chg → Prop := fun y => RowO W y.1 chC y.2 ∧ y.2.length * 24 ≤ 140737488351232 ∧ ∀ z ∈ y.2, z.id < 9223372036854775808
theorem opens_chgs {W : World} : Opens Try.prog W 37 (fun y : Value × List Chg => [y.1]) (qC W) :=
  @opens_slice Try.prog W 37 _ Chg _ _ _ 3 24 Try.underlying37 (@opens_chg W) (fun _ => rfl) (by decide) (by kernel_rfl) (by kernel_rfl) (by decide)
def slV : Value → Sl
  | .slice a n c => ⟨a, n, c⟩
  | _ => ⟨none, 0, 0⟩
theorem slV_of {α : Type} {W : World} {v : Value} {c : α → List Value} {l : List α} (h : RowO W v c l) : v = (slV v).v := by
  obtain ⟨a, cap, rfl, _⟩ := h
  rfl
theorem opens_slc {W : World} : Opens Try.prog W 37 slcC (fun p => RowC W p.1.v p.2 ∧ ∀ z ∈ p.2, z.id < 9223372036854775808) :=
  @Opens.impP _ _ _ _ _ _ _ _ _ (@opens_chgs W) (fun y => (slV y.1, y.2)) (fun y h => by
    show [y.1] = [(slV y.1).v]
    rw [← slV_of h.1]) (fun y h => ⟨by show RowO W (slV y.1).v chC y.2; rw [← slV_of h.1]; exact h.1, h.2.2⟩)
instance : Inhabited (Sl × List Chg) := ⟨(⟨none, 0, 0⟩, [])⟩
/-- The lists of changes that came in. -/
theorem notes_of {W : World} {H : Type} {enc : TypeId × Value → H} {v : Value} {d : DataW H} {ps : List MemPlace} (hs : v.cells.toList = [v]) (ht : DataW.Trod enc Try.prog W 0 (fun _ => true) true 22 v d ps) (hsz : ∀ n ∈ d.weights Try.prog 22, n ≤ reachBytes) :
    ∃ l : List (Sl × List Chg), RowO W v slcC l ∧ (∀ p ∈ l, RowC W p.1.v p.2) ∧ l.length ≤ 17592186044416 ∧ ∀ p ∈ l, ∀ c ∈ p.2, c.id < 9223372036854775808 := by
  have op := @opens_slice Try.prog W 22 _ (Sl × List Chg) _ _ _ 1 24 Try.underlying22 (@opens_slc W) (fun _ => rfl) (by decide) (by kernel_rfl) (by kernel_rfl) (by decide)
  obtain ⟨⟨v1, l⟩, e, h1, h2, h3⟩ := opens_param (@op) ht hsz
  rw [hs] at e
  obtain rfl : v = v1 := by simpa using e
  exact ⟨l, h1, fun p hp => (h3 p hp).1, by dsimp only at h2; omega, fun p hp => (h3 p hp).2⟩
theorem chgs_of {W : World} {H : Type} {enc : TypeId × Value → H} {v : Value} {d : DataW H} {ps : List MemPlace} (hs : v.cells.toList = [v]) (ht : DataW.Trod enc Try.prog W 0 (fun _ => true) true 37 v d ps) (hsz : ∀ n ∈ d.weights Try.prog 37, n ≤ reachBytes) :
    ∃ l : List Chg, RowC W v l ∧ l.length ≤ 17592186044416 ∧ ∀ c ∈ l, c.id < 9223372036854775808 := by
  obtain ⟨⟨v1, l⟩, e, h1, h2, h3⟩ := opens_param (@opens_chgs W) ht hsz
  rw [hs] at e
  obtain rfl : v = v1 := by simpa using e
  exact ⟨l, h1, by dsimp only at h2; omega, h3⟩
end Go.Proofs.Ytcplagfblmemhaa
