/- Helper text of this claim: Kit8: lemmas and contracts that the proved statement rests on; no conditions of its own. -/
import Derived.Test.YtmipmlcolaaonaaDoorGsn
import Derived.Test.YtmipmlcolaaonaaDoorWcz
namespace Go.Vc
open Go Go.Pw
set_option linter.unusedVariables false
/-! ### Loads by facts of earlier worlds -/
theorem at_mono {w w' : World} {b o : Nat} {vs : List Value} (h : At w b o vs) (k : Keeps w w' none_) : At w' b o vs := fun i v hi => by
  have := h i v hi
  have hlt : b < w.heap.size := by
    rcases Nat.lt_or_ge b w.heap.size with h' | h'
    · exact h'
    · unfold World.cell? at this
      dsimp only at this
      rw [Array.getElem?_eq_none h'] at this
      cases this
  rw [k.cell hlt id]; exact this
theorem cell_mono {w w' : World} {a : Addr} {v : Value} (h : w.cell? a = some v) (k : Keeps w w' none_) : w'.cell? a = some v := by
  have hlt : a.block < w.heap.size := by
    rcases Nat.lt_or_ge a.block w.heap.size with h' | h'
    · exact h'
    · unfold World.cell? at h
      rw [Array.getElem?_eq_none h'] at h
      cases h
  rw [k.cell hlt id]; exact h
section
variable {P : Program} {t : TypeId} {w w0 : World} {K : Value → Prop}
theorem LoadK {a : Addr} {v : Value} (ht : isAggB P t = false) (h : w0.cell? a = some v) (q : Keeps w0 w none_) (k : K v) : Load P t a w K := Load.one ht (cell_mono h q) k
theorem LoadD {a : Addr} {v : Value} (ht : isAggB P t = false) (h : w0.cell? a = some v) (q : Keeps w0 w none_) (k : K v) : Load P t a w.drew K := Load.one ht (cell_mono h q.drew) k
theorem LoadS {a : Addr} {v : Value} (ht : isAggB P t = false) (h : w.cell? a = some v) (k : K v) : Load P t a w.drew K := Load.one ht h k
/-- What lies in an element of a row. -/
theorem at_row {α : Type} {enc : α → List Value} {g o n : Nat} {l : List α} (h : At w0 g o (l.flatMap enc)) (hn : ∀ x, (enc x).length = n) {i : Nat} (hi : i < l.length) : At w0 g (o + i * n) (enc l[i]) := fun j v hj => by
  have hjn : j < n := by rw [← hn l[i]]; exact (List.getElem?_eq_some_iff.1 hj).1
  have key : ∀ (l : List α) (i : Nat) (hi : i < l.length) (j : Nat), j < n → (l.flatMap enc)[i * n + j]? = (enc l[i])[j]? := by
    intro l
    induction l with
    | nil => intro i hi; simp at hi
    | cons x r ih =>
      intro i hi j hj
      cases i with
      | zero =>
        rw [List.flatMap_cons, Nat.zero_mul, Nat.zero_add, List.getElem?_append_left (by rw [hn]; exact hj)]; rfl
      | succ i =>
        have e : (i + 1) * n + j = n + (i * n + j) := by rw [Nat.succ_mul]; omega
        rw [List.flatMap_cons, e, List.getElem?_append_right (by rw [hn]; omega), hn, Nat.add_sub_cancel_left, ih i (by simpa using hi) j hj]; rfl
  rw [Nat.add_assoc]
  exact h (i * n + j) v ((key l i hi j hjn).trans hj)
theorem LoadF {α : Type} {enc : α → List Value} {g o n i j : Nat} {l : List α} {v : Value} (ht : isAggB P t = false) (h : At w0 g o (l.flatMap enc)) (q : Keeps w0 w none_) (hn : ∀ x, (enc x).length = n) (hi : i < l.length) (hv : (enc l[i])[j]? = some v) (k : K v) : Load P t ⟨g, o + i * n + j, none⟩ w K :=
  Load.one ht (cell_mono (at_row h hn hi j v hv) q) k
theorem LoadF0 {α : Type} {enc : α → List Value} {g o n i : Nat} {l : List α} {v : Value} (ht : isAggB P t = false) (h : At w0 g o (l.flatMap enc)) (q : Keeps w0 w none_) (hn : ∀ x, (enc x).length = n) (hi : i < l.length) (hv : (enc l[i])[0]? = some v) (k : K v) : Load P t ⟨g, o + i * n, none⟩ w K :=
  Load.one ht (cell_mono (at_row h hn hi 0 v hv) q) k
theorem LoadA {α : Type} {enc : α → List Value} {g o n i : Nat} {l : List α} (ht : isAggB P t = true) (hu : (P.underlying t).isSome = true) (h : At w0 g o (l.flatMap enc)) (q : Keeps w0 w none_) (hn : ∀ x, (enc x).length = n) (hi : i < l.length) (hs : sizeOfT P t = some n) (k : K (.agg (enc l[i]).toArray)) : Load P t ⟨g, o + i * n, none⟩ w K :=
  Load.agg _ ht hu (by rw [hs, hn]) (at_mono (at_row h hn hi) q) k
theorem HeldK {S : World → Prop} {a : Addr} {v : Value} (ht : isAggB P t = false) (h : w0.cell? a = some v) (q : ∀ u, S u → Keeps w0 u none_) (k : K v) : Held P S t a K := Held.one ht (fun u hu => cell_mono h (q u hu)) k
theorem HeldF {S : World → Prop} {α : Type} {enc : α → List Value} {g o n i j : Nat} {l : List α} {v : Value} (ht : isAggB P t = false) (h : At w0 g o (l.flatMap enc)) (q : ∀ u, S u → Keeps w0 u none_) (hn : ∀ x, (enc x).length = n) (hi : i < l.length) (hv : (enc l[i])[j]? = some v) (k : K v) : Held P S t ⟨g, o + i * n + j, none⟩ K :=
  Held.one ht (fun u hu => cell_mono (at_row h hn hi j v hv) (q u hu)) k
theorem HeldF0 {S : World → Prop} {α : Type} {enc : α → List Value} {g o n i : Nat} {l : List α} {v : Value} (ht : isAggB P t = false) (h : At w0 g o (l.flatMap enc)) (q : ∀ u, S u → Keeps w0 u none_) (hn : ∀ x, (enc x).length = n) (hi : i < l.length) (hv : (enc l[i])[0]? = some v) (k : K v) : Held P S t ⟨g, o + i * n, none⟩ K :=
  Held.one ht (fun u hu => cell_mono (at_row h hn hi 0 v hv) (q u hu)) k
end
theorem KGO {p q : Prop} (k : q) (h : Hide q → p := by intro k_; (repeat ((first | refine Go.Vc.Br.dec_yes rfl ?_ | refine Go.Vc.Num.i64 (by omega) (by omega) ?_ | refine Go.Vc.Num.i32 (by omega) (by omega) ?_ | refine Go.Vc.Num.u8 (by omega) (by omega) ?_ | refine Go.Vc.Br.tt ?_ | refine Go.Vc.Br.ff ?_ | refine Go.Vc.Br.not_yes ?_ | refine Go.Vc.Br.dec_yes (by omega) ?_ | refine Go.Vc.Br.dec_no (by omega) ?_ | refine Go.Vc.Br.beq_yes (by omega) ?_ | refine Go.Vc.Br.beq_no (by omega) ?_ | refine Go.Vc.Br.bne_yes (by omega) ?_ | refine Go.Vc.Br.bne_no (by omega) ?_ | refine Go.Vc.Draw.text (by decide +kernel) ?_ | refine Go.Vc.Idx.lit (j := 0) rfl (by omega) ?_ | refine Go.Vc.Idx.lit (j := 1) rfl (by omega) ?_ | refine Go.Vc.Idx.lit (j := 2) rfl (by omega) ?_ | refine Go.Vc.Idx.lit (j := 3) rfl (by omega) ?_ | refine Go.Vc.Idx.lit (j := 4) rfl (by omega) ?_ | refine Go.Vc.Idx.lit (j := 5) rfl (by omega) ?_ | refine Go.Vc.Idx.lit (j := 6) rfl (by omega) ?_ | refine Go.Vc.Idx.lit (j := 7) rfl (by omega) ?_ | refine Go.Vc.Idx.nat (by omega) ?_ | refine Go.Vc.Idx.int (by omega) (by omega) ?_ | refine Go.Vc.Cut.to (by omega) ?_ | refine Go.Vc.Cut.from (by omega) (by omega) ?_ | refine Go.Vc.Cut.both (by omega) (by omega) ?_ | refine Go.Vc.Br.dec_yes (by with_reducible assumption) ?_ | refine Go.Vc.Br.dec_no (by with_reducible assumption) ?_ | refine Go.Vc.Br.yes (by with_reducible assumption) ?_ | refine Go.Vc.Br.no (by with_reducible assumption) ?_ | refine Go.Vc.Load.one (by rfl) (by with_reducible assumption) ?_ | refine Go.Vc.LoadK (by rfl) (by with_reducible assumption) (by with_reducible assumption) ?_ | refine Go.Vc.LoadD (by rfl) (by with_reducible assumption) (by with_reducible assumption) ?_ | refine Go.Vc.LoadS (by rfl) (by with_reducible assumption) ?_ | refine Go.Vc.LoadF (by rfl) (by with_reducible assumption) (by with_reducible assumption) (fun _ => rfl) (by omega) rfl ?_ | refine Go.Vc.LoadF0 (by rfl) (by with_reducible assumption) (by with_reducible assumption) (fun _ => rfl) (by omega) rfl ?_ | refine Go.Vc.LoadA (by rfl) (by rfl) (by with_reducible assumption) (by with_reducible assumption) (fun _ => rfl) (by omega) (by rfl) ?_ | refine Go.Vc.LoadF (by rfl) (by with_reducible assumption) (Go.Pw.Keeps.drew (by with_reducible assumption)) (fun _ => rfl) (by omega) rfl ?_ | refine Go.Vc.LoadF0 (by rfl) (by with_reducible assumption) (Go.Pw.Keeps.drew (by with_reducible assumption)) (fun _ => rfl) (by omega) rfl ?_ | refine Go.Vc.LoadA (by rfl) (by rfl) (by with_reducible assumption) (Go.Pw.Keeps.drew (by with_reducible assumption)) (fun _ => rfl) (by omega) (by rfl) ?_ | refine Go.Vc.HeldK (by rfl) (by with_reducible assumption) (fun _ hu => hu) ?_ | refine Go.Vc.HeldK (by rfl) (by with_reducible assumption) (fun _ hu => Go.Pw.Keeps.trans0 (by with_reducible assumption) hu) ?_ | refine Go.Vc.HeldF (by rfl) (by with_reducible assumption) (fun _ hu => hu) (fun _ => rfl) (by omega) rfl ?_ | refine Go.Vc.HeldF (by rfl) (by with_reducible assumption) (fun _ hu => Go.Pw.Keeps.trans0 (by with_reducible assumption) hu) (fun _ => rfl) (by omega) rfl ?_ | refine Go.Vc.HeldF0 (by rfl) (by with_reducible assumption) (fun _ hu => hu) (fun _ => rfl) (by omega) rfl ?_ | refine Go.Vc.HeldF0 (by rfl) (by with_reducible assumption) (fun _ hu => Go.Pw.Keeps.trans0 (by with_reducible assumption) hu) (fun _ => rfl) (by omega) rfl ?_ | refine (?_ : Go.Vc.Sat _ _ _ _ _ _ _) | refine (?_ : Go.Vc.Then _ _ _ _ _ _ _ _)); (first | refine Go.Vc.Then.go hmix ?_ | refine Go.Vc.Sat.go hmix ?_ | skip); conv => whnf)); exact Hide.h k_) : p := h ⟨k⟩
end Go.Vc
