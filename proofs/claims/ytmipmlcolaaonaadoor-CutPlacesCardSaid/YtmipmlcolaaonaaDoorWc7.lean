/- Helper text of this claim: Wc7: lemmas and contracts that the proved statement rests on; no conditions of its own. -/
import Derived.Test.YtmipmlcolaaonaaDoorWc6
namespace Go.Vc
open Go Go.Pw
set_option linter.unusedVariables false
theorem isAgg_yes {P : Program} {t : TypeId} (h : isAggB P t = true) (hu : (P.underlying t).isSome = true) (w : World) : (isAgg t).run P w = .ok true w := by
  unfold isAggB at h
  unfold isAgg
  split at h
  · rename_i fs hd; simp only [Sem.run_bind, und_ok hd, Result.andThen_ok]; rfl
  · rename_i n e hd; simp only [Sem.run_bind, und_ok hd, Result.andThen_ok]; rfl
  · cases h
  · rename_i hd; rw [hd] at hu; cases hu
/-- The cells from o on are these. -/
def At (w : World) (b o : Nat) (vs : List Value) : Prop := ∀ i v, vs[i]? = some v → w.cell? ⟨b, o + i, none⟩ = some v
theorem loadCells_at {P : Program} {w : World} {b o : Nat} : ∀ (vs : List Value) (i : Nat) (acc : Array Value), At w b (o + i) vs → (loadCellsFrom ⟨b, o, none⟩ i vs.length acc).run P w = .ok (acc ++ vs.toArray) w
  | [], i, acc, h => by simp [loadCellsFrom]
  | v :: r, i, acc, h => by
    have h0 : w.cell? ⟨b, o + i, none⟩ = some v := by simpa using h 0 v rfl
    have hr : At w b (o + (i + 1)) r := fun j u hj => by
      have := h (j + 1) u (by simpa using hj)
      rw [show o + (i + 1) + j = o + i + (j + 1) by omega]; exact this
    have e := loadCells_at (P := P) r (i + 1) (acc.push v) hr
    simp only [List.length_cons, loadCellsFrom, Sem.run_bind, load, add_none, Sem.run, h0]
    simp only [Result.andThen_ok]
    rw [e]
    simp
theorem Load.agg {P : Program} {t : TypeId} {b o : Nat} {w : World} (vs : List Value) {K : Value → Prop} (ht : isAggB P t = true) (hu : (P.underlying t).isSome = true) (hs : sizeOfT P t = some vs.length) (h : At w b o vs) (k : K (.agg vs.toArray)) : Load P t ⟨b, o, none⟩ w K := by
  refine ⟨_, ?_, k⟩
  unfold sizeOfT at hs
  split at hs
  · rename_i i hi
    have hs := Option.some.inj hs
    have e := loadCells_at (P := P) (w := w) vs 0 #[] (by simpa using h)
    unfold loadVar
    simp [isAgg_yes ht hu, size_ok hi, hs, loadCells, e]
  · cases hs
theorem at_cells {w : World} {b : Nat} {c : Array Value} {T : TypeId} {fr : Nat × Nat} (h : w.heap[b]? = some (.cells c T fr)) : At w b 0 c.toList := fun i v hi => by
  unfold World.cell?
  dsimp only
  rw [h]
  simpa using hi
/-- A value of one cell. -/
def Flat : Value → Prop
  | .agg _ | .tuple _ => False
  | _ => True
theorem setCell_new (w : World) (c : Array Value) (T : TypeId) (i : Nat) (v : Value) : (w.alloc (.cells c T)).setCell ⟨w.heap.size, i, none⟩ v = w.alloc (.cells (c.setIfInBounds i v) T) := by
  unfold World.setCell World.alloc
  congr 1
  apply Array.ext_getElem?
  intro j
  simp only [Array.getElem?_modify, Array.getElem?_push]
  by_cases hj : w.heap.size = j
  · subst hj; simp
  · rw [if_neg hj, if_neg (fun h => hj h.symm), if_neg (fun h => hj h.symm)]
theorem store_new {P : Program} {w : World} {T : TypeId} : ∀ (vs : List Value) (i : Nat) (c : Array Value), (∀ v ∈ vs, Flat v) → i + vs.length ≤ c.size →
    (storeCells ⟨w.heap.size, 0, none⟩ vs i).run P (w.alloc (.cells c T)) = .ok () (w.alloc (.cells (vs.zipIdx.foldl (fun cs p => cs.setIfInBounds (i + p.2) p.1) c) T))
  | [], i, c, _, _ => by simp [storeCells]
  | v :: r, i, c, hf, hl => by
    have hl' : i + r.length + 1 ≤ c.size := by simpa [Nat.add_assoc] using hl
    have hc : (w.alloc (.cells c T)).cell? ⟨w.heap.size, i, none⟩ = some (c[i]'(by omega)) := by
      rw [World.cell?_alloc_new]; exact Array.getElem?_eq_getElem (by omega)
    have hfr : (w.alloc (.cells c T)).frozen? ⟨w.heap.size, i, none⟩ = false := World.frozen?_alloc_new _ _ _ _
    have hv : Flat v := hf v (by simp)
    have e := store_new (P := P) (w := w) (T := T) r (i + 1) (c.setIfInBounds i v) (fun u hu => hf u (by simp [hu])) (by simp; omega)
    have hz : (v :: r).zipIdx.foldl (fun cs p => cs.setIfInBounds (i + p.2) p.1) c = r.zipIdx.foldl (fun cs p => cs.setIfInBounds (i + 1 + p.2) p.1) (c.setIfInBounds i v) := by
      rw [List.zipIdx_cons, List.foldl_cons]
      have : r.zipIdx (0 + 1) = r.zipIdx.map (fun p => (p.1, p.2 + 1)) := by
        rw [List.zipIdx_succ]
      rw [this, List.foldl_map]
      congr 1
      funext cs p; rw [show i + (p.2 + 1) = i + 1 + p.2 by omega]
    rw [hz, ← e, ← setCell_new]
    simp only [storeCells, add_none, Nat.zero_add, Sem.run_bind, store]
    cases v <;> first | exact hv.elim | simp [Sem.run, hc, hfr]
theorem fold_set (vs : List Value) : ∀ (c : Array Value), vs.length = c.size → vs.zipIdx.foldl (fun cs p => cs.setIfInBounds (0 + p.2) p.1) c = vs.toArray := by
  have key : ∀ (vs : List Value) (k : Nat) (c : Array Value), k + vs.length = c.size → (vs.zipIdx k).foldl (fun cs p => cs.setIfInBounds (0 + p.2) p.1) c = (c.toList.take k ++ vs).toArray := by
    intro vs
    induction vs with
    | nil =>
      intro k c h
      apply Array.ext'
      simp only [List.zipIdx_nil, List.foldl_nil, List.append_nil]
      rw [List.take_of_length_le]; simp at h ⊢; omega
    | cons v r ih =>
      intro k c h
      rw [List.zipIdx_cons, List.foldl_cons, ih (k + 1) _ (by simp at h ⊢; omega)]
      congr 1
      simp only [Nat.zero_add, Array.toList_setIfInBounds]
      have hk : k < c.toList.length := by simp at h ⊢; omega
      rw [List.take_succ_eq_append_getElem (by simpa using hk), List.getElem_set_self, List.take_set_of_le (Nat.le_refl _)]
      simp
  intro c h
  simpa using key vs 0 c (by simpa using h)
/-- A struct stored into a variable just made. -/
theorem Store.fresh {P : Program} {t T : TypeId} {w : World} {c : Array Value} {vs : List Value} {K : World → Prop} (hs : sizeOfT P t = some vs.length) (hc : c.size = vs.length) (hf : ∀ v ∈ vs, Flat v) (k : K (w.alloc (.cells vs.toArray T))) :
    Store P t ⟨w.heap.size, 0, none⟩ (.agg vs.toArray) (w.alloc (.cells c T)) K := by
  refine ⟨_, ?_, k⟩
  unfold sizeOfT at hs
  split at hs
  · rename_i i hi
    have hs := Option.some.inj hs
    unfold storeVar
    have e := store_new (P := P) (w := w) (T := T) vs 0 c hf (by omega)
    rw [fold_set vs c hc.symm] at e
    simp [size_ok hi, hs, Value.cells, e]
  · cases hs
end Go.Vc
