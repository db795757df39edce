/- Helper text of this claim: Kit3: lemmas and contracts that the proved statement rests on; no conditions of its own. -/
import Derived.Test.YtmipmlcolaaonaaDoorKit2
namespace Go.Pw
open Go
set_option linter.unusedVariables false

/-- From w to w' nothing that was there has turned, but for the blocks of c. -/
structure Keeps (w w' : World) (c : Nat → Prop) : Prop where
  os : w'.os = w.os
  tape : w'.tape = w.tape
  output : w'.output = w.output
  size : w.heap.size ≤ w'.heap.size
  block : ∀ k, k < w.heap.size → ¬ c k → w'.heap[k]? = w.heap[k]?
def none_ : Nat → Prop := fun _ => False
def one_ (b : Nat) : Nat → Prop := fun k => k = b
def two_ (b b' : Nat) : Nat → Prop := fun k => k = b ∨ k = b'
theorem Keeps.refl (w : World) (c : Nat → Prop) : Keeps w w c := ⟨rfl, rfl, rfl, Nat.le_refl _, fun _ _ _ => rfl⟩
theorem Keeps.trans {a b d : World} {c c' : Nat → Prop} (h : Keeps a b c) (k : Keeps b d c') (hc : ∀ i, i < a.heap.size → c' i → c i) : Keeps a d c :=
  ⟨k.os.trans h.os, k.tape.trans h.tape, k.output.trans h.output, Nat.le_trans h.size k.size, fun i hi hn =>
    (k.block i (Nat.lt_of_lt_of_le hi h.size) (fun h' => hn (hc i hi h'))).trans (h.block i hi hn)⟩
theorem Keeps.trans' {a b d : World} {c : Nat → Prop} (h : Keeps a b c) (k : Keeps b d c) : Keeps a d c := h.trans k fun _ _ h => h
theorem Keeps.trans0 {a b d : World} {c : Nat → Prop} (h : Keeps a b c) (k : Keeps b d none_) : Keeps a d c := h.trans k fun _ _ h => h.elim
theorem Keeps.mono {a b : World} {c c' : Nat → Prop} (h : Keeps a b c) (hc : ∀ i, i < a.heap.size → c i → c' i) : Keeps a b c' :=
  ⟨h.os, h.tape, h.output, h.size, fun i hi hn => h.block i hi fun h' => hn (hc i hi h')⟩
theorem Keeps.of_none {a b : World} {c : Nat → Prop} (h : Keeps a b none_) : Keeps a b c := h.mono fun _ _ h => h.elim
theorem Keeps.drew {a w : World} {c : Nat → Prop} (h : Keeps a w c) : Keeps a w.drew c := ⟨h.os, h.tape, h.output, h.size, h.block⟩
theorem Keeps.drewN {a w : World} {c : Nat → Prop} (h : Keeps a w c) (n : Nat) : Keeps a (w.drewN n) c := ⟨h.os, h.tape, h.output, h.size, h.block⟩
theorem Keeps.alloc {a w : World} {c : Nat → Prop} (h : Keeps a w c) (o : Obj) : Keeps a (w.alloc o) c :=
  ⟨h.os, h.tape, h.output, by have := h.size; simp; omega, fun k hk hn => by
    rw [← h.block k hk hn]; exact RowKit.Below.heap_alloc _ _ _ (Nat.lt_of_lt_of_le hk h.size)⟩
theorem Keeps.setCell {a w : World} {c : Nat → Prop} (h : Keeps a w c) {p : Addr} (hp : c p.block ∨ a.heap.size ≤ p.block) (v : Value) : Keeps a (w.setCell p v) c :=
  ⟨h.os, h.tape, h.output, by have := h.size; simp; omega, fun k hk hn => by
    rw [← h.block k hk hn]
    exact RowKit.Below.heap_setCell _ _ _ _ (fun e => by rcases hp with hp | hp; exact hn (e ▸ hp); omega)⟩
theorem Keeps.below {w w' : World} (h : Keeps w w' none_) : RowKit.Below w.heap.size w w' := ⟨h.os, h.tape, h.output, h.size, fun k hk => h.block k hk id⟩
theorem Keeps.of_below {w w' : World} {c : Nat → Prop} (h : RowKit.Below w.heap.size w w') : Keeps w w' c := ⟨h.os, h.tape, h.output, h.size, fun k hk _ => h.block k hk⟩
theorem Keeps.cell {w w' : World} {c : Nat → Prop} (h : Keeps w w' c) {p : Addr} (hp : p.block < w.heap.size) (hc : ¬ c p.block) : w'.cell? p = w.cell? p := World.cell?_of_block (w := w) (h.block _ hp hc)
theorem Keeps.frozen {w w' : World} {c : Nat → Prop} (h : Keeps w w' c) {p : Addr} (hp : p.block < w.heap.size) (hc : ¬ c p.block) : w'.frozen? p = w.frozen? p := World.frozen?_of_block (w := w) (h.block _ hp hc)
theorem Keeps.shape {w w' : World} {c : Nat → Prop} (h : Keeps w w' c) {b : Nat} (hp : b < w.heap.size) (hc : ¬ c b) : w'.shape? b = w.shape? b := by
  unfold World.shape?; rw [h.block _ hp hc]

theorem shape_lt {w : World} {b : Nat} {x : TypeId × Nat} (h : w.shape? b = some x) : b < w.heap.size := by
  unfold World.shape? at h
  by_cases hb : b < w.heap.size
  · exact hb
  · rw [Array.getElem?_eq_none (by omega)] at h; cases h
theorem shape_alloc {w : World} {b : Nat} {x : TypeId × Nat} (h : w.shape? b = some x) (o : Obj) : (w.alloc o).shape? b = some x := by
  have := shape_lt h
  unfold World.shape? at *
  rw [RowKit.Below.heap_alloc _ _ _ this]; exact h
theorem shape_setCell {w : World} {b : Nat} (p : Addr) (v : Value) : (w.setCell p v).shape? b = w.shape? b := by
  unfold World.shape? World.setCell
  simp only [Array.getElem?_modify]
  by_cases h : p.block = b
  · rw [if_pos h]
    cases h : w.heap[b]? with
    | none => rfl
    | some o => cases o <;> simp <;> split <;> simp
  · rw [if_neg h]
theorem shape_new (w : World) (c : Array Value) (t : TypeId) (fr : Nat × Nat) : (w.alloc (.cells c t fr)).shape? w.heap.size = some (t, c.size) := by
  unfold World.shape?; rw [heap_alloc_new]
theorem cell_alloc {w : World} {p : Addr} {v : Value} (h : w.cell? p = some v) (o : Obj) : (w.alloc o).cell? p = some v := by
  have hb : p.block < w.heap.size := by
    unfold World.cell? at h
    by_cases hb : p.block < w.heap.size
    · exact hb
    · rw [Array.getElem?_eq_none (by omega)] at h; cases h
  rw [World.cell?_alloc_lt (h := hb)]; exact h
theorem cell_lt {w : World} {p : Addr} {v : Value} (h : w.cell? p = some v) : p.block < w.heap.size := by
    unfold World.cell? at h
    by_cases hb : p.block < w.heap.size
    · exact hb
    · rw [Array.getElem?_eq_none (by omega)] at h; cases h
theorem cell_set_ne {w : World} {p q : Addr} {u v : Value} (h : w.cell? q = some v) (hne : p ≠ q) : (w.setCell p u).cell? q = some v := by
  rw [World.cell?_setCell_other (h := hne)]; exact h
theorem cell_set_eq {w : World} {p : Addr} {u v : Value} (h : w.cell? p = some v) : (w.setCell p u).cell? p = some u := World.cell?_setCell_same w p u h
theorem frozen_alloc {w : World} {p : Addr} {b : Bool} (hb : p.block < w.heap.size) (h : w.frozen? p = b) (o : Obj) : (w.alloc o).frozen? p = b := by
  rw [World.frozen?_alloc_old (h := by omega)]; exact h

/-- A slice of int that reads as zs (nil, or a row of a block of ints). T: the type's number of the block's elements. -/
def Ints (T : TypeId) (w : World) (v : Value) (zs : List Int) : Prop :=
  (v = .slice none 0 0 ∧ zs = []) ∨
  ∃ kb ko cap n, v = .slice (some ⟨kb, ko, none⟩) zs.length cap ∧ w.shape? kb = some (T, n) ∧ zs.length ≤ 9223372036854775807 ∧
    ∀ i, i < zs.length → w.cell? ⟨kb, ko + i, none⟩ = some (.int .i64 (zs.getD i 0))
theorem Ints.keep {T : TypeId} {w w' : World} {c : Nat → Prop} {v : Value} {zs : List Int} (h : Ints T w v zs) (k : Keeps w w' c) (hc : ∀ b n, w.shape? b = some (T, n) → ¬ c b) : Ints T w' v zs := by
  rcases h with h | ⟨kb, ko, cap, n, rfl, hs, hl, hcell⟩
  · exact .inl h
  · exact .inr ⟨kb, ko, cap, n, rfl, by rw [k.shape (shape_lt hs) (hc _ _ hs)]; exact hs, hl, fun i hi => by rw [k.cell (shape_lt hs) (hc _ _ hs)]; exact hcell i hi⟩
end Go.Pw
