/- Helper lemmas that the proved statement rests on; no conditions of their own. -/
import Derived.Test.YtennokckmjcefaaGreatDoorCards
import Derived.Test.YtennokckmjcefaaGreatDoorRows
import Derived.Lib.LaidU8
import Derived.Test.YtennokckmjcefaaGreatDoorGNf7
set_option linter.unusedVariables false
set_option maxRecDepth 100000
namespace Go.Proofs.YtennokckmjcefaaGreatDoor
open Go.Shelf Go.RowKit Go.Pw Go.Vc Go.Cs Go.Lib Go.Mg Go.ChangeShapes Go.WideShapes Go.ChangeAt
def OpensB (W : World) (T : TypeId) {α : Type} (cells : α → List Value) (p : α → Prop) (wt : α → Nat) : Prop :=
 ∀ {H : Type} {enc : TypeId × Value → H} {fuel : Nat} {cs : List Value} {x : DataW H × List MemPlace}, DataW.trod enc Tryz.prog W 0 (fun _ => true) true fuel T cs = some x → ∃ y, cs = cells y ∧ p y ∧ wt y ≤ Rows.uptoBulk x.1
section
variable {W : World} {T : TypeId}
theorem zkD {H : Type} (d : DataW H) : 1 ≤ Rows.uptoBulk d := by
 cases d with
 | lit l => cases l <;> simp [Rows.uptoBulk]
 | nil => simp [Rows.uptoBulk]
 | ptr d => simp [Rows.uptoBulk]
 | slice elems spare => simp [Rows.uptoBulk]
 | agg parts => simp [Rows.uptoBulk]
 | iface t d => simp [Rows.uptoBulk]
 | map entries => simp [Rows.uptoBulk]
 | held h => simp [Rows.uptoBulk]
theorem zho {H α : Type} (g : α → Nat) : ∀ (ys : List α) (ds : List (DataW H)), ys.length = ds.length → (∀ (i : Nat) (h : i < ys.length) (h2 : i < ds.length), g ys[i] ≤ Rows.uptoBulk ds[i]) → (ys.map g).sum ≤ Rows.uptoBulkAll ds
 | [], _, _, _ => Nat.zero_le _
 | y :: ys, [], h, _ => by simp at h
 | y :: ys, d :: ds, h, hg => by
  have ih := zho g ys ds (by simpa using h) fun i h1 h2 => by
   have := hg (i + 1) (by simpa using h1) (by simpa using h2)
   simpa using this
  have h0 := hg 0 (by simp) (by simp)
  simp only [List.getElem_cons_zero] at h0
  simp only [List.map_cons, List.sum_cons, Rows.uptoBulkAll]
  omega
theorem zfw (hT : Tryz.prog.underlying T = some (.int .i64)) : OpensB W T (fun z : Int => [.int .i64 z]) (fun z => -9223372036854775808 ≤ z ∧ z ≤ 9223372036854775807) (fun _ => 1) := fun {H enc fuel cs x} h => by
 obtain ⟨z, e, hx, w⟩ := DataW.trod_int hT h
 obtain ⟨y, e2, hy⟩ := zog (P := Tryz.prog) (W := W) hT h (fun n hn => by rw [hx] at hn; simp [DataW.weights] at hn)
 exact ⟨y, e2, hy, zkD _⟩
theorem zfR (hT : Tryz.prog.underlying T = some .string) : OpensB W T (fun s : List UInt8 => [.string (str s)]) (fun _ => True) (fun s => s.length + 1) := fun {H enc fuel cs x} h => by
 obtain ⟨s, e, g, _⟩ := DataW.trod_string hT h
 refine ⟨L s, ?_, trivial, ?_⟩
 ·rw [e]; show [Value.string s] = [Value.string (str (L s))]; rw [str_L]
 ·have e2 : x = (.lit (.string s.data.toList), []) := g
  rw [e2]
  simp only [Rows.uptoBulk]
  rw [show (L s).length = s.size from by rw [← zpU, str_L]]
  have : s.data.toList.length = s.size := by rw [Array.length_toList]; rfl
  omega
theorem zii {α β : Type} {cells : α → List Value} {p : α → Prop} {wt : α → Nat} {cells' : β → List Value} {p' : β → Prop} {wt' : β → Nat} (h : OpensB W T cells p wt) (f : α → β) (hc : ∀ y, p y → cells y = cells' (f y)) (hp : ∀ y, p y → p' (f y)) (hw : ∀ y, p y → wt' (f y) ≤ wt y) : OpensB W T cells' p' wt' := fun {H enc fuel cs x} hf => by
 obtain ⟨y, rfl, h2, h3⟩ := h hf
 exact ⟨f y, hc y h2, hp y h2, Nat.le_trans (hw y h2) h3⟩
theorem zgb {E : TypeId} {α : Type} [Inhabited α] {cells : α → List Value} {p : α → Prop} {wt : α → Nat} {k : Nat} (hT : Tryz.prog.underlying T = some (.slice E)) (hE : OpensB W E cells p wt) (hk : ∀ y, (cells y).length = k) (hk0 : 0 < k) (hc : Tryz.prog.cellsOf E = k) :
  OpensB W T (fun y : Value × List α => [y.1]) (fun y => RowO W y.1 cells y.2 ∧ CapK y.1 ∧ ∀ z ∈ y.2, p z) (fun y => (y.2.map wt).sum + 1) := fun {H enc fuel cs x} hf => by
 rcases DataW.trod_slice hT hf with ⟨hcs, hx⟩ | ⟨x0, len, cap, elems, rest, n, _, hcs, hx, hb2, hl, hm, hel, hat, hsp, _⟩
 ·exact ⟨(.slice none 0 0, []), hcs, ⟨⟨none, 0, rfl, fun h => by simp at h⟩, zir (Nat.le_refl _), by simp⟩, zkD _⟩
 ·subst hx
  rw [hc] at hat
  have each : ∀ i, i < len → ∃ y : α, (p y ∧ ∀ d, elems[i]? = some d → wt y ≤ Rows.uptoBulk d.1) ∧ ∃ lb lo, some x0 = some ⟨lb, lo, none⟩ ∧ lb < W.heap.size ∧ At W lb (lo + i * k) (cells y) := fun i hi => by
   have hy : elems[i]? = some (elems[i]'(by omega)) := List.getElem?_eq_getElem (by omega)
   have hbi := hat i hi
   rw [hy, Option.bind_eq_some_iff] at hbi
   obtain ⟨cs, hcs, ht⟩ := hbi
   obtain ⟨y, rfl, hok, hwt⟩ := hE ht
   obtain ⟨_, hcl, hcat⟩ := World.cells?_some hcs
   refine ⟨y, ⟨hok, fun d hd => by rw [hy] at hd; injection hd with hd; rw [← hd]; exact hwt⟩, ?_⟩
   obtain ⟨b, off, spot⟩ := x0
   have hyk := hk y
   have h0 := hcat 0 (by omega)
   obtain ⟨v0, hv0⟩ : ∃ v0, (cells y)[0]? = some v0 := ⟨_, List.getElem?_eq_getElem (by omega)⟩
   rw [hv0] at h0
   have hspot : spot = none := by
    have := World.cell?_spot h0
    by_cases hi0 : i = 0
    ·subst hi0; simpa [Addr.add] using this
    ·exact Classical.byContradiction fun hne => by
      have hh := hat 0 (by omega)
      have hy0 : elems[0]? = some (elems[0]'(by omega)) := List.getElem?_eq_getElem (by omega)
      rw [hy0, Option.bind_eq_some_iff] at hh
      obtain ⟨cs0, hcs0, ht0⟩ := hh
      obtain ⟨_, hcl0, hcat0⟩ := World.cells?_some hcs0
      have h00 := hcat0 0 (by omega)
      have hcs0l : 0 < cs0.length := by omega
      rw [List.getElem?_eq_getElem hcs0l] at h00
      have := World.cell?_spot h00
      exact hne (by simpa [Addr.add] using this)
   subst hspot
   have hlt := Pw.cell_lt h0
   rw [Go.Vc.add_none, Go.Vc.add_none] at hlt
   refine ⟨b, off, rfl, hlt, fun j v hj => ?_⟩
   have hjk : j < k := by
    have := (List.getElem?_eq_some_iff.1 hj).1; omega
   have := hcat j (by omega)
   rw [Go.Vc.add_none, Go.Vc.add_none, hj] at this
   exact this
  obtain ⟨f, hfx⟩ := Go.Deep.choose_lt each
  have hlen : ((List.range len).map f).length = len := by simp
  refine ⟨(.slice (some x0) len cap, (List.range len).map f), hcs, ⟨⟨some x0, cap, by rw [hlen], fun h0 => ?_⟩, zir hl, fun z hz => ?_⟩, ?_⟩
  ·rw [hlen] at h0
   obtain ⟨_, lb, lo, he, hlb, _⟩ := hfx 0 h0
   refine ⟨lb, lo, he, hlb, fun i v hv => ?_⟩
   have hgen : ∀ (l : List α) (o : Nat), (∀ j, (hj : j < l.length) → At W lb (o + j * k) (cells l[j])) → At W lb o (l.flatMap cells) := by
    intro l
    induction l with
    | nil => intro o _ i v hi; simp at hi
    | cons a r ih =>
     intro o h i v hi
     rw [List.flatMap_cons] at hi
     by_cases hik : i < k
     ·rw [List.getElem?_append_left (by rw [hk]; exact hik)] at hi
      have := h 0 (by simp) i v hi
      simpa using this
     ·rw [List.getElem?_append_right (by rw [hk]; omega), hk] at hi
      have h2 := ih (o + k) (fun j hj m u hu => by
       have := h (j + 1) (by simpa using hj) m u hu
       rw [Nat.succ_mul] at this
       rw [show o + k + j * k + m = o + (j * k + k) + m by omega]
       exact this) (i - k) v hi
      rwa [show o + k + (i - k) = o + i by omega] at h2
   refine hgen ((List.range len).map f) lo (fun j hj => ?_) i v hv
   have hj : j < len := by simpa using hj
   obtain ⟨_, lb2, lo2, he2, _, hc2⟩ := hfx j hj
   rw [he] at he2
   injection he2 with he2
   injection he2 with e1 e2
   subst e1; subst e2
   rw [List.getElem_map, List.getElem_range]
   exact hc2
  ·obtain ⟨i, hi, rfl⟩ := List.mem_map.1 hz
   exact (hfx i (by simpa using hi)).1.1
  ·dsimp only
   simp only [Rows.uptoBulk]
   have := zho (H := H) wt ((List.range len).map f) (elems.map (·.1)) (by rw [hlen, List.length_map]; omega) fun i h1 h2 => by
    rw [hlen] at h1
    rw [List.getElem_map, List.getElem_map, List.getElem_range]
    exact (hfx i h1).1.2 _ (List.getElem?_eq_getElem (by omega))
   omega
def OpensF (W : World) (fs : List Field) (off total : Nat) {α : Type} (cells : α → List Value) (p : α → Prop) (wt : α → Nat) : Prop :=
 ∀ {H : Type} {enc : TypeId × Value → H} {n : Nat} {cs : List Value} {xs : List (DataW H × List MemPlace)}, cs.length = total → xs.length = fs.length →
  (∀ (i : Nat) (f : Field), fs[i]? = some f → DataW.trod enc Tryz.prog W 0 (fun _ => true) true n f.type ((cs.drop f.offset).take (Tryz.prog.cellsOf f.type)) = xs[i]?) → ∃ y, cs.drop off = cells y ∧ p y ∧ wt y ≤ Rows.uptoBulkAll (xs.map (·.1))
theorem znc {off : Nat} : OpensF W [] off off (fun _ : Unit => []) (fun _ => True) (fun _ => 0) := fun {H enc n cs xs} hl _ _ => ⟨(), List.drop_eq_nil_of_le (by omega), trivial, Nat.zero_le _⟩
theorem zbS {f : Field} {fs : List Field} {off total k : Nat} {α β : Type} {c1 : α → List Value} {p1 : α → Prop} {w1 : α → Nat} {c2 : β → List Value} {p2 : β → Prop} {w2 : β → Nat} (ho : f.offset = off) (hk : Tryz.prog.cellsOf f.type = k) (h1 : OpensB W f.type c1 p1 w1) (h2 : OpensF W fs (off + k) total c2 p2 w2) :
  OpensF W (f :: fs) off total (fun y : α × β => c1 y.1 ++ c2 y.2) (fun y => p1 y.1 ∧ p2 y.2) (fun y => w1 y.1 + w2 y.2) := fun {H enc n cs xs} hl hx hf => by
 cases xs with
 | nil => simp at hx
 | cons x xs =>
  have f0 := hf 0 f rfl
  rw [ho, hk] at f0
  obtain ⟨y1, e1, q1, s1⟩ := h1 f0
  obtain ⟨y2, e2, q2, s2⟩ := h2 (n := n) (cs := cs) (xs := xs) hl (by simpa using hx) (fun i g hg => hf (i + 1) g (by simpa using hg))
  refine ⟨(y1, y2), ?_, ⟨q1, q2⟩, ?_⟩
  ·dsimp only
   rw [← e1, ← e2, ← List.drop_drop, List.take_append_drop]
  ·dsimp only
   simp only [List.map_cons, Rows.uptoBulkAll]
   omega
theorem ziz {fs : Array Field} {total : Nat} {α : Type} {cells : α → List Value} {p : α → Prop} {wt : α → Nat} (hT : Tryz.prog.underlying T = some (.struct fs)) (hc : Tryz.prog.cellsOf T = total) (h : OpensF W fs.toList 0 total cells p wt) : OpensB W T cells p wt := fun {H enc fuel cs x} hf => by
 obtain ⟨xs, n, _, hx, hlen, hxl, hfld⟩ := DataW.trod_struct hT hf
 rw [hc] at hlen
 obtain ⟨y, e, q, s⟩ := h (n := n) (cs := cs) (xs := xs) hlen (by simpa using hxl) (fun i f hi => hfld i f (by rw [← Array.getElem?_toList]; exact hi))
 refine ⟨y, by simpa using e, q, ?_⟩
 rw [hx]
 simp only [Rows.uptoBulk]
 omega
theorem zjj {n : Nat} {e : TypeId} (hT : Tryz.prog.underlying T = some (.array n e)) (he : Tryz.prog.underlying e = some .string) (hc : Tryz.prog.cellsOf e = 1) (hcT : Tryz.prog.cellsOf T = n) : OpensB W T (fun l : List (List UInt8) => l.map fun s => .string (str s)) (fun l => l.length = n) (fun l => (l.map List.length).sum + 1) := fun {H enc fuel cs x} hf => by
 obtain ⟨xs, m, _, hx, hl, hxl, hd⟩ := DataW.trod_array hT hf
 rw [hcT] at hl
 have each : ∀ i, i < n → ∃ s : List UInt8, (∀ d, xs[i]? = some d → s.length ≤ Rows.uptoBulk d.1) ∧ cs[i]? = some (.string (str s)) := fun i hi => by
  have h := hd i hi
  rw [hc, List.getElem?_eq_getElem (by omega : i < xs.length)] at h
  obtain ⟨s, e1, _, hw⟩ := zfR (W := W) he h
  refine ⟨s, fun d hd => ?_, ?_⟩
  ·rw [List.getElem?_eq_getElem (by omega : i < xs.length)] at hd
   injection hd with hd
   have hw : s.length + 1 ≤ _ := hw
   rw [← hd]; omega
  ·have e2 : cs[i]? = ((cs.drop (i * 1)).take 1)[0]? := by simp
   rw [e2, e1]; rfl
 obtain ⟨f, hf⟩ := Go.Deep.choose_lt each
 refine ⟨(List.range n).map f, ?_, by simp, ?_⟩
 ·refine List.ext_getElem? fun i => ?_
  by_cases hi : i < n
  ·rw [(hf i hi).2]; simp [hi]
  ·rw [List.getElem?_eq_none (by omega), List.getElem?_eq_none (by simp; omega)]
 ·rw [hx]
  simp only [Rows.uptoBulk]
  have := zho (H := H) List.length ((List.range n).map f) (xs.map (·.1)) (by simp; omega) fun i h1 h2 => by
   have h1 : i < n := by simpa using h1
   rw [List.getElem_map, List.getElem_map, List.getElem_range]
   exact (hf i h1).1 _ (List.getElem?_eq_getElem (by omega))
  omega
end
section
variable {W : World}
theorem zmY : OpensB W 48 (fun y : Value × List (List UInt8) => [y.1]) (fun y => RowO W y.1 txC y.2 ∧ CapK y.1 ∧ ∀ z ∈ y.2, True) (fun y => (y.2.map fun s => s.length + 1).sum + 1) :=
 zgb (k := 1) Tryz.underlying48 (zfR Tryz.underlying9) (fun _ => rfl) (by decide) (by kernel_rfl)
def amT (l : List (List UInt8)) : Am := ⟨0, 0, l.getD 0 [], l.getD 1 [], l.getD 2 [], l.getD 3 [], l.getD 4 [], l.getD 5 [], 0, [], []⟩
theorem oB_t6 : OpensB W 32 t6C (fun _ => True) (fun a => lenX a.tx + 1) :=
 zii (zjj Tryz.underlying32 Tryz.underlying9 (by kernel_rfl) (by kernel_rfl)) amT (fun l h => by
  match l, h with
  | [a, b, c, d, e, f], _ => rfl) (fun _ _ => trivial) (fun l h => by
  match l, h with
  | [a, b, c, d, e, f], _ =>
   rw [zcE]
   exact Nat.le_refl _)
def bulkA (a : Am) : Nat := sumT a.tx + a.word.length + a.words.length + sumT a.words
def mkA (y : Int × Int × Am × Int × List UInt8 × (Value × List (List UInt8)) × Unit) : Sl × Am := (slM y.2.2.2.2.2.1.1, ⟨y.1, y.2.1, y.2.2.1.t0, y.2.2.1.t1, y.2.2.1.t2, y.2.2.1.t3, y.2.2.1.t4, y.2.2.1.t5, y.2.2.2.1, y.2.2.2.2.1, y.2.2.2.2.2.1.2⟩)
instance : Inhabited (Sl × Am) := ⟨(⟨none, 0, 0⟩, default)⟩
theorem zoO (l : List (List UInt8)) : (l.map fun s => s.length + 1).sum = sumT l + l.length := by
 unfold sumT
 induction l with
 | nil => rfl
 | cons a l ih => simp only [List.map_cons, List.sum_cons, List.length_cons, ih]; omega
def ActR (W : World) (p : Sl × Am) : Prop := RowO W p.1.v txC p.2.words ∧ CapK p.1.v ∧ -9223372036854775808 ≤ p.2.doc ∧ p.2.doc ≤ 9223372036854775807
theorem ztd : OpensB W 54 actC (ActR W) (fun p => bulkA p.2 + 1) := by
 have hS : OpensB W 54 _ _ _ := ziz (W := W) Tryz.underlying54 (total := 11) (by kernel_rfl) (zbS (k := 1) rfl (by kernel_rfl) (zfw Tryz.underlying3) (zbS (k := 1) rfl (by kernel_rfl) (zfw Tryz.underlying3) (zbS (k := 6) rfl (by kernel_rfl) oB_t6 (zbS (k := 1) rfl (by kernel_rfl) (zfw Tryz.underlying3) (zbS (k := 1) rfl (by kernel_rfl) (zfR Tryz.underlying9) (zbS (k := 1) rfl (by kernel_rfl) zmY (znc (off := 11))))))))
 refine @zii W _ _ _ _ _ _ _ _ _ (@hS) mkA (fun y h => ?_) (fun y h => ?_) (fun y h => ?_)
 ·have e := zqO h.2.2.2.2.2.1.1
  show [Value.int .i64 y.1] ++ ([Value.int .i64 y.2.1] ++ (t6C y.2.2.1 ++ ([Value.int .i64 y.2.2.2.1] ++ ([Value.string (str y.2.2.2.2.1)] ++ ([y.2.2.2.2.2.1.1] ++ []))))) = _
  rw [e]; rfl
 ·have e := zqO h.2.2.2.2.2.1.1
  have h1 := h.2.2.2.2.2.1.1
  have h2 := h.2.2.2.2.2.1.2.1
  rw [e] at h1 h2
  exact ⟨h1, h2, h.2.1.1, h.2.1.2⟩
 ·have h1 := zoO y.2.2.2.2.2.1.2
  have h2 := zcE y.2.2.1
  show sumT y.2.2.1.tx + y.2.2.2.2.1.length + y.2.2.2.2.2.1.2.length + sumT y.2.2.2.2.2.1.2 + 1 ≤ _
  omega
theorem zrN : OpensB W 31 (fun y : Value × List (Sl × Am) => [y.1]) (fun y => RowO W y.1 actC y.2 ∧ CapK y.1 ∧ ∀ z ∈ y.2, ActR W z) (fun y => (y.2.map fun p => bulkA p.2 + 1).sum + 1) :=
 zgb (k := 11) Tryz.underlying31 ztd lenAct (by decide) (by kernel_rfl)
variable {H : Type} {enc : TypeId × Value → H} {v : Value} {d : DataW H} {ps : List MemPlace}
theorem zfh {T : TypeId} {α : Type} {cells : α → List Value} {p : α → Prop} {wt : α → Nat} (h : OpensB W T cells p wt) (ht : DataW.Trod enc Tryz.prog W 0 (fun _ => true) true T v d ps) : ∃ y, v.cells.toList = cells y ∧ p y ∧ wt y ≤ Rows.uptoBulk d := by
 obtain ⟨fuel, hf⟩ := ht
 exact h hf
theorem zlb {a : Option Addr} {n c : Nat} {v : Value} (h : (Value.slice a n c).cells.toList = [v]) : v = .slice a n c := by
 have : [Value.slice a n c] = [v] := h
 injection this with h
 exact h.symm
theorem zso {a : Option Addr} {n c : Nat} (ht : DataW.Trod enc Tryz.prog W 0 (fun _ => true) true 48 (.slice a n c) d ps) : ∃ l, RowO W (.slice a n c) txC l ∧ CapK (.slice a n c) ∧ sumT l + l.length ≤ Rows.uptoBulk d := by
 obtain ⟨⟨v, l⟩, h1, ⟨h2, h3, _⟩, h4⟩ := zfh zmY ht
 obtain rfl := zlb h1
 dsimp only at h4
 rw [zoO] at h4
 exact ⟨l, h2, h3, by omega⟩
theorem zsv {α : Type} (f : α → Nat) (l : List α) : (l.map fun a => f a + 1).sum = (l.map f).sum + l.length := by
 induction l with
 | nil => rfl
 | cons a l ih => simp only [List.map_cons, List.sum_cons, List.length_cons, ih]; omega
theorem zsi {a : Option Addr} {n c : Nat} (ht : DataW.Trod enc Tryz.prog W 0 (fun _ => true) true 31 (.slice a n c) d ps) : ∃ lx : List (Sl × Am), RowA W (.slice a n c) lx ∧ (∀ p ∈ lx, -9223372036854775808 ≤ p.2.doc ∧ p.2.doc ≤ 9223372036854775807) ∧ lx.length ≤ Rows.uptoBulk d ∧ wAs (lx.map (·.2)) ≤ 10 * Rows.uptoBulk d := by
 obtain ⟨⟨v, l⟩, h1, ⟨h2, h3, h5⟩, h4⟩ := zfh zrN ht
 obtain rfl := zlb h1
 dsimp only at h4 h5
 rw [zsv] at h4
 refine ⟨l, ⟨h2, fun p hp => (h5 p hp).1, fun p hp => (h5 p hp).2.1⟩, fun p hp => (h5 p hp).2.2, by omega, ?_⟩
 have key : ∀ l : List (Sl × Am), wAs (l.map (·.2)) ≤ 10 * (l.map fun p => bulkA p.2).sum := fun l => by
  unfold wAs
  induction l with
  | nil => exact Nat.le_refl _
  | cons a l ih =>
   simp only [List.map_cons, List.sum_cons]
   have : wA a.2 ≤ 10 * bulkA a.2 := by unfold wA bulkA; omega
   omega
 have := key l
 omega
end
end Go.Proofs.YtennokckmjcefaaGreatDoor
namespace Go.Proofs.YtennokckmjcefaaGreatDoor
open Go.Shelf Go.RowKit Go.Pw Go.Vc Go.Cs Go.Lib
theorem zkK {P : Program} {w : World} {name : String} {g : Nat} {tS tE : TypeId} {fs : Array Field} {k : IntKind} {zs : List (List Int)} {rest : List (DataW Unit)}
  (h : VarReads P w name (.slice (zs.map fun r => .agg (r.map fun z => .lit (.int k z))) rest)) (hn : P.globalNamed name = some g) (hy : (P.globals[g]?).map (·.type) = some tS)
  (hS : P.underlying tS = some (.slice tE)) (hE : P.underlying tE = some (.struct fs)) (hf : ∀ (i : Nat) (f : Field), fs[i]? = some f → P.underlying f.type = some (.int k) ∧ f.offset = i ∧ P.cellsOf f.type = 1)
  (hc : P.cellsOf tE = fs.size) (h0 : 0 < fs.size) (hz : 0 < zs.length) : ∃ b o c, w.cell? ⟨g, 0, none⟩ = some (.slice (some ⟨b, o, none⟩) zs.length c) ∧ ∀ i, i < zs.length → At w b (o + i * fs.size) ((zs.getD i []).map fun z => Value.int k z) := by
 obtain ⟨g', t, cs, fuel, p, hg, hty, hvar, hd⟩ := h
 obtain rfl := Option.some.inj (hn.symm.trans hg)
 obtain rfl := Option.some.inj (hy.symm.trans hty)
 rcases DataW.trod_slice hS hd with ⟨_, hx⟩ | ⟨a, len, cap, el, rs, m, rfl, hcs, hx, _, hlc, _, hel, helem, hsp, _⟩
 ·cases hx
 have hx1 := congrArg Prod.fst hx
 simp only [DataW.slice.injEq] at hx1
 obtain ⟨eE, eR⟩ := hx1
 have hlen : len = zs.length := by
  have := congrArg List.length eE
  simp at this
  omega
 subst hlen
 have hrange : ∀ i (hi : i < zs.length) j v, (zs[i].map fun z => Value.int k z)[j]? = some v → w.cell? ((a.add (i * fs.size)).add j) = some v := by
  intro i hi j v hv
  have h1 := helem i hi
  rw [hc] at h1
  obtain ⟨b, hb⟩ : ∃ b, el[i]? = some b := ⟨el[i]'(by omega), List.getElem?_eq_getElem (by omega)⟩
  rw [hb] at h1
  obtain ⟨ce, hce, hte⟩ := Option.bind_eq_some_iff.1 h1
  have hb1 : b.1 = .agg (zs[i].map fun z => .lit (.int k z)) := by
   have := congrArg (·[i]?) eE
   simpa [hb, hi] using this.symm
  have hcs := ints_of_struct (p := b.2) hE hf hc (by rw [← hb1]; exact hte)
  obtain ⟨_, hl, hcc⟩ := World.cells?_some hce
  have hj : j < fs.size := by
   have := (List.getElem?_eq_some_iff.1 hv).1
   rw [← hcs, hl] at this
   exact this
  rw [hcc j hj, hcs, hv]
 obtain ⟨R, oR, sR⟩ := a
 obtain rfl : sR = none := by
  have hl0 : 0 < (zs[0].map fun z => Value.int k z).length := by
   have h1 := helem 0 hz
   rw [hc] at h1
   obtain ⟨b, hb⟩ : ∃ b, el[0]? = some b := ⟨el[0]'(by omega), List.getElem?_eq_getElem (by omega)⟩
   rw [hb] at h1
   obtain ⟨ce, hce, hte⟩ := Option.bind_eq_some_iff.1 h1
   have hb1 : b.1 = .agg (zs[0].map fun z => .lit (.int k z)) := by
    have := congrArg (·[0]?) eE
    simpa [hb, hz] using this.symm
   have hcs := ints_of_struct (p := b.2) hE hf hc (by rw [← hb1]; exact hte)
   obtain ⟨_, hl, _⟩ := World.cells?_some hce
   rw [← hcs, hl]; exact h0
  have h00 := hrange 0 hz 0 _ (List.getElem?_eq_getElem hl0)
  have : (Addr.add (Addr.add ⟨R, oR, sR⟩ (0 * fs.size)) 0) = ⟨R, oR, sR⟩ := by simp [Addr.add]
  rw [this] at h00
  exact cell_spot h00
 refine ⟨R, oR, cap, ?_, fun i hi j v hj => ?_⟩
 ·rw [World.var?_cell hg hvar 0, ← Array.getElem?_toList, hcs]
  rfl
 ·rw [List.getD_eq_getElem?_getD, List.getElem?_eq_getElem hi, Option.getD_some] at hj
  have := hrange i hi j v hj
  rw [Addr.add_lit, Addr.add_lit] at this
  exact this
def foldZ : List (List Int) := foldT.map fun x => [x.1, x.2.1, x.2.2.1, x.2.2.2]
theorem zno : (Rows.laid_pouch_fold_spans : DataW Unit) = .slice (foldZ.map fun r => .agg (r.map fun z => .lit (.int .i32 z))) [] := by kernel_rfl
theorem zmh {W : World} (h : VarReads Tryz.prog W "pouch/fold.spans" Rows.laid_pouch_fold_spans) : FoldTab W := by
 rw [zno] at h
 obtain ⟨b, o, c, h1, h2⟩ := zkK h (by kernel_rfl) (by kernel_rfl) Tryz.underlying254 Tryz.underlying256 (fun j f hj => by
   match j, hj with
   | 0, hj => simp at hj; subst hj; exact ⟨Tryz.underlying21, rfl, by kernel_rfl⟩
   | 1, hj => simp at hj; subst hj; exact ⟨Tryz.underlying21, rfl, by kernel_rfl⟩
   | 2, hj => simp at hj; subst hj; exact ⟨Tryz.underlying21, rfl, by kernel_rfl⟩
   | 3, hj => simp at hj; subst hj; exact ⟨Tryz.underlying21, rfl, by kernel_rfl⟩
   | j + 4, hj => simp at hj) (by kernel_rfl) (by decide) (by decide)
 refine ⟨b, o, c, h1, fun i hi => ?_⟩
 have := h2 i hi
 have e : (foldZ.getD i []).map (fun z => Value.int .i32 z) = spF (foldSp i) := by
  have : ∀ i : Fin 17, (foldZ.getD i.val []) = [(foldSp i.val).1, (foldSp i.val).2.1, (foldSp i.val).2.2.1, (foldSp i.val).2.2.2] := by decide
  have := this ⟨i, hi⟩
  rw [show foldZ.getD i [] = _ from this]; rfl
 rw [e] at this
 exact this
def cutZ : List (List Int) := cutT.map fun x => [x.1, x.2.1, x.2.2]
theorem zpR : (Rows.laid_pouch_cut_spans : DataW Unit) = .slice (cutZ.map fun r => .agg (r.map fun z => .lit (.int .i64 z))) [] := by kernel_rfl
theorem zmW {W : World} (h : VarReads Tryz.prog W "pouch/cut.spans" Rows.laid_pouch_cut_spans) : CutTab W := by
 rw [zpR] at h
 obtain ⟨b, o, c, h1, h2⟩ := zkK h (by kernel_rfl) (by kernel_rfl) Tryz.underlying227 Tryz.underlying229 (fun j f hj => by
   match j, hj with
   | 0, hj => simp at hj; subst hj; exact ⟨Tryz.underlying3, rfl, by kernel_rfl⟩
   | 1, hj => simp at hj; subst hj; exact ⟨Tryz.underlying3, rfl, by kernel_rfl⟩
   | 2, hj => simp at hj; subst hj; exact ⟨Tryz.underlying3, rfl, by kernel_rfl⟩
   | j + 3, hj => simp at hj) (by kernel_rfl) (by decide) (by decide)
 refine ⟨b, o, c, h1, fun i hi => ?_⟩
 have := h2 i hi
 have e : (cutZ.getD i []).map (fun z => Value.int .i64 z) = spV (cutSp i) := by
  have : ∀ i : Fin 19, (cutZ.getD i.val []) = [(cutSp i.val).1, (cutSp i.val).2.1, (cutSp i.val).2.2] := by decide
  have := this ⟨i, hi⟩
  rw [show cutZ.getD i [] = _ from this]; rfl
 rw [e] at this
 exact this
end Go.Proofs.YtennokckmjcefaaGreatDoor
