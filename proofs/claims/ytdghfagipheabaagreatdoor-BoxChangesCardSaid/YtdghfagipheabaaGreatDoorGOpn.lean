/- Helper text of this claim: Opn, Bw1, Bx8, Bw2: lemmas and contracts that the proved statement rests on; no conditions of its own. -/
import Derived.Test.YtdghfagipheabaaGreatDoorGKit7
import Derived.Deep.Slices
import Derived.ProofKit
import Derived.Lay
import Derived.SevenTiedAt
import Derived.OpenShut
import Derived.SizedLaws
import Derived.ChangeOld
import Derived.Test.YtdghfagipheabaaGreatDoorGCw3
import Derived.Test.YtdghfagipheabaaGreatDoorGCt11
import Derived.Test.YtdghfagipheabaaGreatDoorGBx5
/-! What came in, opened: each type once. -/
namespace Go.Vc
open Go Go.Pw Go.RowKit Go.ChangeShapes Go.WideShapes Go.ChangeAt
set_option linter.unusedVariables false
theorem weightsAll_in {H : Type} {P : Program} {e : TypeId} : ∀ {l : List (DataW H)} {d : DataW H}, d ∈ l → ∀ n ∈ d.weights P e, n ∈ DataW.weightsAll P e l
  | [], d, h, n, hn => by cases h
  | a :: r, d, h, n, hn => by
    show n ∈ DataW.weights P e a ++ DataW.weightsAll P e r
    rw [List.mem_append]
    rcases List.mem_cons.1 h with rfl | h
    · exact .inl hn
    · exact .inr (weightsAll_in h n hn)
/-- A datum of the type T that came in: its cells are those of some y, of which p holds. -/
def Opens (P : Program) (W : World) (T : TypeId) {α : Type} (cells : α → List Value) (p : α → Prop) : Prop :=
  ∀ {H : Type} {enc : TypeId × Value → H} {fuel : Nat} {cs : List Value} {x : DataW H × List MemPlace}, DataW.trod enc P W 0 (fun _ => true) true fuel T cs = some x → (∀ n ∈ x.1.weights P T, n ≤ reachBytes) → ∃ y, cs = cells y ∧ p y
/-- A row that came in, at any place of its block. -/
def RowO {α : Type} (W : World) (v : Value) (cells : α → List Value) (l : List α) : Prop := ∃ a cap, v = .slice a l.length cap ∧ (0 < l.length → ∃ g o, a = some ⟨g, o, none⟩ ∧ g < W.heap.size ∧ At W g o (l.flatMap cells))
section
variable {P : Program} {W : World} {T : TypeId}
theorem opens_int (hT : P.underlying T = some (.int .i64)) : Opens P W T (fun z : Int => [.int .i64 z]) (fun z => -9223372036854775808 ≤ z ∧ z ≤ 9223372036854775807) := fun {H enc fuel cs x} h _ => by
  obtain ⟨z, e, _, w⟩ := DataW.trod_int hT h
  exact ⟨z, e, by simpa [Lit.wf, IntKind.min, IntKind.max, IntKind.signed, IntKind.bits] using w⟩
theorem opens_string (hT : P.underlying T = some .string) : Opens P W T (fun s : ByteArray => [.string s]) (fun s => s.size ≤ 140737488355328) := fun {H enc fuel cs x} h hsz => by
  obtain ⟨s, e, g, _⟩ := DataW.trod_string hT h
  refine ⟨s, e, ?_⟩
  have : s.size ≤ reachBytes := hsz s.size (by
    have e : x = (.lit (.string s.data.toList), []) := by simpa using g
    rw [e]; simp [DataW.weights])
  unfold reachBytes at this; omega
/-- A slice of such data. -/
theorem opens_slice {E : TypeId} {α : Type} [Inhabited α] {cells : α → List Value} {p : α → Prop} {k bytes : Nat} (hT : P.underlying T = some (.slice E)) (hE : Opens P W E cells p) (hk : ∀ y, (cells y).length = k) (hk0 : 0 < k) (hc : P.cellsOf E = k) (hb : P.bytesOf E = bytes) (hb0 : 0 < bytes) :
    Opens P W T (fun y : Value × List α => [y.1]) (fun y => RowO W y.1 cells y.2 ∧ y.2.length * bytes ≤ 140737488355328 ∧ ∀ z ∈ y.2, p z) := fun {H enc fuel cs x} hf hsz => by
  rcases DataW.trod_slice hT hf with ⟨hcs, hx⟩ | ⟨x0, len, cap, elems, rest, n, _, hcs, hx, hb2, hl, hm, hel, hat, hsp, _⟩
  · exact ⟨(.slice none 0 0, []), hcs, ⟨none, 0, rfl, fun h => by simp at h⟩, by simp, by simp⟩
  · subst hx
    rw [hc] at hat
    have hmax : len * bytes ≤ 140737488355328 := by
      have hw := hsz ((List.map (fun x => x.fst) elems).length * P.bytesOf E + (List.map (fun x => x.fst) rest).length * P.bytesOf E) (by
        show _ ∈ DataW.weights P T (.slice _ _)
        unfold DataW.weights
        rw [hT, ← Nat.add_mul]
        exact List.mem_cons_self)
      rw [hb, List.length_map, List.length_map] at hw
      have : len ≤ elems.length := by omega
      have := Nat.mul_le_mul_right bytes this
      have := Nat.zero_le (rest.length * bytes)
      unfold reachBytes at hw; omega
    have each : ∀ i, i < len → ∃ y : α, p y ∧ ∃ lb lo, some x0 = some ⟨lb, lo, none⟩ ∧ lb < W.heap.size ∧ At W lb (lo + i * k) (cells y) := fun i hi => by
      have hy : elems[i]? = some (elems[i]'(by omega)) := List.getElem?_eq_getElem (by omega)
      have hbi := hat i hi
      rw [hy, Option.bind_eq_some_iff] at hbi
      obtain ⟨cs, hcs, ht⟩ := hbi
      obtain ⟨y, rfl, hok⟩ := hE ht (fun m hm => hsz m (by
        show m ∈ DataW.weights P T (.slice _ _)
        unfold DataW.weights
        rw [hT]
        exact List.mem_cons_of_mem _ (List.mem_append_left _ (weightsAll_in (List.mem_map.2 ⟨_, List.getElem_mem (by omega), rfl⟩) m hm))))
      obtain ⟨_, hcl, hcat⟩ := World.cells?_some hcs
      refine ⟨y, hok, ?_⟩
      obtain ⟨b, off, spot⟩ := x0
      have hyk := hk y
      have h0 := hcat 0 (by omega)
      obtain ⟨v0, hv0⟩ : ∃ v0, (cells y)[0]? = some v0 := ⟨_, List.getElem?_eq_getElem (by omega)⟩
      rw [hv0] at h0
      have hspot : spot = none := by
        have := World.cell?_spot h0
        by_cases hi0 : i = 0
        · subst hi0; simpa [Addr.add] using this
        · exact Classical.byContradiction fun hne => by
            have hh := hat 0 (by omega)
            have hy0 : elems[0]? = some (elems[0]'(by omega)) := List.getElem?_eq_getElem (by omega)
            rw [hy0, Option.bind_eq_some_iff] at hh
            obtain ⟨cs0, hcs0, ht0⟩ := hh
            obtain ⟨_, hcl0, hcat0⟩ := World.cells?_some hcs0
            have h00 := hcat0 0 (by omega)
            have hcs0l : 0 < cs0.length := by omega
            rw [List.getElem?_eq_getElem hcs0l] at h00
            have := World.cell?_spot h00
            exact hne (by simpa [Addr.add] using this)
      subst hspot
      have hlt := Pw.cell_lt h0
      rw [Go.Vc.add_none, Go.Vc.add_none] at hlt
      refine ⟨b, off, rfl, hlt, fun j v hj => ?_⟩
      have hjk : j < k := by
        have := (List.getElem?_eq_some_iff.1 hj).1; omega
      have := hcat j (by omega)
      rw [Go.Vc.add_none, Go.Vc.add_none, hj] at this
      exact this
    obtain ⟨f, hfx⟩ := Go.Deep.choose_lt each
    have hlen : ((List.range len).map f).length = len := by simp
    refine ⟨(.slice (some x0) len cap, (List.range len).map f), hcs, ⟨some x0, cap, by rw [hlen], fun h0 => ?_⟩, by rw [hlen]; exact hmax, fun z hz => ?_⟩
    · rw [hlen] at h0
      obtain ⟨_, lb, lo, he, hlb, _⟩ := hfx 0 h0
      refine ⟨lb, lo, he, hlb, fun i v hv => ?_⟩
      -- the cell i lies in the element i / k
      have hgen : ∀ (l : List α) (o : Nat), (∀ j, (hj : j < l.length) → At W lb (o + j * k) (cells l[j])) → At W lb o (l.flatMap cells) := by
        intro l
        induction l with
        | nil => intro o _ i v hi; simp at hi
        | cons a r ih =>
          intro o h i v hi
          rw [List.flatMap_cons] at hi
          by_cases hik : i < k
          · rw [List.getElem?_append_left (by rw [hk]; exact hik)] at hi
            have := h 0 (by simp) i v hi
            simpa using this
          · rw [List.getElem?_append_right (by rw [hk]; omega), hk] at hi
            have h2 := ih (o + k) (fun j hj m u hu => by
              have := h (j + 1) (by simpa using hj) m u hu
              rw [Nat.succ_mul] at this
              rw [show o + k + j * k + m = o + (j * k + k) + m by omega]
              exact this) (i - k) v hi
            rwa [show o + k + (i - k) = o + i by omega] at h2
      refine hgen ((List.range len).map f) lo (fun j hj => ?_) i v hv
      have hj : j < len := by simpa using hj
      obtain ⟨_, lb2, lo2, he2, _, hc2⟩ := hfx j hj
      rw [he] at he2
      injection he2 with he2
      injection he2 with e1 e2
      subst e1; subst e2
      rw [List.getElem_map, List.getElem_range]
      exact hc2
    · obtain ⟨i, hi, rfl⟩ := List.mem_map.1 hz
      exact (hfx i (by simpa using hi)).1
theorem Opens.imp {α β : Type} {cells : α → List Value} {p : α → Prop} {cells' : β → List Value} {p' : β → Prop} (h : Opens P W T cells p) (f : α → β) (hc : ∀ y, cells y = cells' (f y)) (hp : ∀ y, p y → p' (f y)) : Opens P W T cells' p' := fun {H enc fuel cs x} hf hsz => by
  obtain ⟨y, rfl, h2⟩ := h hf hsz
  exact ⟨f y, hc y, hp y h2⟩
/-- Fields of a struct, from the cell `off` on. -/
def OpensFs (P : Program) (W : World) (fs : List Field) (off total : Nat) {α : Type} (cells : α → List Value) (p : α → Prop) : Prop :=
  ∀ {H : Type} {enc : TypeId × Value → H} {n : Nat} {cs : List Value} {xs : List (DataW H × List MemPlace)}, cs.length = total → xs.length = fs.length →
    (∀ (i : Nat) (f : Field), fs[i]? = some f → DataW.trod enc P W 0 (fun _ => true) true n f.type ((cs.drop f.offset).take (P.cellsOf f.type)) = xs[i]?) →
    (∀ (i : Nat) (f : Field) (x : DataW H × List MemPlace), fs[i]? = some f → xs[i]? = some x → ∀ m ∈ x.1.weights P f.type, m ≤ reachBytes) → ∃ y, cs.drop off = cells y ∧ p y
theorem opens_nil {off : Nat} : OpensFs P W [] off off (fun _ : Unit => []) (fun _ => True) := fun {H enc n cs xs} hl _ _ _ => ⟨(), List.drop_eq_nil_of_le (by omega), trivial⟩
theorem opens_cons {f : Field} {fs : List Field} {off total k : Nat} {α β : Type} {c1 : α → List Value} {p1 : α → Prop} {c2 : β → List Value} {p2 : β → Prop} (ho : f.offset = off) (hk : P.cellsOf f.type = k) (h1 : Opens P W f.type c1 p1) (h2 : OpensFs P W fs (off + k) total c2 p2) :
    OpensFs P W (f :: fs) off total (fun y : α × β => c1 y.1 ++ c2 y.2) (fun y => p1 y.1 ∧ p2 y.2) := fun {H enc n cs xs} hl hx hf hw => by
  cases xs with
  | nil => simp at hx
  | cons x xs =>
    have f0 := hf 0 f rfl
    rw [ho, hk] at f0
    obtain ⟨y1, e1, q1⟩ := h1 f0 (hw 0 f x rfl rfl)
    obtain ⟨y2, e2, q2⟩ := h2 (n := n) (cs := cs) (xs := xs) hl (by simpa using hx) (fun i g hg => hf (i + 1) g (by simpa using hg)) (fun i g z hg hz => hw (i + 1) g z (by simpa using hg) (by simpa using hz))
    refine ⟨(y1, y2), ?_, q1, q2⟩
    dsimp only
    rw [← e1, ← e2, ← List.drop_drop, List.take_append_drop]
theorem opens_struct {fs : Array Field} {total : Nat} {α : Type} {cells : α → List Value} {p : α → Prop} (hT : P.underlying T = some (.struct fs)) (hc : P.cellsOf T = total) (h : OpensFs P W fs.toList 0 total cells p) : Opens P W T cells p := fun {H enc fuel cs x} hf hsz => by
  obtain ⟨xs, n, _, hx, hlen, hxl, hfld⟩ := DataW.trod_struct hT hf
  rw [hc] at hlen
  obtain ⟨y, e, q⟩ := h (n := n) (cs := cs) (xs := xs) hlen (by simpa using hxl) (fun i f hi => hfld i f (by rw [← Array.getElem?_toList]; exact hi)) (fun i f z hi hz m hm => hsz m (by
    rw [hx]
    show m ∈ DataW.weights P T (.agg (xs.map (·.1)))
    unfold DataW.weights
    rw [hT]
    refine DataW.weights_mem_each (j := i) (t := f.type) (d := z.1) ?_ ?_ m hm
    · rw [List.getElem?_map, hi]; rfl
    · rw [List.getElem?_map, hz]; rfl))
  exact ⟨y, by simpa using e, q⟩
/-- What a parameter of such a type is. -/
theorem opens_param {α : Type} {cells : α → List Value} {p : α → Prop} (h : Opens P W T cells p) {H : Type} {enc : TypeId × Value → H} {v : Value} {d : DataW H} {ps : List MemPlace} (ht : DataW.Trod enc P W 0 (fun _ => true) true T v d ps) (hsz : ∀ n ∈ d.weights P T, n ≤ reachBytes) :
    ∃ y, v.cells.toList = cells y ∧ p y := by
  obtain ⟨fuel, hf⟩ := ht
  exact h hf hsz
end
end Go.Vc

-- alias Tryz
namespace Go.Proofs.YtdghfagipheabaaGreatDoor
open Go.RowKit Go.Pw Go.Vc Go.Cs Go.Lib
set_option linter.unusedVariables false
set_option maxRecDepth 100000
def boxCells (b : Bx) : List Value := [.int .i64 b.id, .int .i64 b.up, .string (str b.name), .string (str b.role)]
abbrev RowB (w : World) (v : Value) (l : List Bx) : Prop := RowO w v boxCells l
theorem _root_.Go.Vc.RowO.keep {α : Type} {w w' : World} {v : Value} {cells : α → List Value} {l : List α} (h : RowO w v cells l) (k : Keeps w w' none_) : RowO w' v cells l := by
  obtain ⟨a, cap, rfl, h⟩ := h
  exact ⟨a, cap, rfl, fun h0 => let ⟨g, o, h1, h3, h4⟩ := h h0; ⟨g, o, h1, Nat.lt_of_lt_of_le h3 k.size, at_mono h4 k⟩⟩
theorem eqB_dec (a b : Int) : (a == b) = decide (a = b) := by by_cases h : a = b <;> simp [h]
def bx0 : Bx := ⟨0, 0, [], []⟩
section
variable {w : World}
/-! ### Looking up a mailbox by its number -/
theorem bx_cmp (b : Bx) (id : Int) : Calls Tryz.prog 50 #[.agg (boxCells b).toArray, .int .i64 id] w fun e w' => e = .returned (.int .i64 (cmp3 b.id id)) ∧ Keeps w w' none_ := by
  refine calls_of_vc (args := [.agg #[.int .i64 b.id, .int .i64 b.up, .string (str b.name), .string (str b.role)], .int .i64 id]) Tryz.func50 rfl (Nat.le_of_ble_eq_true rfl) ?_; refine Sat.go hmix ?_; conv => whnf
  have k0 : Keeps w (w.alloc (.cells (boxCells b).toArray 39)) none_ := (Keeps.refl _ _).alloc _
  have hA := at_cells (heap_alloc_new w (.cells (boxCells b).toArray 39))
  have c0 : (w.alloc (.cells (boxCells b).toArray 39)).cell? ⟨w.heap.size, 0, none⟩ = some (.int .i64 b.id) := hA 0 _ rfl
  have e1 : w.alloc (.cells #[.int .i64 b.id, .int .i64 b.up, .string (str b.name), .string (str b.role)] 39) = w.alloc (.cells (boxCells b).toArray 39) := rfl
  rw [e1]
  generalize w.alloc (.cells (boxCells b).toArray 39) = w1 at *
  refine KGO ?_
  refine CallS.of (Tryz.call51 _ _) (cmp_int b.id id) ?_
  rintro e w2 ⟨rfl, rfl⟩
  refine ⟨_, rfl, ?_⟩; (first | refine Then.go hmix ?_ | refine Sat.go hmix ?_ | refine ResK.go ?_ | skip); conv => whnf
  exact ⟨rfl, k0⟩
theorem cmp3_lt (a b : Int) : cmp3 a b < 0 ↔ a < b := by
  unfold cmp3
  split
  · simp_all
  · split <;> simp <;> omega
theorem cmp3_eq (a b : Int) : cmp3 a b = 0 ↔ a = b := by
  unfold cmp3
  split
  · simp; omega
  · split
    · simp; omega
    · simp; omega
theorem idx_of {l : List Bx} {id : Int} {k : Nat} (hk : k ≤ l.length) (h1 : ∀ m (hm : m < l.length), m < k → l[m].id < id) (h2 : ∀ m (hm : m < l.length), k ≤ m → ¬ l[m].id < id) : idxL l id = k := by
  unfold idxL
  refine takeWhile_split _ l k (fun x hx => ?_) hk fun x hx => ?_
  · obtain ⟨i, hi, rfl⟩ := List.getElem_of_mem hx
    rw [List.length_take] at hi
    rw [List.getElem_take]
    simpa using h1 i (by omega) (by omega)
  · obtain ⟨hk2, rfl⟩ := List.getElem?_eq_some_iff.1 hx
    simpa using h2 k hk2 (Nat.le_refl _)
theorem has_idx {l : List Bx} (h : l.Pairwise fun a b => a.id < b.id) (id : Int) : hasId l id = decide (idxL l id < l.length ∧ (l.getD (idxL l id) bx0).id = id) := by
  obtain ⟨h1, h2⟩ := split_idx h id
  have hle : idxL l id ≤ l.length := (List.takeWhile_prefix _).length_le
  rw [Bool.eq_iff_iff, hasId_iff, decide_eq_true_eq]
  constructor
  · rintro ⟨b, hb, rfl⟩
    rw [← List.take_append_drop (idxL l b.id) l] at hb
    rcases List.mem_append.1 hb with hb | hb
    · have := h1 b hb; omega
    · have hlt : idxL l b.id < l.length := by
        rcases Nat.lt_or_ge (idxL l b.id) l.length with q | q
        · exact q
        · rw [List.drop_eq_nil_of_le q] at hb; cases hb
      refine ⟨hlt, ?_⟩
      rw [List.getD_eq_getElem?_getD, List.getElem?_eq_getElem hlt]
      have hd : l.drop (idxL l b.id) = l[idxL l b.id] :: l.drop (idxL l b.id + 1) := List.drop_eq_getElem_cons hlt
      have hge := h2 l[idxL l b.id] (by rw [hd]; exact List.mem_cons_self)
      rw [hd] at hb
      rcases List.mem_cons.1 hb with e | hb
      · rw [← e]; rfl
      · have hp := h.sublist (List.drop_sublist (idxL l b.id) l)
        rw [hd] at hp
        have := (List.pairwise_cons.1 hp).1 b hb
        show l[idxL l b.id].id = b.id
        omega
  · rintro ⟨hlt, he⟩
    rw [List.getD_eq_getElem?_getD, List.getElem?_eq_getElem hlt] at he
    exact ⟨l[idxL l id], List.getElem_mem hlt, he⟩
set_option maxHeartbeats 1000000 in
theorem bs_box {v : Value} (l : List Bx) (id : Int) (hv : RowB w v l) (hl : l.length ≤ 1000000) : Calls Tryz.prog 49 #[v, .int .i64 id, .func (.func 50) #[] #[]] w fun e w' =>
    ∃ (k : Nat) (b : Bool), e = .returned (.tuple #[.int .i64 (k : Nat), .bool b]) ∧ k ≤ l.length ∧ ((l.Pairwise fun a b => a.id < b.id) → k = idxL l id ∧ b = hasId l id) ∧ Keeps w w' none_ := by
  obtain ⟨a, cap, rfl, hr⟩ := hv
  refine calls_of_vc (args := [.slice a l.length cap, .int .i64 id, .func (.func 50) #[] #[]]) Tryz.func49 rfl (Nat.le_of_ble_eq_true rfl) ?_; refine Sat.go hmix ?_; conv => whnf
  refine Loop.intro (ι := Nat × Nat) (fun p => [(0, .slice a l.length cap), (1, .int .i64 id), (2, .func (.func 50) #[] #[]), (8, .int .i64 (l.length : Nat)), (9, .int .i64 p.1), (10, .int .i64 p.2)])
    (fun p wr => Keeps w wr none_ ∧ p.1 ≤ p.2 ∧ p.2 ≤ l.length ∧ ((l.Pairwise fun a b => a.id < b.id) → (∀ m (hm : m < l.length), m < p.1 → l[m].id < id) ∧ ∀ m (hm : m < l.length), p.2 ≤ m → ¬ l[m].id < id)) (fun p => p.2 - p.1) (0, l.length) ⟨rfl, rfl, rfl, rfl, rfl, rfl, trivial⟩
    ⟨Keeps.refl _ _, by omega, Nat.le_refl _, fun _ => ⟨fun m _ hm => by omega, fun m h1 h2 => by omega⟩⟩ ?_
  rintro ⟨i, j⟩ g wr ⟨hK, hij, hj, hord⟩
  dsimp only at hij hj hord ⊢
  (first | refine Then.go hmix ?_ | refine Sat.go hmix ?_ | refine ResK.go ?_ | skip); conv => whnf
  by_cases hlt : i < j
  · obtain ⟨gb, o, rfl, hgb, hat⟩ := hr (by omega)
    refine KGO ?_
    rw [half_eq i j (by omega)]
    have hm1 : i ≤ (i + j) / 2 := by omega
    have hm2 : (i + j) / 2 < j := by omega
    generalize (i + j) / 2 = h at *
    have hhl : h < l.length := by omega
    refine KGO ?_
    refine CallS.of (Tryz.call50 _ _) (bx_cmp l[h] id) ?_
    rintro e w1 ⟨rfl, k1⟩
    refine ⟨_, rfl, ?_⟩; (first | refine Then.go hmix ?_ | refine Sat.go hmix ?_ | refine ResK.go ?_ | skip); conv => whnf
    by_cases hc : cmp3 l[h].id id < 0
    · refine KGO ?_
      refine ⟨(h + 1, j), ⟨rfl, rfl, rfl, rfl, v_int (by simp), rfl, trivial⟩, ⟨hK.trans0 k1, by dsimp only; omega, hj, fun hp => ⟨fun m hm hmh => ?_, (hord hp).2⟩⟩, by dsimp only; omega⟩
      dsimp only at hmh
      have hlh := (cmp3_lt _ _).1 hc
      by_cases e : m = h
      · subst e; exact hlh
      · have := (List.pairwise_iff_getElem.1 hp) m h hm hhl (by omega); omega
    · refine KGO ?_
      refine ⟨(i, h), ⟨rfl, rfl, rfl, rfl, rfl, rfl, trivial⟩, ⟨hK.trans0 k1, by dsimp only; omega, by dsimp only; omega, fun hp => ⟨(hord hp).1, fun m hm hmh => ?_⟩⟩, by dsimp only; omega⟩
      dsimp only at hmh
      have hlh : ¬ l[h].id < id := fun q => hc ((cmp3_lt _ _).2 q)
      by_cases e : m = h
      · subst e; exact hlh
      · have := (List.pairwise_iff_getElem.1 hp) h m hhl hm (by omega); omega
  · have hji : j = i := by omega
    subst hji
    have hidx : ∀ hp : l.Pairwise fun a b => a.id < b.id, idxL l id = j := fun hp => idx_of hj (hord hp).1 (hord hp).2
    by_cases h17 : j < l.length
    · obtain ⟨gb, o, rfl, hgb, hat⟩ := hr (by omega)
      refine KGO ?_
      refine CallS.of (Tryz.call50 _ _) (bx_cmp l[j] id) ?_
      rintro e w1 ⟨rfl, k1⟩
      refine ⟨_, rfl, ?_⟩; (first | refine Then.go hmix ?_ | refine Sat.go hmix ?_ | refine ResK.go ?_ | skip); conv => whnf
      refine KGO ?_
      refine ⟨j, _, rfl, hj, fun hp => ⟨(hidx hp).symm, ?_⟩, hK.trans0 k1⟩
      rw [has_idx hp, hidx hp, List.getD_eq_getElem?_getD, List.getElem?_eq_getElem h17]
      have e : (cmp3 l[j].id id == 0) = decide (l[j].id = id) := by
        rw [Bool.eq_iff_iff, beq_iff_eq, decide_eq_true_eq, cmp3_eq]
      rw [e]
      simp [h17]
    · refine KGO ?_
      refine ⟨j, _, rfl, hj, fun hp => ⟨(hidx hp).symm, ?_⟩, hK⟩
      rw [has_idx hp, hidx hp]
      simp [h17]
theorem bx_search {v : Value} (l : List Bx) (id : Int) (hv : RowB w v l) (hl : l.length ≤ 1000000) : Calls Tryz.prog 22 #[v, .int .i64 id] w fun e w' =>
    ∃ (k : Nat) (b : Bool), e = .returned (.tuple #[.int .i64 (k : Nat), .bool b]) ∧ k ≤ l.length ∧ ((l.Pairwise fun a b => a.id < b.id) → k = idxL l id ∧ b = hasId l id) ∧ Keeps w w' none_ := by
  have hv0 := hv
  obtain ⟨a, cap, rfl, hr⟩ := hv
  refine calls_of_vc (args := [.slice a l.length cap, .int .i64 id]) Tryz.func22 rfl (Nat.le_of_ble_eq_true rfl) ?_; refine Sat.go hmix ?_; conv => whnf
  refine CallS.of (Tryz.call49 _ _) (bs_box l id hv0 hl) ?_
  rintro e w1 ⟨k, b, rfl, h1, h2, k1⟩
  refine ⟨_, rfl, ?_⟩; (first | refine Then.go hmix ?_ | refine Sat.go hmix ?_ | refine ResK.go ?_ | skip); conv => whnf
  exact ⟨k, b, rfl, h1, h2, k1⟩
theorem bx_has {v : Value} (l : List Bx) (id : Int) (hv : RowB w v l) (hl : l.length ≤ 1000000) (ha : l.Pairwise fun a b => a.id < b.id) : Calls Tryz.prog 26 #[v, .int .i64 id] w fun e w' => e = .returned (.bool (decide (id = 0 ∨ hasId l id = true))) ∧ Keeps w w' none_ := by
  have hv0 := hv
  obtain ⟨a, cap, rfl, hr⟩ := hv
  refine calls_of_vc (args := [.slice a l.length cap, .int .i64 id]) Tryz.func26 rfl (Nat.le_of_ble_eq_true rfl) ?_; refine Sat.go hmix ?_; conv => whnf
  refine CallS.of (Tryz.call22 _ _) (bx_search l id hv0 hl) ?_
  rintro e w1 ⟨k, b, rfl, h1, h2, k1⟩
  obtain ⟨rfl, rfl⟩ := h2 ha
  refine ⟨_, rfl, ?_⟩; (first | refine Then.go hmix ?_ | refine Sat.go hmix ?_ | refine ResK.go ?_ | skip); conv => whnf
  cases hh : hasId l id with
  | true =>
    refine KGO ?_
    exact ⟨ret_bool (by simp), k1⟩
  | false =>
    refine KGO ?_
    exact ⟨ret_bool (by rw [Bool.eq_iff_iff]; simp), k1⟩
/-- Where a number stands. -/
theorem idx_at {l : List Bx} (h : l.Pairwise fun a b => a.id < b.id) {b : Bx} (hb : b ∈ l) : ∃ hk : idxL l b.id < l.length, l[idxL l b.id] = b := by
  have := (hasId_iff l b.id).2 ⟨b, hb, rfl⟩
  rw [has_idx h, decide_eq_true_eq] at this
  obtain ⟨h1, h2⟩ := this
  refine ⟨h1, ?_⟩
  rw [List.getD_eq_getElem?_getD, List.getElem?_eq_getElem h1] at h2
  exact id_inj h (List.getElem_mem h1) hb h2
theorem withinN_fuel {l : List Bx} (b : Int) : ∀ (n d : Nat) (id : Int), Dep l d id → d ≤ n → withinN l n id b = withinN l d id b
  | 0, d, id, h, hn => by
    obtain rfl : d = 0 := by omega
    rfl
  | n + 1, 0, id, h, hn => by
    have h0 : id = 0 := h
    simp [withinN, h0]
  | n + 1, d + 1, id, ⟨h0, u, hu, h⟩, hn => by
    unfold withinN
    rw [hu]
    dsimp only
    rw [withinN_fuel b n d u h (by omega)]
set_option maxHeartbeats 1000000 in
theorem bx_within {v : Value} (l : List Bx) (id b : Int) (hv : RowB w v l) (hr : RightP l) {d : Nat} (hd : Dep l d id) : Calls Tryz.prog 31 #[v, .int .i64 id, .int .i64 b] w fun e w' => e = .returned (.bool (within l id b)) ∧ Keeps w w' none_ := by
  have hv0 := hv
  have hlen := hr.len
  obtain ⟨a, cap, rfl, hr2⟩ := hv
  refine calls_of_vc (args := [.slice a l.length cap, .int .i64 id, .int .i64 b]) Tryz.func31 rfl (Nat.le_of_ble_eq_true rfl) ?_; refine Sat.go hmix ?_; conv => whnf
  refine Loop.intro (ι := Int × Nat) (fun p => [(0, .slice a l.length cap), (1, .int .i64 p.1), (2, .int .i64 b)])
    (fun p wr => Keeps w wr none_ ∧ Dep l p.2 p.1 ∧ within l id b = withinN l p.2 p.1 b) (fun p => p.2) (id, d) ⟨rfl, rfl, rfl, trivial⟩ ⟨Keeps.refl _ _, hd, withinN_fuel b _ d id hd hd.len⟩ ?_
  rintro ⟨x, n⟩ g wr ⟨hK, hx, he⟩
  dsimp only at hx he ⊢
  (first | refine Then.go hmix ?_ | refine Sat.go hmix ?_ | refine ResK.go ?_ | skip); conv => whnf
  by_cases h0 : x = 0
  · refine KGO ?_
    refine ⟨ret_bool ?_, hK⟩
    rw [he]
    cases n with
    | zero => rw [withinN, eqB_dec]
    | succ n => rw [withinN, if_pos (.inl h0), eqB_dec]
  by_cases hb : x = b
  · refine KGO ?_
    refine ⟨ret_bool ?_, hK⟩
    rw [he]
    cases n with
    | zero => rw [withinN, eqB_dec]
    | succ n => rw [withinN, if_pos (.inr hb), eqB_dec]
  cases n with
  | zero => exact absurd hx h0
  | succ n =>
    obtain ⟨_, u, hu, hn⟩ := hx
    obtain ⟨c, hc, rfl, rfl⟩ := upOf_mem hu
    obtain ⟨hk1, hk2⟩ := idx_at hr.asc hc
    rw [withinN, if_neg (by simp [h0, hb]), hu] at he
    dsimp only at he
    refine KGO ?_
    refine CallS.of (Tryz.call22 _ _) (bx_search l c.id (hv0.keep hK) (by omega)) ?_
    rintro e w1 ⟨k, q, rfl, h1, h2, k1⟩
    obtain ⟨rfl, rfl⟩ := h2 hr.asc
    obtain ⟨gb, o, rfl, hgb, hat⟩ := hr2 (by omega)
    have K1 := hK.trans0 k1
    refine ⟨_, rfl, ?_⟩; (first | refine Then.go hmix ?_ | refine Sat.go hmix ?_ | refine ResK.go ?_ | skip); conv => whnf
    refine KGO ?_
    rw [hk2]
    exact ⟨(c.up, n), ⟨rfl, rfl, rfl, trivial⟩, ⟨K1, hn, he⟩, by dsimp only; omega⟩
set_option maxHeartbeats 1000000 in
theorem bx_depth {v : Value} (l : List Bx) (id : Int) (hv : RowB w v l) (hr : RightP l) {d : Nat} (hd : Dep l d id) : Calls Tryz.prog 27 #[v, .int .i64 id] w fun e w' => e = .returned (.int .i64 (d : Nat)) ∧ Keeps w w' none_ := by
  have hv0 := hv
  have hlen := hr.len
  have hdl := hd.len
  obtain ⟨a, cap, rfl, hr2⟩ := hv
  refine calls_of_vc (args := [.slice a l.length cap, .int .i64 id]) Tryz.func27 rfl (Nat.le_of_ble_eq_true rfl) ?_; refine Sat.go hmix ?_; conv => whnf
  refine Loop.intro (ι := Int × Nat × Nat) (fun p => [(0, .slice a l.length cap), (1, .int .i64 p.1), (5, .int .i64 (p.2.2 : Nat))])
    (fun p wr => Keeps w wr none_ ∧ Dep l p.2.1 p.1 ∧ p.2.2 + p.2.1 = d) (fun p => p.2.1) (id, d, 0) ⟨rfl, rfl, rfl, trivial⟩ ⟨Keeps.refl _ _, hd, by dsimp only; omega⟩ ?_
  rintro ⟨x, n, m⟩ g wr ⟨hK, hx, he⟩
  dsimp only at hx he ⊢
  (first | refine Then.go hmix ?_ | refine Sat.go hmix ?_ | refine ResK.go ?_ | skip); conv => whnf
  cases n with
  | zero =>
    have h0 : x = 0 := hx
    refine KGO ?_
    exact ⟨ret_int (by omega), hK⟩
  | succ n =>
    obtain ⟨h0, u, hu, hn⟩ := hx
    obtain ⟨c, hc, rfl, rfl⟩ := upOf_mem hu
    obtain ⟨hk1, hk2⟩ := idx_at hr.asc hc
    refine KGO ?_
    refine CallS.of (Tryz.call22 _ _) (bx_search l c.id (hv0.keep hK) (by omega)) ?_
    rintro e w1 ⟨k, q, rfl, h1, h2, k1⟩
    obtain ⟨rfl, rfl⟩ := h2 hr.asc
    obtain ⟨gb, o, rfl, hgb, hat⟩ := hr2 (by omega)
    have K1 := hK.trans0 k1
    refine ⟨_, rfl, ?_⟩; (first | refine Then.go hmix ?_ | refine Sat.go hmix ?_ | refine ResK.go ?_ | skip); conv => whnf
    refine KGO ?_
    rw [hk2]
    exact ⟨(c.up, n, m + 1), ⟨rfl, rfl, v_int (by simp), trivial⟩, ⟨K1, hn, by dsimp only; omega⟩, by dsimp only; omega⟩
end
end Go.Proofs.YtdghfagipheabaaGreatDoor

namespace Go.Cs
open Go.Lib
set_option linter.unusedVariables false
/-! ### Names by runes -/
def badR (r : Nat) : Prop := r < 32 ∨ r = 127 ∨ r = 47
instance (r : Nat) : Decidable (badR r) := by unfold badR; infer_instance
theorem fine_low : ∀ c : Fin 128, (fineB (UInt8.ofNat c.val) = false ↔ badR c.val) := by decide +kernel
theorem fine_high (b : UInt8) (h : 128 ≤ b.toNat) : fineB b = true := by
  unfold fineB
  rw [decide_eq_false (by omega), decide_eq_false (by omega), decide_eq_false (by omega)]; rfl
theorem enc_fine (c : Nat) (h : scal c) : (∃ b ∈ enc c, fineB b = false) ↔ badR c := by
  by_cases h1 : c < 128
  · have : enc c = [UInt8.ofNat c] := by
      unfold enc encodeRune
      rw [encodeRuneZ_one (by omega) (by omega)]
      simp only [List.map_cons, List.map_nil, Int.toNat_natCast]
    rw [this]
    simpa using fine_low ⟨c, h1⟩
  · constructor
    · rintro ⟨b, hb, hf⟩
      exfalso
      have key : ∀ x ∈ enc c, 128 ≤ x.toNat := by
        unfold scal at h
        unfold enc encodeRune
        by_cases h2 : c ≤ 2047
        · rw [encodeRuneZ_two (by omega) (by omega)]
          intro x hx
          simp only [List.map_cons, List.map_nil, List.mem_cons, List.not_mem_nil, or_false] at hx
          rcases hx with rfl | rfl <;> (rw [u8n _ (by omega)]; omega)
        by_cases h3 : c ≤ 65535
        · rw [encodeRuneZ_three (by omega)]
          intro x hx
          simp only [List.map_cons, List.map_nil, List.mem_cons, List.not_mem_nil, or_false] at hx
          rcases hx with rfl | rfl | rfl <;> (rw [u8n _ (by omega)]; omega)
        · rw [encodeRuneZ_four (by omega) (by omega)]
          intro x hx
          simp only [List.map_cons, List.map_nil, List.mem_cons, List.not_mem_nil, or_false] at hx
          rcases hx with rfl | rfl | rfl | rfl <;> (rw [u8n _ (by omega)]; omega)
      rw [fine_high b (key b hb)] at hf; cases hf
    · intro hb; unfold badR at hb; omega
theorem runes_fine (s : List UInt8) (h : validD s = true) : (∃ r ∈ runes s, badR r) ↔ ∃ b ∈ s, fineB b = false := by
  have he : encs (runes s) = s := repair_of_valid s h
  constructor
  · rintro ⟨r, hr, hb⟩
    obtain ⟨b, hb1, hb2⟩ := (enc_fine r (runes_scal s r hr)).2 hb
    refine ⟨b, ?_, hb2⟩
    rw [← he]
    unfold encs
    exact List.mem_flatMap.2 ⟨r, hr, hb1⟩
  · rintro ⟨b, hb, hf⟩
    rw [← he] at hb
    unfold encs at hb
    obtain ⟨r, hr, hb⟩ := List.mem_flatMap.1 hb
    exact ⟨r, hr, (enc_fine r (runes_scal s r hr)).1 ⟨b, hb, hf⟩⟩
theorem named_runes (s : List UInt8) (h1 : 1 ≤ s.length) (h2 : s.length ≤ 100) (h3 : validD s = true) : namedB s = !decide (∃ r ∈ runes s, badR r) := by
  rw [Bool.eq_iff_iff, named_iff]
  simp only [Bool.not_eq_true', decide_eq_false_iff_not]
  rw [runes_fine s h3]
  constructor
  · rintro ⟨_, _, _, h⟩ ⟨b, hb, hf⟩
    rw [h b hb] at hf; cases hf
  · intro h
    refine ⟨h1, h2, h3, fun b hb => ?_⟩
    cases hf : fineB b with
    | true => rfl
    | false => exact absurd ⟨b, hb, hf⟩ h
end Go.Cs

-- alias Tryz
namespace Go.Proofs.YtdghfagipheabaaGreatDoor
open Go.RowKit Go.Pw Go.Vc Go.Cs Go.Lib
set_option linter.unusedVariables false
set_option maxRecDepth 100000
section
variable {w : World}
/-! ### Names -/
theorem nm_bad (r : Nat) (hr : r ≤ 1114111) : Calls Tryz.prog 39 #[.int .i32 (r : Nat)] w fun e w' => e = .returned (.bool (decide (badR r))) ∧ w = w' := by
  refine calls_of_vc (args := [.int .i32 (r : Nat)]) Tryz.func39 rfl (Nat.le_of_ble_eq_true rfl) ?_; refine Sat.go hmix ?_; conv => whnf
  by_cases h1 : r < 32
  · refine KGO ?_
    exact ⟨ret_bool (decide_eq_true (show badR r from .inl h1)).symm, rfl⟩
  by_cases h2 : r = 127
  · refine KGO ?_
    exact ⟨ret_bool (decide_eq_true (show badR r from .inr (.inl h2))).symm, rfl⟩
  refine KGO ?_
  refine ⟨ret_bool ?_, rfl⟩
  have hb : badR r ↔ r = 47 := by unfold badR; omega
  rw [Bool.eq_iff_iff, beq_iff_eq, decide_eq_true_eq, hb]
  omega
set_option maxHeartbeats 1000000 in
theorem nm_index (s : ByteArray) (hs : s.size ≤ 100000000) : Calls Tryz.prog 79 #[.string s, .func (.func 39) #[] #[], .bool true] w fun e w' => ∃ z : Int, e = .returned (.int .i64 z) ∧ (0 ≤ z ↔ ∃ r ∈ runes (L s), badR r) ∧ Keeps w w' none_ := by
  have hl := L_len s
  refine calls_of_vc (args := [.string s, .func (.func 39) #[] #[], .bool true]) Tryz.func79 rfl (Nat.le_of_ble_eq_true rfl) ?_; refine Sat.go hmix ?_; conv => whnf
  refine RunV.rangeS Tryz.underlying9 ?_
  (first | refine Then.go hmix ?_ | refine Sat.go hmix ?_ | refine ResK.go ?_ | skip); conv => whnf
  have hi0 : (w.alloc (.stringIter s 0)).heap[w.heap.size]? = some (.stringIter s 0) := heap_alloc_new _ _
  have K1 : Keeps w (w.alloc (.stringIter s 0)) none_ := (Keeps.refl _ _).alloc _
  generalize w.alloc (.stringIter s 0) = w1 at *
  refine Loop.intro (ι := Nat) (fun i => [(0, .string s), (1, .func (.func 39) #[] #[]), (2, .bool true), (10, .pointer (some ⟨w.heap.size, 0, none⟩))])
    (fun n wr => Keeps w wr none_ ∧ n ≤ s.size ∧ wr.heap[w.heap.size]? = some (.stringIter s n) ∧ ((∃ r ∈ runes (L s), badR r) ↔ ∃ r ∈ runes ((L s).drop n), badR r)) (fun n => s.size - n) 0 ⟨rfl, rfl, rfl, rfl, trivial⟩
    ⟨K1, Nat.zero_le _, hi0, Iff.rfl⟩ ?_
  rintro n g wr ⟨hK, hn, hi, he⟩
  (first | refine Then.go hmix ?_ | refine Sat.go hmix ?_ | refine ResK.go ?_ | skip); conv => whnf
  by_cases hlt : n < s.size
  · refine RunV.nextS hi hlt ?_
    have hne : (L s).drop n ≠ [] := by rw [← L_from]; exact L_ne (by simp; omega)
    have hw := decodeL_width ((L s).drop n)
    have hle := decodeL_le _ hne
    have hru := decodeL_rune ((L s).drop n)
    rw [List.length_drop] at hle
    rw [runes_step _ hne, List.drop_drop] at he
    have hi2 : (setO wr w.heap.size (.stringIter s (n + (decodeL ((L s).drop n)).2))).heap[w.heap.size]? = some (.stringIter s (n + (decodeL ((L s).drop n)).2)) := setO_get _ (lt_of_obj hi)
    have K2 : Keeps w (setO wr w.heap.size (.stringIter s (n + (decodeL ((L s).drop n)).2))) none_ := hK.trans (setO_keeps _) fun i hi h => by have h : i = w.heap.size := h; omega
    generalize setO wr w.heap.size (.stringIter s (n + (decodeL ((L s).drop n)).2)) = w2 at *
    generalize (decodeL ((L s).drop n)).2 = k at *
    generalize (decodeL ((L s).drop n)).1 = r at *
    refine KGO ?_
    refine CallS.of (Tryz.call39 _ _) (nm_bad (w := w2) r (by omega)) ?_
    rintro e w3 ⟨rfl, rfl⟩
    refine ⟨_, rfl, ?_⟩; (first | refine Then.go hmix ?_ | refine Sat.go hmix ?_ | refine ResK.go ?_ | skip); conv => whnf
    by_cases hb : badR r
    · rw [decide_eq_true hb]
      refine KGO ?_
      exact ⟨_, rfl, ⟨fun _ => he.2 ⟨r, by simp, hb⟩, fun _ => by omega⟩, K2⟩
    · rw [decide_eq_false hb]
      refine KGO ?_
      refine ⟨n + k, ⟨rfl, rfl, rfl, rfl, trivial⟩, ⟨K2, by omega, hi2, he.trans ⟨?_, ?_⟩⟩, by dsimp only; omega⟩
      · rintro ⟨x, hx, hxb⟩
        rcases List.mem_cons.1 hx with rfl | hx
        · exact absurd hxb hb
        · exact ⟨x, hx, hxb⟩
      · rintro ⟨x, hx, hxb⟩
        exact ⟨x, List.mem_cons_of_mem _ hx, hxb⟩
  · refine RunV.nextE hi hlt ?_
    refine KGO ?_
    refine ⟨_, rfl, ⟨fun h => by omega, fun h => ?_⟩, hK⟩
    rw [List.drop_eq_nil_of_le (by omega)] at he
    obtain ⟨r, hr, _⟩ := he.1 h
    cases hr
theorem nm_contains (s : ByteArray) (hs : s.size ≤ 100000000) : Calls Tryz.prog 38 #[.string s, .func (.func 39) #[] #[]] w fun e w' => e = .returned (.bool (decide (∃ r ∈ runes (L s), badR r))) ∧ Keeps w w' none_ := by
  have hi : ∀ w : World, Calls Tryz.prog 65 #[.string s, .func (.func 39) #[] #[]] w fun e w' => ∃ z : Int, e = .returned (.int .i64 z) ∧ (0 ≤ z ↔ ∃ r ∈ runes (L s), badR r) ∧ Keeps w w' none_ := fun w => by
    refine calls_of_vc (args := [.string s, .func (.func 39) #[] #[]]) Tryz.func65 rfl (Nat.le_of_ble_eq_true rfl) ?_; refine Sat.go hmix ?_; conv => whnf
    refine CallS.of (Tryz.call79 _ _) (nm_index s hs) ?_
    rintro e w1 ⟨z, rfl, hz, k1⟩
    refine ⟨_, rfl, ?_⟩; (first | refine Then.go hmix ?_ | refine Sat.go hmix ?_ | refine ResK.go ?_ | skip); conv => whnf
    exact ⟨z, rfl, hz, k1⟩
  refine calls_of_vc (args := [.string s, .func (.func 39) #[] #[]]) Tryz.func38 rfl (Nat.le_of_ble_eq_true rfl) ?_; refine Sat.go hmix ?_; conv => whnf
  refine CallS.of (Tryz.call65 _ _) (hi w) ?_
  rintro e w1 ⟨z, rfl, hz, k1⟩
  refine ⟨_, rfl, ?_⟩; (first | refine Then.go hmix ?_ | refine Sat.go hmix ?_ | refine ResK.go ?_ | skip); conv => whnf
  refine ⟨ret_bool ?_, k1⟩
  rw [Bool.eq_iff_iff, decide_eq_true_eq, decide_eq_true_eq]
  exact hz
theorem bx_Named (s : ByteArray) (hT : Tabs w) (hs : s.size ≤ 100000000) : Calls Tryz.prog 17 #[.string s] w fun e w' => e = .returned (.bool (namedB (L s))) ∧ Keeps w w' none_ := by
  have hl := L_len s
  have hno : ∀ (h : ¬ (1 ≤ (L s).length ∧ (L s).length ≤ 100 ∧ validD (L s) = true)), namedB (L s) = false := fun h => by
    cases hn : namedB (L s) with
    | false => rfl
    | true =>
      have := (named_iff (L s)).1 hn
      exact absurd ⟨this.1, this.2.1, this.2.2.1⟩ h
  refine calls_of_vc (args := [.string s]) Tryz.func17 rfl (Nat.le_of_ble_eq_true rfl) ?_; refine Sat.go hmix ?_; conv => whnf
  by_cases h1 : s.size < 1
  · refine KGO ?_
    exact ⟨ret_bool (hno (by omega)).symm, Keeps.refl _ _⟩
  by_cases h2 : 100 < s.size
  · refine KGO ?_
    exact ⟨ret_bool (hno (by omega)).symm, Keeps.refl _ _⟩
  refine KGO ?_
  refine CallS.of (Tryz.call37 _ _) (cs_Valid s hT hs) ?_
  rintro e w1 ⟨rfl, k1⟩
  refine ⟨_, rfl, ?_⟩; (first | refine Then.go hmix ?_ | refine Sat.go hmix ?_ | refine ResK.go ?_ | skip); conv => whnf
  by_cases h3 : validD (L s) = true
  · rw [h3]
    refine KGO ?_
    refine CallS.of (Tryz.call38 _ _) (nm_contains (w := w1) s hs) ?_
    rintro e w2 ⟨rfl, k2⟩
    refine ⟨_, rfl, ?_⟩; (first | refine Then.go hmix ?_ | refine Sat.go hmix ?_ | refine ResK.go ?_ | skip); conv => whnf
    exact ⟨ret_bool (named_runes (L s) (by omega) (by omega) h3).symm, k1.trans0 k2⟩
  · rw [show validD (L s) = false by simpa using h3]
    refine KGO ?_
    exact ⟨ret_bool (hno fun h => h3 h.2.2).symm, k1⟩
/-! ### Roles -/
def RolesTab (w : World) : Prop := ∃ b o c, w.cell? ⟨0, 0, none⟩ = some (.slice (some ⟨b, o, none⟩) 7 c) ∧ b < w.heap.size ∧ At w b o (rolesL.map sv)
theorem RolesTab.keep {w' : World} (h : RolesTab w) (k : Keeps w w' none_) : RolesTab w' := by
  obtain ⟨b, o, c, h1, h2, h3⟩ := h
  exact ⟨b, o, c, cell_mono h1 k, Nat.lt_of_lt_of_le h2 k.size, at_mono h3 k⟩
set_option maxHeartbeats 1000000 in
theorem idx_texts {v : Value} (l : List (List UInt8)) (s : List UInt8) (hv : RowO w v (fun x => [sv x]) l) (hl : l.length ≤ 1000000000) : Calls Tryz.prog 52 #[v, .string (str s)] w fun e w' => ∃ z : Int, e = .returned (.int .i64 z) ∧ (0 ≤ z ↔ s ∈ l) ∧ Keeps w w' none_ := by
  obtain ⟨a, cap, rfl, hr⟩ := hv
  refine calls_of_vc (args := [.slice a l.length cap, .string (str s)]) Tryz.func52 rfl (Nat.le_of_ble_eq_true rfl) ?_; refine Sat.go hmix ?_; conv => whnf
  refine Loop.intro (ι := Nat) (fun i => [(0, .slice a l.length cap), (1, .string (str s)), (7, .int .i64 (l.length : Nat)), (8, .int .i64 (i : Nat))])
    (fun i wr => Keeps w wr none_ ∧ i ≤ l.length ∧ (s ∈ l ↔ s ∈ l.drop i)) (fun i => l.length - i) 0 ⟨rfl, rfl, rfl, rfl, trivial⟩ ⟨Keeps.refl _ _, Nat.zero_le _, Iff.rfl⟩ ?_
  rintro i g wr ⟨hK, hi, he⟩
  (first | refine Then.go hmix ?_ | refine Sat.go hmix ?_ | refine ResK.go ?_ | skip); conv => whnf
  by_cases hlt : i < l.length
  · obtain ⟨gb, o, rfl, hgb, hat⟩ := hr (by omega)
    have hd := List.drop_eq_getElem_cons hlt
    have c0 : w.cell? ⟨gb, o + i, none⟩ = some (.string (str l[i])) := at_row hat (fun _ => rfl) hlt 0 _ rfl |> fun h => by simpa [sv] using h
    generalize l[i] = x at *
    refine KGO ?_
    by_cases hx : s = x
    · have hxx : decide (str s = str x) = true := by simp [hx]
      refine KGO ?_
      exact ⟨_, rfl, ⟨fun _ => he.2 (by rw [hd, hx]; simp), fun _ => by omega⟩, hK⟩
    · have hxx : decide (str s = str x) = false := by simp [str_eq, hx]
      refine KGO ?_
      refine ⟨i + 1, ⟨rfl, rfl, rfl, v_int (by simp), trivial⟩, ⟨hK, by omega, ?_⟩, by dsimp only; omega⟩
      rw [he, hd]
      simp [hx]
  · refine KGO ?_
    refine ⟨_, rfl, ⟨fun h => by omega, fun h => ?_⟩, hK⟩
    rw [he, List.drop_eq_nil_of_le (by omega)] at h
    cases h
theorem con_texts {v : Value} (l : List (List UInt8)) (s : List UInt8) (hv : RowO w v (fun x => [sv x]) l) (hl : l.length ≤ 1000000000) : Calls Tryz.prog 23 #[v, .string (str s)] w fun e w' => e = .returned (.bool (decide (s ∈ l))) ∧ Keeps w w' none_ := by
  have hv0 := hv
  obtain ⟨a, cap, rfl, hr⟩ := hv
  refine calls_of_vc (args := [.slice a l.length cap, .string (str s)]) Tryz.func23 rfl (Nat.le_of_ble_eq_true rfl) ?_; refine Sat.go hmix ?_; conv => whnf
  refine CallS.of (Tryz.call52 _ _) (idx_texts l s hv0 hl) ?_
  rintro e w1 ⟨z, rfl, hz, k1⟩
  refine ⟨_, rfl, ?_⟩; (first | refine Then.go hmix ?_ | refine Sat.go hmix ?_ | refine ResK.go ?_ | skip); conv => whnf
  refine ⟨ret_bool ?_, k1⟩
  rw [Bool.eq_iff_iff, decide_eq_true_eq, decide_eq_true_eq]
  exact hz
end
end Go.Proofs.YtdghfagipheabaaGreatDoor
