/- Helper text of this claim: lemmas and contracts that the proved statement rests on; no conditions of its own. -/
import Derived.Deep.Slices
import Derived.ProofKit
import Derived.Lay
import Derived.SevenTiedAt
import Derived.OpenShut
import Derived.SizedLaws
import Derived.ChangeOld
import Derived.Test.YtcdpocffoapbeaaGreatDoorGCs0
namespace Go.Vc
set_option linter.unusedVariables false
open Go Go.Pw Go.RowKit Go.ChangeShapes Go.WideShapes Go.ChangeAt
set_option linter.unusedVariables false
theorem zdJ {H : Type} {P : Program} {e : TypeId} : ∀ {l : List (DataW H)} {d : DataW H}, d ∈ l → ∀ n ∈ d.weights P e, n ∈ DataW.weightsAll P e l
 | [], d, h, n, hn => by cases h
 | a :: r, d, h, n, hn => by
  show n ∈ DataW.weights P e a ++ DataW.weightsAll P e r
  rw [List.mem_append]
  rcases List.mem_cons.1 h with rfl | h
  ·exact .inl hn
  ·exact .inr (zdJ h n hn)
def Opens (P : Program) (W : World) (T : TypeId) {α : Type} (cells : α → List Value) (p : α → Prop) : Prop :=
 ∀ {H : Type} {enc : TypeId × Value → H} {fuel : Nat} {cs : List Value} {x : DataW H × List MemPlace}, DataW.trod enc P W 0 (fun _ => true) true fuel T cs = some x → (∀ n ∈ x.1.weights P T, n ≤ reachBytes) → ∃ y, cs = cells y ∧ p y
def RowO {α : Type} (W : World) (v : Value) (cells : α → List Value) (l : List α) : Prop := ∃ a cap, v = .slice a l.length cap ∧ (0 < l.length → ∃ g o, a = some ⟨g, o, none⟩ ∧ g < W.heap.size ∧ At W g o (l.flatMap cells))
theorem RowO.keep {α : Type} {w w' : World} {v : Value} {cells : α → List Value} {l : List α} (h : RowO w v cells l) (k : Kp w w' n_) : RowO w' v cells l := by
 obtain ⟨a, cap, rfl, h⟩ := h
 exact ⟨a, cap, rfl, fun h0 => let ⟨g, o, h1, h3, h4⟩ := h h0; ⟨g, o, h1, Nat.lt_of_lt_of_le h3 k.size, zam h4 k⟩⟩
section
variable {P : Program} {W : World} {T : TypeId}
theorem zic (hT : P.underlying T = some (.int .i64)) : Opens P W T (fun z : Int => [.int .i64 z]) (fun z => -9223372036854775808 ≤ z ∧ z ≤ 9223372036854775807) := fun {H enc fuel cs x} h _ => by
 obtain ⟨z, e, _, w⟩ := DataW.trod_int hT h
 exact ⟨z, e, by simpa [Lit.wf, IntKind.min, IntKind.max, IntKind.signed, IntKind.bits] using w⟩
theorem zhl (hT : P.underlying T = some .string) : Opens P W T (fun s : ByteArray => [.string s]) (fun s => s.size ≤ 140737488355328) := fun {H enc fuel cs x} h hsz => by
 obtain ⟨s, e, g, _⟩ := DataW.trod_string hT h
 refine ⟨s, e, ?_⟩
 have : s.size ≤ reachBytes := hsz s.size (by
  have e : x = (.lit (.string s.data.toList), []) := by simpa using g
  rw [e]; simp [DataW.weights])
 unfold reachBytes at this; omega
theorem zdf {E : TypeId} {α : Type} [Inhabited α] {cells : α → List Value} {p : α → Prop} {k bytes : Nat} (hT : P.underlying T = some (.slice E)) (hE : Opens P W E cells p) (hk : ∀ y, (cells y).length = k) (hk0 : 0 < k) (hc : P.cellsOf E = k) (hb : P.bytesOf E = bytes) (hb0 : 0 < bytes) :
  Opens P W T (fun y : Value × List α => [y.1]) (fun y => RowO W y.1 cells y.2 ∧ y.2.length * bytes ≤ 140737488351232 ∧ ∀ z ∈ y.2, p z) := fun {H enc fuel cs x} hf hsz => by
 rcases DataW.trod_slice hT hf with ⟨hcs, hx⟩ | ⟨x0, len, cap, elems, rest, n, _, hcs, hx, hb2, hl, hm, hel, hat, hsp, _⟩
 ·exact ⟨(.slice none 0 0, []), hcs, ⟨none, 0, rfl, fun h => by simp at h⟩, by simp, by simp⟩
 ·subst hx
  rw [hc] at hat
  have hmax : len * bytes ≤ 140737488351232 := by
   have hw := hsz ((List.map (fun x => x.fst) elems).length * P.bytesOf E + (List.map (fun x => x.fst) rest).length * P.bytesOf E) (by
    show _ ∈ DataW.weights P T (.slice _ _)
    unfold DataW.weights
    rw [hT, ← Nat.add_mul]
    exact List.mem_cons_self)
   rw [hb, List.length_map, List.length_map] at hw
   have : len ≤ elems.length := by omega
   have := Nat.mul_le_mul_right bytes this
   have := Nat.zero_le (rest.length * bytes)
   unfold reachBytes at hw; omega
  have each : ∀ i, i < len → ∃ y : α, p y ∧ ∃ lb lo, some x0 = some ⟨lb, lo, none⟩ ∧ lb < W.heap.size ∧ At W lb (lo + i * k) (cells y) := fun i hi => by
   have hy : elems[i]? = some (elems[i]'(by omega)) := List.getElem?_eq_getElem (by omega)
   have hbi := hat i hi
   rw [hy, Option.bind_eq_some_iff] at hbi
   obtain ⟨cs, hcs, ht⟩ := hbi
   obtain ⟨y, rfl, hok⟩ := hE ht (fun m hm => hsz m (by
    show m ∈ DataW.weights P T (.slice _ _)
    unfold DataW.weights
    rw [hT]
    exact List.mem_cons_of_mem _ (List.mem_append_left _ (zdJ (List.mem_map.2 ⟨_, List.getElem_mem (by omega), rfl⟩) m hm))))
   obtain ⟨_, hcl, hcat⟩ := World.cells?_some hcs
   refine ⟨y, hok, ?_⟩
   obtain ⟨b, off, spot⟩ := x0
   have hyk := hk y
   have h0 := hcat 0 (by omega)
   obtain ⟨v0, hv0⟩ : ∃ v0, (cells y)[0]? = some v0 := ⟨_, List.getElem?_eq_getElem (by omega)⟩
   rw [hv0] at h0
   have hspot : spot = none := by
    have := World.cell?_spot h0
    by_cases hi0 : i = 0
    ·subst hi0; simpa [Addr.add] using this
    ·exact Classical.byContradiction fun hne => by
      have hh := hat 0 (by omega)
      have hy0 : elems[0]? = some (elems[0]'(by omega)) := List.getElem?_eq_getElem (by omega)
      rw [hy0, Option.bind_eq_some_iff] at hh
      obtain ⟨cs0, hcs0, ht0⟩ := hh
      obtain ⟨_, hcl0, hcat0⟩ := World.cells?_some hcs0
      have h00 := hcat0 0 (by omega)
      have hcs0l : 0 < cs0.length := by omega
      rw [List.getElem?_eq_getElem hcs0l] at h00
      have := World.cell?_spot h00
      exact hne (by simpa [Addr.add] using this)
   subst hspot
   have hlt := Pw.cell_lt h0
   rw [Go.Vc.add_none, Go.Vc.add_none] at hlt
   refine ⟨b, off, rfl, hlt, fun j v hj => ?_⟩
   have hjk : j < k := by
    have := (List.getElem?_eq_some_iff.1 hj).1; omega
   have := hcat j (by omega)
   rw [Go.Vc.add_none, Go.Vc.add_none, hj] at this
   exact this
  obtain ⟨f, hfx⟩ := Go.Deep.choose_lt each
  have hlen : ((List.range len).map f).length = len := by simp
  refine ⟨(.slice (some x0) len cap, (List.range len).map f), hcs, ⟨some x0, cap, by rw [hlen], fun h0 => ?_⟩, by rw [hlen]; exact hmax, fun z hz => ?_⟩
  ·rw [hlen] at h0
   obtain ⟨_, lb, lo, he, hlb, _⟩ := hfx 0 h0
   refine ⟨lb, lo, he, hlb, fun i v hv => ?_⟩
   have hgen : ∀ (l : List α) (o : Nat), (∀ j, (hj : j < l.length) → At W lb (o + j * k) (cells l[j])) → At W lb o (l.flatMap cells) := by
    intro l
    induction l with
    | nil => intro o _ i v hi; simp at hi
    | cons a r ih =>
     intro o h i v hi
     rw [List.flatMap_cons] at hi
     by_cases hik : i < k
     ·rw [List.getElem?_append_left (by rw [hk]; exact hik)] at hi
      have := h 0 (by simp) i v hi
      simpa using this
     ·rw [List.getElem?_append_right (by rw [hk]; omega), hk] at hi
      have h2 := ih (o + k) (fun j hj m u hu => by
       have := h (j + 1) (by simpa using hj) m u hu
       rw [Nat.succ_mul] at this
       rw [show o + k + j * k + m = o + (j * k + k) + m by omega]
       exact this) (i - k) v hi
      rwa [show o + k + (i - k) = o + i by omega] at h2
   refine hgen ((List.range len).map f) lo (fun j hj => ?_) i v hv
   have hj : j < len := by simpa using hj
   obtain ⟨_, lb2, lo2, he2, _, hc2⟩ := hfx j hj
   rw [he] at he2
   injection he2 with he2
   injection he2 with e1 e2
   subst e1; subst e2
   rw [List.getElem_map, List.getElem_range]
   exact hc2
  ·obtain ⟨i, hi, rfl⟩ := List.mem_map.1 hz
   exact (hfx i (by simpa using hi)).1
theorem Opens.imp {α β : Type} {cells : α → List Value} {p : α → Prop} {cells' : β → List Value} {p' : β → Prop} (h : Opens P W T cells p) (f : α → β) (hc : ∀ y, cells y = cells' (f y)) (hp : ∀ y, p y → p' (f y)) : Opens P W T cells' p' := fun {H enc fuel cs x} hf hsz => by
 obtain ⟨y, rfl, h2⟩ := h hf hsz
 exact ⟨f y, hc y, hp y h2⟩
theorem Opens.impP {α β : Type} {cells : α → List Value} {p : α → Prop} {cells' : β → List Value} {p' : β → Prop} (h : Opens P W T cells p) (f : α → β) (hc : ∀ y, p y → cells y = cells' (f y)) (hp : ∀ y, p y → p' (f y)) : Opens P W T cells' p' := fun {H enc fuel cs x} hf hsz => by
 obtain ⟨y, rfl, h2⟩ := h hf hsz
 exact ⟨f y, hc y h2, hp y h2⟩
def OpensFs (P : Program) (W : World) (fs : List Field) (off total : Nat) {α : Type} (cells : α → List Value) (p : α → Prop) : Prop :=
 ∀ {H : Type} {enc : TypeId × Value → H} {n : Nat} {cs : List Value} {xs : List (DataW H × List MemPlace)}, cs.length = total → xs.length = fs.length →
  (∀ (i : Nat) (f : Field), fs[i]? = some f → DataW.trod enc P W 0 (fun _ => true) true n f.type ((cs.drop f.offset).take (P.cellsOf f.type)) = xs[i]?) →
  (∀ (i : Nat) (f : Field) (x : DataW H × List MemPlace), fs[i]? = some f → xs[i]? = some x → ∀ m ∈ x.1.weights P f.type, m ≤ reachBytes) → ∃ y, cs.drop off = cells y ∧ p y
theorem zhS {off : Nat} : OpensFs P W [] off off (fun _ : Unit => []) (fun _ => True) := fun {H enc n cs xs} hl _ _ _ => ⟨(), List.drop_eq_nil_of_le (by omega), trivial⟩
theorem zck {f : Field} {fs : List Field} {off total k : Nat} {α β : Type} {c1 : α → List Value} {p1 : α → Prop} {c2 : β → List Value} {p2 : β → Prop} (ho : f.offset = off) (hk : P.cellsOf f.type = k) (h1 : Opens P W f.type c1 p1) (h2 : OpensFs P W fs (off + k) total c2 p2) :
  OpensFs P W (f :: fs) off total (fun y : α × β => c1 y.1 ++ c2 y.2) (fun y => p1 y.1 ∧ p2 y.2) := fun {H enc n cs xs} hl hx hf hw => by
 cases xs with
 | nil => simp at hx
 | cons x xs =>
  have f0 := hf 0 f rfl
  rw [ho, hk] at f0
  obtain ⟨y1, e1, q1⟩ := h1 f0 (hw 0 f x rfl rfl)
  obtain ⟨y2, e2, q2⟩ := h2 (n := n) (cs := cs) (xs := xs) hl (by simpa using hx) (fun i g hg => hf (i + 1) g (by simpa using hg)) (fun i g z hg hz => hw (i + 1) g z (by simpa using hg) (by simpa using hz))
  refine ⟨(y1, y2), ?_, q1, q2⟩
  dsimp only
  rw [← e1, ← e2, ← List.drop_drop, List.take_append_drop]
theorem zel {fs : Array Field} {total : Nat} {α : Type} {cells : α → List Value} {p : α → Prop} (hT : P.underlying T = some (.struct fs)) (hc : P.cellsOf T = total) (h : OpensFs P W fs.toList 0 total cells p) : Opens P W T cells p := fun {H enc fuel cs x} hf hsz => by
 obtain ⟨xs, n, _, hx, hlen, hxl, hfld⟩ := DataW.trod_struct hT hf
 rw [hc] at hlen
 obtain ⟨y, e, q⟩ := h (n := n) (cs := cs) (xs := xs) hlen (by simpa using hxl) (fun i f hi => hfld i f (by rw [← Array.getElem?_toList]; exact hi)) (fun i f z hi hz m hm => hsz m (by
  rw [hx]
  show m ∈ DataW.weights P T (.agg (xs.map (·.1)))
  unfold DataW.weights
  rw [hT]
  refine DataW.weights_mem_each (j := i) (t := f.type) (d := z.1) ?_ ?_ m hm
  ·rw [List.getElem?_map, hi]; rfl
  ·rw [List.getElem?_map, hz]; rfl))
 exact ⟨y, by simpa using e, q⟩
theorem zfa {α : Type} {cells : α → List Value} {p : α → Prop} (h : Opens P W T cells p) {H : Type} {enc : TypeId × Value → H} {v : Value} {d : DataW H} {ps : List MemPlace} (ht : DataW.Trod enc P W 0 (fun _ => true) true T v d ps) (hsz : ∀ n ∈ d.weights P T, n ≤ reachBytes) :
  ∃ y, v.cells.toList = cells y ∧ p y := by
 obtain ⟨fuel, hf⟩ := ht
 exact h hf hsz
end
end Go.Vc
namespace Go.Vc
set_option linter.unusedVariables false
open Go Go.Pw
set_option linter.unusedVariables false
theorem zcS {α : Type} (f : α → List Value) (n : Nat) (hf : ∀ x, (f x).length = n) : ∀ (l : List α) (i : Nat), (l.flatMap f).drop (i * n) = (l.drop i).flatMap f
 | l, 0 => by simp
 | [], i + 1 => by simp
 | x :: r, i + 1 => by
  rw [List.flatMap_cons, Nat.succ_mul, Nat.add_comm, ← List.drop_drop, List.drop_left' (hf x), zcS f n hf r i]; rfl
theorem zdW {α : Type} (f : α → List Value) (n : Nat) (hf : ∀ x, (f x).length = n) : ∀ (l : List α) (i : Nat), (l.flatMap f).take (i * n) = (l.take i).flatMap f
 | l, 0 => by simp
 | [], i + 1 => by simp
 | x :: r, i + 1 => by
  rw [List.flatMap_cons, List.take_append, List.take_of_length_le (by rw [hf, Nat.succ_mul]; omega), hf, show (i + 1) * n - n = i * n by rw [Nat.succ_mul]; omega, zdW f n hf r i]; rfl
theorem zbr {α : Type} (f : α → List Value) (n : Nat) (hf : ∀ x, (f x).length = n) : ∀ (l : List α), (l.flatMap f).length = l.length * n
 | [] => by simp
 | x :: r => by rw [List.flatMap_cons, List.length_append, hf, zbr f n hf r, List.length_cons, Nat.succ_mul]; omega
theorem own_blockK {w : World} {B e s n : Nat} {v : Value} {xs : List Value} (h : w.ownsRow B e s v n xs) : (v = .slice none 0 0 ∧ n = 0) ∨ ∃ g cap cells, v = .slice (some ⟨g, 0, none⟩) n cap ∧ B ≤ g ∧ VarK w g e cells ∧ n ≤ cap ∧ cap ≤ maxLen ∧ cells.length = cap * s ∧ cells.take (n * s) = xs := by
 rcases h.2 with h | ⟨g, cap, cur, h1, h2, h3, h4, h5, h6, h7⟩
 ·exact .inl h
 ·exact .inr ⟨g, cap, cur.toList, h1, h2, by unfold VarK; simpa using h3, h4, h5, by simpa using h6, h7⟩
theorem ziP {w : World} {B e s n g cap : Nat} {cells xs : List Value} (hB : B ≤ g) (h : VarK w g e cells) (hn : n ≤ cap) (hc : cap ≤ maxLen) (hl : cells.length = cap * s) (hx : cells.take (n * s) = xs) (hxl : xs.length = n * s) : w.ownsRow B e s (.slice (some ⟨g, 0, none⟩) n cap) n xs :=
 ⟨hxl, .inr ⟨g, cap, cells.toArray, rfl, hB, h, hn, hc, by simpa using hl, by simpa using hx⟩⟩
theorem zhE {w : World} {B e s n g cap : Nat} {xs : List Value} (h : w.ownsRow B e s (.slice (some ⟨g, 0, none⟩) n cap) n xs) : At w g 0 xs := fun j u hu => by
 have := h.cells (g := g) rfl j u hu
 rw [add_none] at this; exact this
theorem VarK.cells (w : World) {g : Nat} {T : TypeId} {cells : List Value} (h : VarK w g T cells) (o : Nat) {news : List Value} (hn : ∀ j u, news[j]? = some u → cells[o + j]? = some u) : ∀ j u, news[j]? = some u → w.cell? ((⟨g, o, none⟩ : Addr).add j) = some u := fun j u hj => by
 rw [add_none]
 have := h.at (o + j) u (hn j u hj)
 simpa using this
theorem zaS {α : Type} {w : World} {B e s : Nat} {v : Value} {cells : α → List Value} {l : List α} (h : w.ownsRow B e s v l.length (l.flatMap cells)) : RowO w v cells l := by
 rcases own_blockK h with ⟨rfl, h0⟩ | ⟨g, cap, cs, rfl, hB, hv, _⟩
 ·exact ⟨none, 0, by rw [h0], fun hp => by omega⟩
 ·exact ⟨some ⟨g, 0, none⟩, cap, rfl, fun _ => ⟨g, 0, rfl, hv.lt, zhE h⟩⟩
end Go.Vc
namespace Go.Vc
set_option linter.unusedVariables false
theorem VarK.shape {w : World} {g : Nat} {T : TypeId} {cells : List Value} (h : VarK w g T cells) : w.shape? g = some (T, cells.length) := by
 unfold World.shape?
 unfold VarK at h
 rw [h]; simp
end Go.Vc
namespace Go.Vc
set_option linter.unusedVariables false
open Go Go.Pw
set_option linter.unusedVariables false
theorem VarK.setMid {b : Nat} {T : TypeId} : ∀ (vs pre mid post : List Value) (w : World), VarK w b T (pre ++ mid ++ post) → vs.length = mid.length → VarK (setCells b vs pre.length w) b T (pre ++ vs ++ post)
 | [], pre, mid, post, w, h, hl => by
  obtain rfl : mid = [] := List.eq_nil_of_length_eq_zero hl.symm
  exact h
 | v :: r, pre, [], post, w, h, hl => by simp at hl
 | v :: r, pre, m :: mid, post, w, h, hl => by
  have h1 := h.set pre.length v
  rw [show (pre ++ (m :: mid) ++ post).set pre.length v = (pre ++ [v]) ++ mid ++ post by
   rw [List.append_assoc, List.set_append_right _ _ (Nat.le_refl _), Nat.sub_self]
   simp] at h1
  have h2 := VarK.setMid r (pre ++ [v]) mid post _ h1 (by simpa using hl)
  rw [show (pre ++ [v]).length = pre.length + 1 by simp] at h2
  have e : pre ++ v :: r ++ post = pre ++ [v] ++ r ++ post := by simp
  rw [e]
  exact h2
theorem zmu {α : Type} (f : α → List Value) (s : Nat) (hf : ∀ x, (f x).length = s) (l : List α) (k : Nat) (hk : k < l.length) (x : α) : (l.set k x).flatMap f = (l.flatMap f).take (k * s) ++ f x ++ (l.flatMap f).drop (k * s + s) := by
 rw [zdW f s hf, show k * s + s = (k + 1) * s by rw [Nat.succ_mul], zcS f s hf, List.set_eq_take_append_cons_drop, if_pos hk, List.flatMap_append, List.flatMap_cons, List.append_assoc]
theorem Store.elemK {P : Program} {t e : TypeId} {w : World} {B s g cap k : Nat} {cells : List Value} {α : Type} {f : α → List Value} {l : List α} (x : α) {K : World → Prop} (hf : ∀ x, (f x).length = s) (hs : sizeOfT P t = some s) (hfl : ∀ v ∈ f x, Flat v)
  (hv : VarK w g e cells) (hB : B ≤ g) (hn : l.length ≤ cap) (hc : cap ≤ maxLen) (hl : cells.length = cap * s) (ht : cells.take (l.length * s) = l.flatMap f) (hk : k < l.length)
  (q : ∀ w', w'.ownsRow B e s (.slice (some ⟨g, 0, none⟩) l.length cap) l.length ((l.set k x).flatMap f) → VarK w' g e (cells.take (k * s) ++ f x ++ cells.drop (k * s + s)) → Kp w w' (one_ g) → K w') :
  Store P t ⟨g, 0 + k * s, none⟩ (.agg (f x).toArray) w K := by
 have hks : k * s + s ≤ l.length * s := by rw [← Nat.succ_mul]; exact Nat.mul_le_mul_right s hk
 have hls : l.length * s ≤ cells.length := by rw [hl]; exact Nat.mul_le_mul_right s hn
 have hA : (cells.take (k * s)).length = k * s := by rw [List.length_take]; omega
 have hM : ((cells.drop (k * s)).take s).length = s := by rw [List.length_take, List.length_drop]; omega
 have hsp : cells = cells.take (k * s) ++ (cells.drop (k * s)).take s ++ cells.drop (k * s + s) := by
  conv => lhs; rw [← List.take_append_drop (k * s) cells, ← List.take_append_drop s (cells.drop (k * s)), List.drop_drop]
  rw [List.append_assoc]
 have v2 : VarK (setCells g (f x) (0 + k * s) w) g e (cells.take (k * s) ++ f x ++ cells.drop (k * s + s)) := by
  have h := VarK.setMid (f x) (cells.take (k * s)) ((cells.drop (k * s)).take s) (cells.drop (k * s + s)) w (by rw [← hsp]; exact hv) (by rw [hf, hM])
  rw [hA] at h
  rw [show 0 + k * s = k * s from Nat.zero_add _]
  exact h
 refine Store.agg (f x) (by rw [hs, hf]) hfl (fun j hj => ⟨cells[k * s + j]'(by rw [hf] at hj; omega), ?_⟩) (fun j => hv.frozen j) (q _ ?_ v2 (zbQ (f x) (0 + k * s) w))
 ·have := hv.at (k * s + j) _ (List.getElem?_eq_getElem (by rw [hf] at hj; omega))
  rw [Nat.zero_add] at this ⊢
  exact this
 ·have hsl : (l.set k x).length = l.length := List.length_set
  refine ziP hB v2 hn hc ?_ ?_ ?_
  ·rw [List.length_append, List.length_append, hA, hf, List.length_drop]; omega
  ·have hAX : (cells.take (k * s) ++ f x).length = k * s + s := by rw [List.length_append, hA, hf]
   rw [zmu f s hf l k hk x, ← ht, List.take_take, Nat.min_eq_left (by omega), List.drop_take]
   generalize hX : cells.take (k * s) ++ f x = X at *
   rw [List.take_append, List.take_of_length_le (by omega), hAX]
  ·rw [zbr f s hf, hsl]
end Go.Vc
namespace Go.Cs
set_option linter.unusedVariables false
open Go.Lib
set_option linter.unusedVariables false
def lowerB (b : UInt8) : UInt8 := if 65 ≤ b.toNat ∧ b.toNat ≤ 90 then (b.toNat + 32).toUInt8 else b
def nmUsAscii : List UInt8 := [117, 115, 45, 97, 115, 99, 105, 105]
def nmAscii : List UInt8 := [97, 115, 99, 105, 105]
def nmUtf_8 : List UInt8 := [117, 116, 102, 45, 56]
def nmUtf8 : List UInt8 := [117, 116, 102, 56]
def nmIso : List UInt8 := [105, 115, 111, 45, 56, 56, 53, 57, 45, 49]
def nmLatin1 : List UInt8 := [108, 97, 116, 105, 110, 49]
def nmWin : List UInt8 := [119, 105, 110, 100, 111, 119, 115, 45, 49, 50, 53, 50]
def nmCp : List UInt8 := [99, 112, 49, 50, 53, 50]
def kindL (m : List UInt8) : Nat :=
 if m = nmUsAscii then 1 else if m = nmAscii then 1 else if m = nmUtf_8 then 2 else if m = nmUtf8 then 2 else if m = nmIso then 3 else if m = nmLatin1 then 3 else if m = nmWin then 4 else if m = nmCp then 4 else 0
def kind (l : List UInt8) : Nat := kindL (l.map lowerB)
theorem b2 (x : Nat) (y : Int) (h : (x : Int) = y) : UInt8.ofNat x = y.toNat.toUInt8 := by subst h; rfl
theorem znd (s : ByteArray) (n : Nat) (h : n < s.size) : ∃ x : UInt8, s.data.toList.getD n 0 = x ∧ (L s)[n]? = some x ∧ (L s).take (n + 1) = (L s).take n ++ [x] ∧ (L s).drop n = x :: (L s).drop (n + 1) := by
 have hl := L_len s
 have hn : n < (L s).length := by omega
 refine ⟨(L s)[n], ?_, List.getElem?_eq_getElem hn, ?_, ?_⟩
 ·show (L s).getD n 0 = _; rw [List.getD, List.getElem?_eq_getElem hn]; rfl
 ·rw [List.take_add_one, List.getElem?_eq_getElem hn]; rfl
 ·rw [List.drop_eq_getElem_cons hn]
def kindN (r : Nat) : Nat :=
 if 1114111 < r then 0
 else if r < 192 then (if 48 ≤ r ∧ r ≤ 57 then 1 else if 65 ≤ r ∧ r ≤ 90 then 1 else if 97 ≤ r ∧ r ≤ 122 then 1 else 0)
 else if r = 215 then 0 else if r = 247 then 0 else if 8192 ≤ r ∧ r ≤ 11263 then 0 else if 11904 ≤ r ∧ r ≤ 12255 then 2 else if 12288 ≤ r ∧ r ≤ 12351 then 0
 else if 12353 ≤ r ∧ r ≤ 12543 then 2 else if 12549 ≤ r ∧ r ≤ 12591 then 2 else if 12593 ≤ r ∧ r ≤ 12686 then 2 else if 13312 ≤ r ∧ r ≤ 19903 then 2 else if 19968 ≤ r ∧ r ≤ 40959 then 2
 else if 44032 ≤ r ∧ r ≤ 55203 then 2 else if 55296 ≤ r ∧ r ≤ 63743 then 0 else if 63744 ≤ r ∧ r ≤ 64255 then 2 else if 65024 ≤ r ∧ r ≤ 65039 then 0 else if 65072 ≤ r ∧ r ≤ 65135 then 0
 else if 65280 ≤ r ∧ r ≤ 65295 then 0 else if 65520 ≤ r ∧ r ≤ 65535 then 0 else if 126976 ≤ r ∧ r ≤ 129791 then 0 else if 131072 ≤ r ∧ r ≤ 262143 then 2 else 1
def kindI (r : Int) : Nat := if r < 0 then 0 else kindN r.toNat
def lowC (r : Nat) : Nat :=
 if 65 ≤ r ∧ r ≤ 90 then r + 32 else if 192 ≤ r ∧ r ≤ 214 then r + 32 else if 216 ≤ r ∧ r ≤ 222 then r + 32
 else if 256 ≤ r ∧ r ≤ 303 then (if r % 2 = 0 then r + 1 else r) else if 306 ≤ r ∧ r ≤ 311 then (if r % 2 = 0 then r + 1 else r)
 else if 313 ≤ r ∧ r ≤ 328 then (if r % 2 = 1 then r + 1 else r) else if 330 ≤ r ∧ r ≤ 375 then (if r % 2 = 0 then r + 1 else r)
 else if r = 376 then 255 else if 377 ≤ r ∧ r ≤ 382 then (if r % 2 = 1 then r + 1 else r)
 else if r = 902 then 940 else if 904 ≤ r ∧ r ≤ 906 then r + 37 else if r = 908 then 972 else if 910 ≤ r ∧ r ≤ 911 then r + 63
 else if 913 ≤ r ∧ r ≤ 929 then r + 32 else if 931 ≤ r ∧ r ≤ 939 then r + 32 else if 1024 ≤ r ∧ r ≤ 1039 then r + 80 else if 1040 ≤ r ∧ r ≤ 1071 then r + 32 else r
theorem zcu (r : Nat) (h : 1072 ≤ r) : lowC r = r := by
 unfold lowC
 rw [if_neg (by omega), if_neg (by omega), if_neg (by omega), if_neg (by omega), if_neg (by omega), if_neg (by omega), if_neg (by omega), if_neg (by omega), if_neg (by omega), if_neg (by omega), if_neg (by omega), if_neg (by omega), if_neg (by omega), if_neg (by omega), if_neg (by omega), if_neg (by omega), if_neg (by omega)]
set_option maxRecDepth 100000 in
theorem zch : ∀ r : Fin 1104, kindN (lowC r.val) = kindN r.val ∧ lowC (lowC r.val) = lowC r.val ∧ (enc (lowC r.val)).length = (enc r.val).length ∧ lowC r.val ≤ 1119 := by decide +kernel
theorem zon (r : Nat) : kindN (lowC r) = kindN r := by
 by_cases h : r < 1104
 ·exact (zch ⟨r, h⟩).1
 ·rw [zcu r (by omega)]
theorem zpy (r : Nat) : lowC (lowC r) = lowC r := by
 by_cases h : r < 1104
 ·exact (zch ⟨r, h⟩).2.1
 ·rw [zcu r (by omega), zcu r (by omega)]
theorem ziK (r : Nat) : (enc (lowC r)).length = (enc r).length := by
 by_cases h : r < 1104
 ·exact (zch ⟨r, h⟩).2.2.1
 ·rw [zcu r (by omega)]
theorem zjb (r : Nat) (h : scal r) : scal (lowC r) := by
 by_cases h' : r < 1104
 ·have := (zch ⟨r, h'⟩).2.2.2
  exact .inl (by simp only at this; omega)
 ·rw [zcu r (by omega)]; exact h
theorem zoH (r : Nat) (h : r ≤ 1114111) : lowC r ≤ 1114111 := by
 by_cases h' : r < 1104
 ·have := (zch ⟨r, h'⟩).2.2.2
  simp only at this; omega
 ·rw [zcu r (by omega)]; exact h
theorem zlV : lowC 65533 = 65533 := zcu _ (by omega)
theorem zkw (r : Nat) (h : r ≠ 65533) : lowC r ≠ 65533 := by
 by_cases h' : r < 1104
 ·have := (zch ⟨r, h'⟩).2.2.2
  simp only at this; omega
 ·rw [zcu r (by omega)]; exact h
theorem zpv {c : Prop} [Decidable c] {a b : Nat} (h1 : a ≤ 2) (h2 : b ≤ 2) : (if c then a else b) ≤ 2 := by split <;> assumption
theorem zki (r : Nat) : kindN r ≤ 2 := by
 unfold kindN
 repeat (first | decide | refine zpv ?_ ?_)
def clsN (p : Nat × Nat) : Nat := if p.1 = 65533 then 0 else kindN p.1
theorem zkr : kindN 65533 = 0 := by decide
theorem zfk (p : Nat × Nat) : clsN p = kindN p.1 := by
 unfold clsN
 split
 ·rename_i h; rw [h, zkr]
 ·rfl
def usF : Nat → List UInt8 → List (Nat × Nat)
 | 0, _ => []
 | _ + 1, [] => []
 | n + 1, b :: t => (clsN (decodeL (b :: t)), (decodeL (b :: t)).2) :: usF n ((b :: t).drop (decodeL (b :: t)).2)
def us (l : List UInt8) : List (Nat × Nat) := usF l.length l
theorem zjW : ∀ (n m : Nat) (l : List UInt8), l.length ≤ n → l.length ≤ m → usF n l = usF m l
 | 0, m, l, hn, _ => by
  have : l = [] := List.eq_nil_of_length_eq_zero (by omega)
  subst this
  cases m <;> rfl
 | n + 1, 0, l, _, hm => by
  have : l = [] := List.eq_nil_of_length_eq_zero (by omega)
  subst this; rfl
 | n + 1, m + 1, [], _, _ => rfl
 | n + 1, m + 1, b :: t, hn, hm => by
  have hw := decodeL_width (b :: t)
  simp only [usF]
  rw [zjW n m _ (by rw [List.length_drop]; omega) (by rw [List.length_drop]; omega)]
theorem zdk : us [] = [] := rfl
theorem zbT (l : List UInt8) (hne : l ≠ []) : us l = (clsN (decodeL l), (decodeL l).2) :: us (l.drop (decodeL l).2) := by
 obtain ⟨b, t, rfl⟩ := List.exists_cons_of_ne_nil hne
 have hw := decodeL_width (b :: t)
 show (clsN (decodeL (b :: t)), (decodeL (b :: t)).2) :: usF t.length _ = _
 rw [zjW t.length ((b :: t).drop (decodeL (b :: t)).2).length _ (by rw [List.length_drop, List.length_cons]; omega) (Nat.le_refl _)]
 rfl
def foldF : Nat → List UInt8 → List UInt8
 | 0, _ => []
 | _ + 1, [] => []
 | n + 1, b :: t => (if (decodeL (b :: t)).1 = 65533 ∧ (decodeL (b :: t)).2 = 1 then [b] else enc (lowC (decodeL (b :: t)).1)) ++ foldF n ((b :: t).drop (decodeL (b :: t)).2)
def foldL (l : List UInt8) : List UInt8 := foldF l.length l
theorem zfI : ∀ (n m : Nat) (l : List UInt8), l.length ≤ n → l.length ≤ m → foldF n l = foldF m l
 | 0, m, l, hn, _ => by
  have : l = [] := List.eq_nil_of_length_eq_zero (by omega)
  subst this
  cases m <;> rfl
 | n + 1, 0, l, _, hm => by
  have : l = [] := List.eq_nil_of_length_eq_zero (by omega)
  subst this; rfl
 | n + 1, m + 1, [], _, _ => rfl
 | n + 1, m + 1, b :: t, hn, hm => by
  have hw := decodeL_width (b :: t)
  simp only [foldF]
  rw [zfI n m _ (by rw [List.length_drop]; omega) (by rw [List.length_drop]; omega)]
def head1 (l : List UInt8) : List UInt8 := if (decodeL l).1 = 65533 ∧ (decodeL l).2 = 1 then [l.getD 0 0] else enc (lowC (decodeL l).1)
theorem zlE : foldL [] = [] := rfl
theorem zbj (l : List UInt8) (hne : l ≠ []) : foldL l = head1 l ++ foldL (l.drop (decodeL l).2) := by
 obtain ⟨b, t, rfl⟩ := List.exists_cons_of_ne_nil hne
 have hw := decodeL_width (b :: t)
 show (if (decodeL (b :: t)).1 = 65533 ∧ (decodeL (b :: t)).2 = 1 then [b] else enc (lowC (decodeL (b :: t)).1)) ++ foldF t.length _ = _
 rw [zfI t.length ((b :: t).drop (decodeL (b :: t)).2).length _ (by rw [List.length_drop, List.length_cons]; omega) (Nat.le_refl _)]
 rfl
def close (f : Option Nat) (at_ : Nat) : List (Nat × Nat) := match f with | none => [] | some a => [(a, at_)]
def wd : List (Nat × Nat) → Nat → Option Nat → List (Nat × Nat)
 | [], p, f => close f p
 | (k, n) :: r, p, f =>
  if k = 0 then close f p ++ wd r (p + n) none
  else if k = 2 then close f p ++ (p, p + n) :: wd r (p + n) none
  else match f with
   | some a => if 40 < p + n - a then (a, p) :: wd r (p + n) (some p) else wd r (p + n) (some a)
   | none => wd r (p + n) (some p)
def cutL (l : List UInt8) (p : Nat × Nat) : List UInt8 := (l.take p.2).drop p.1
def wordsL (l : List UInt8) : List (List UInt8 × Nat × Nat) := (wd (us l) 0 none).map fun p => (foldL (cutL l p), p.1, p.2)
def cont (b : UInt8) : Prop := b.toNat / 64 = 2
theorem zfd (c : Nat) (h : scal c) : ∃ b t, enc c = b :: t ∧ ¬ cont b ∧ ∀ x ∈ t, cont x := by
 unfold scal at h
 unfold enc encodeRune cont
 by_cases h1 : c < 128
 ·rw [encodeRuneZ_one (by omega) (by omega)]
  exact ⟨_, _, rfl, by rw [u8n _ (by omega)]; omega, by simp⟩
 by_cases h2 : c ≤ 2047
 ·rw [encodeRuneZ_two (by omega) (by omega)]
  refine ⟨_, _, rfl, by rw [u8n _ (by omega)]; omega, fun x hx => ?_⟩
  simp only [List.map_cons, List.map_nil, List.mem_cons, List.not_mem_nil, or_false] at hx
  subst hx; rw [u8n _ (by omega)]; omega
 by_cases h3 : c ≤ 65535
 ·rw [encodeRuneZ_three (by omega)]
  refine ⟨_, _, rfl, by rw [u8n _ (by omega)]; omega, fun x hx => ?_⟩
  simp only [List.map_cons, List.map_nil, List.mem_cons, List.not_mem_nil, or_false] at hx
  rcases hx with rfl | rfl <;> (rw [u8n _ (by omega)]; omega)
 ·rw [encodeRuneZ_four (by omega) (by omega)]
  refine ⟨_, _, rfl, by rw [u8n _ (by omega)]; omega, fun x hx => ?_⟩
  simp only [List.map_cons, List.map_nil, List.mem_cons, List.not_mem_nil, or_false] at hx
  rcases hx with rfl | rfl | rfl <;> (rw [u8n _ (by omega)]; omega)
theorem zdv (l : List UInt8) (c : Nat) (h : scal c) (e : l.take (enc c).length = enc c) : decodeL l = (c, (enc c).length) := by
 have h2 := List.take_append_drop (enc c).length l
 rw [e] at h2
 have := zeU c h (l.drop (enc c).length)
 rw [h2] at this
 exact this
theorem bad_or (l : List UInt8) (hne : l ≠ []) : decodeL l = (65533, 1) ∨ ∃ c, scal c ∧ decodeL l = (c, (enc c).length) ∧ l.take (enc c).length = enc c := by
 rcases dec_whole l hne with h | ⟨h1, h2, h3, _⟩
 ·exact .inl h
 ·exact .inr ⟨_, h1, Prod.ext rfl h3, by rw [← h3]; exact h2⟩
theorem zjw (c : Nat) : (65533, 1) ≠ (c, (enc c).length) := by
 intro h
 injection h with h1 h2
 rw [← h1] at h2
 have := zfb
 omega
theorem zgw (l : List UInt8) (n : Nat) (hne : l ≠ []) (hn : (decodeL l).2 ≤ n) : decodeL (l.take n) = decodeL l := by
 have hw := decodeL_width l
 have hl : 0 < l.length := List.length_pos_iff.2 hne
 have hne' : l.take n ≠ [] := by
  intro h
  have := congrArg List.length h
  rw [List.length_take, List.length_nil] at this
  omega
 rcases bad_or l hne with h | ⟨c, hs, hd, ht⟩
 ·rcases bad_or (l.take n) hne' with h' | ⟨c, hs, hd, ht⟩
  ·rw [h, h']
  ·exfalso
   have hle := decodeL_le _ hne'
   rw [hd, List.length_take] at hle
   simp only at hle
   rw [List.take_take, Nat.min_eq_left (by omega)] at ht
   have := zdv l c hs ht
   rw [h] at this
   exact zjw c this
 ·rw [hd] at hn ⊢
  simp only at hn
  exact zdv _ c hs (by rw [List.take_take, Nat.min_eq_left hn]; exact ht)
theorem zma (x y : List UInt8) (hne : x ≠ []) (hy : ∀ b, y[0]? = some b → ¬ cont b) : decodeL (x ++ y) = decodeL x := by
 have hl : 0 < x.length := List.length_pos_iff.2 hne
 rcases bad_or x hne with h | ⟨c, hs, hd, ht⟩
 ·rcases bad_or (x ++ y) (by simp [hne]) with h' | ⟨c, hs, hd, ht⟩
  ·rw [h, h']
  ·exfalso
   by_cases hk : (enc c).length ≤ x.length
   ·rw [List.take_append_of_le_length hk] at ht
    have := zdv x c hs ht
    rw [h] at this
    exact zjw c this
   ·obtain ⟨b, t, e1, e2, e3⟩ := zfd c hs
    have hle := decodeL_le (x ++ y) (by simp [hne])
    rw [hd, List.length_append] at hle
    simp only at hle
    obtain ⟨z, r, rfl⟩ := List.exists_cons_of_ne_nil (l := y) (by rintro rfl; simp at hle; omega)
    have hx : (enc c)[x.length]? = some z := by
     rw [← ht, List.getElem?_take, if_pos (by omega), List.getElem?_append_right (Nat.le_refl _), Nat.sub_self]; rfl
    rw [e1] at hx
    obtain ⟨m, hm⟩ : ∃ m, x.length = m + 1 := ⟨x.length - 1, by omega⟩
    rw [hm, List.getElem?_cons_succ] at hx
    exact hy z rfl (e3 z (List.mem_of_getElem? hx))
 ·rw [hd]
  have hle := decodeL_le x hne
  rw [hd] at hle
  simp only at hle
  exact zdv _ c hs (by rw [List.take_append_of_le_length hle]; exact ht)
def Alike (t t' : List UInt8) : Prop := ∃ p q q', t = p ++ q ∧ t' = p ++ q' ∧ (∀ b ∈ p, cont b) ∧ (∀ b, q[0]? = some b → ¬ cont b) ∧ ∀ b, q'[0]? = some b → ¬ cont b
theorem zlR (b : UInt8) {t t' : List UInt8} (h : Alike t t') (hb : decodeL (b :: t) = (65533, 1)) : decodeL (b :: t') = (65533, 1) := by
 obtain ⟨p, q, q', rfl, rfl, hp, hq, hq'⟩ := h
 rcases bad_or (b :: (p ++ q')) (by simp) with h' | ⟨c, hs, hd, ht⟩
 ·exact h'
 ·exfalso
  have e1 : decodeL (b :: (p ++ q)) = decodeL (b :: p) := zma (b :: p) q (by simp) hq
  have e2 : decodeL (b :: (p ++ q')) = decodeL (b :: p) := zma (b :: p) q' (by simp) hq'
  rw [e1] at hb
  rw [e2, hb] at hd
  exact zjw c hd
theorem head1_shape (l : List UInt8) (hne : l ≠ []) : (decodeL l = (65533, 1) ∧ ∃ b t, l = b :: t ∧ head1 l = [b]) ∨ ∃ c, scal c ∧ decodeL l = (c, (enc c).length) ∧ head1 l = enc (lowC c) ∧ ∃ b t, l = b :: t ∧ ¬ cont b := by
 obtain ⟨b, t, rfl⟩ := List.exists_cons_of_ne_nil hne
 rcases bad_or (b :: t) hne with h | ⟨c, hs, hd, ht⟩
 ·exact .inl ⟨h, b, t, rfl, by unfold head1; rw [h]; rfl⟩
 ·refine .inr ⟨c, hs, hd, ?_, b, t, rfl, ?_⟩
  ·unfold head1
   rw [hd, if_neg]
   rintro ⟨h1, h2⟩
   simp only at h1 h2
   subst h1
   rw [zfb] at h2; omega
  ·obtain ⟨x, y, e1, e2, _⟩ := zfd c hs
   rw [e1] at ht
   simp only [List.length_cons, List.take_succ_cons, List.cons.injEq] at ht
   rw [ht.1]; exact e2
theorem zdq (l : List UInt8) (hne : l ≠ []) : (head1 l).length = (decodeL l).2 := by
 rcases head1_shape l hne with ⟨h, b, t, _, e⟩ | ⟨c, hs, hd, e, _⟩
 ·rw [h, e]; rfl
 ·rw [hd, e, ziK]
theorem zli (t : List UInt8) : Alike t (foldL t) := by
 induction t using zcy with
 | nil => exact ⟨[], [], [], rfl, rfl, by simp, by simp, by simp⟩
 | step l hne ih =>
  rw [zbj l hne]
  rcases head1_shape l hne with ⟨h, b, t, rfl, e⟩ | ⟨c, hs, hd, e, b, t, rfl, hb⟩
  ·rw [h] at ih ⊢
   simp only [List.drop_succ_cons, List.drop_zero] at ih ⊢
   rw [e]
   by_cases hc : cont b
   ·obtain ⟨p, q, q', e1, e2, hp, hq, hq'⟩ := ih
    exact ⟨b :: p, q, q', by rw [e1]; rfl, by rw [e2]; rfl, fun x hx => by rcases List.mem_cons.1 hx with rfl | hx; exact hc; exact hp x hx, hq, hq'⟩
   ·exact ⟨[], b :: t, b :: foldL t, rfl, rfl, by simp, fun x hx => by cases hx; exact hc, fun x hx => by cases hx; exact hc⟩
  ·rw [e]
   obtain ⟨x, y, e1, e2, _⟩ := zfd (lowC c) (zjb c hs)
   exact ⟨[], _, _, rfl, rfl, by simp, fun z hz => by cases hz; exact hb, fun z hz => by rw [e1] at hz; cases hz; exact e2⟩
theorem zgJ (l : List UInt8) (hne : l ≠ []) : decodeL (foldL l) = (lowC (decodeL l).1, (decodeL l).2) := by
 rw [zbj l hne]
 rcases head1_shape l hne with ⟨h, b, t, rfl, e⟩ | ⟨c, hs, hd, e, _⟩
 ·rw [e, h]
  simp only [List.drop_succ_cons, List.drop_zero, zlV]
  exact zlR b (zli t) h
 ·rw [e, hd, zeU _ (zjb c hs), ziK]
theorem zmD (l : List UInt8) (hne : l ≠ []) : foldL l ≠ [] := by
 rw [zbj l hne]
 have := zdq l hne
 have hw := decodeL_width l
 intro h
 have h := congrArg List.length h
 rw [List.length_append, List.length_nil] at h
 omega
theorem zhC (l : List UInt8) (hne : l ≠ []) : (foldL l).drop (decodeL l).2 = foldL (l.drop (decodeL l).2) := by
 rw [zbj l hne, ← zdq l hne, List.drop_left']
 rfl
theorem znL (p : Nat × Nat) (k : Nat) : clsN (lowC p.1, k) = clsN p := by rw [zfk, zfk, zon]
theorem zpB (l : List UInt8) : us (foldL l) = us l := by
 induction l using zcy with
 | nil => rfl
 | step l hne ih =>
  rw [zbT _ (zmD l hne), zgJ l hne, zbT l hne]
  simp only
  rw [zhC l hne, ih, znL]
theorem zmJ (l : List UInt8) : foldL (foldL l) = foldL l := by
 induction l using zcy with
 | nil => rfl
 | step l hne ih =>
  rw [zbj _ (zmD l hne), zgJ l hne]
  simp only
  rw [zhC l hne, ih]
  conv => rhs; rw [zbj l hne]
  congr 1
  unfold head1
  rw [zgJ l hne]
  simp only
  have hd0 : (foldL l).getD 0 0 = (head1 l).getD 0 0 := by
   have h1 := zdq l hne
   have hw := decodeL_width l
   rw [zbj l hne]
   obtain ⟨x, y, e⟩ := List.exists_cons_of_ne_nil (l := head1 l) (by intro h; rw [h] at h1; simp at h1; omega)
   rw [e]; rfl
  by_cases hb : (decodeL l).1 = 65533 ∧ (decodeL l).2 = 1
  ·rw [if_pos hb, if_pos ⟨by rw [hb.1]; exact zlV, hb.2⟩, hd0]
   unfold head1
   rw [if_pos hb]; rfl
  ·have : ¬ (lowC (decodeL l).1 = 65533 ∧ (decodeL l).2 = 1) := fun h => hb ⟨by
    by_cases hx : (decodeL l).1 = 65533
    ·exact hx
    ·exact absurd h.1 (zkw _ hx), h.2⟩
   rw [if_neg hb, if_neg this, zpy]
inductive Bd : List UInt8 → Nat → Prop
 | zero (l : List UInt8) : Bd l 0
 | step (l : List UInt8) (n : Nat) : l ≠ [] → Bd (l.drop (decodeL l).2) n → Bd l ((decodeL l).2 + n)
theorem Bd.le {l : List UInt8} {n : Nat} (h : Bd l n) : n ≤ l.length := by
 induction h with
 | zero l => omega
 | step l n hne _ ih =>
  have := decodeL_le l hne
  rw [List.length_drop] at ih; omega
structure Bx where
 id : Int
 up : Int
 name : List UInt8
 role : List UInt8
deriving DecidableEq
def rolesL : List (List UInt8) := [[], [105, 110, 98, 111, 120], [100, 114, 97, 102, 116, 115], [115, 101, 110, 116], [116, 114, 97, 115, 104], [106, 117, 110, 107], [97, 114, 99, 104, 105, 118, 101]]
def fineB (b : UInt8) : Bool := !(decide (b.toNat < 32) || decide (b.toNat = 127) || decide (b.toNat = 47))
def namedB (s : List UInt8) : Bool := decide (1 ≤ s.length) && decide (s.length ≤ 100) && validD s && s.all fineB
def upOf (l : List Bx) (id : Int) : Option Int := (l.find? fun b => decide (b.id = id)).map (·.up)
def dep (l : List Bx) : Nat → Int → Option Nat
 | 0, id => if id = 0 then some 0 else none
 | n + 1, id => if id = 0 then some 0 else match upOf l id with
  | none => none
  | some u => (dep l n u).map (· + 1)
structure RightP (l : List Bx) : Prop where
 len : l.length ≤ 64
 pos : ∀ b ∈ l, 1 ≤ b.id ∧ b.id ≤ 1099511627776
 asc : l.Pairwise fun a b => a.id < b.id
 named : ∀ b ∈ l, namedB b.name = true
 roles : ∀ b ∈ l, b.role ∈ rolesL
 uniq : l.Pairwise fun a b => ¬ (a.up = b.up ∧ foldL a.name = foldL b.name)
 urole : l.Pairwise fun a b => ¬ (b.role ≠ [] ∧ a.role = b.role)
 deep : ∀ b ∈ l, ∃ d, dep l l.length b.id = some d ∧ d ≤ 8
theorem znF {l : List Bx} {id u : Int} (h : upOf l id = some u) : ∃ b ∈ l, b.id = id ∧ b.up = u := by
 unfold upOf at h
 cases hf : l.find? fun b => decide (b.id = id) with
 | none => rw [hf] at h; cases h
 | some b =>
  rw [hf] at h
  have h1 := List.find?_some hf
  exact ⟨b, List.mem_of_find?_eq_some hf, by simpa using h1, by simpa using h⟩
set_option linter.unusedSectionVars false
def boxOf (l : List Bx) (id : Int) : Option Bx := l.find? fun b => decide (b.id = id)
theorem znp (l : List Bx) (id : Int) : upOf l id = (boxOf l id).map (·.up) := rfl
theorem zkZ {l : List Bx} {id : Int} : boxOf l id = none ↔ ∀ b ∈ l, b.id ≠ id := by
 unfold boxOf
 rw [List.find?_eq_none]
 simp
section
variable {l : List Bx} (hr : RightP l)
include hr
theorem zpC : boxOf l 0 = none := zkZ.2 fun b hb => by have := (hr.pos b hb).1; omega
end
section
end
end Go.Cs
namespace Go.Cs
set_option linter.unusedVariables false
def cutT : List (Int × Int × Int) := [(215, 215, 0), (247, 247, 0), (8192, 11263, 0), (11904, 12255, 2), (12288, 12351, 0), (12353, 12543, 2), (12549, 12591, 2), (12593, 12686, 2), (13312, 19903, 2), (19968, 40959, 2), (44032, 55203, 2), (55296, 63743, 0), (63744, 64255, 2), (65024, 65039, 0), (65072, 65135, 0), (65280, 65295, 0), (65520, 65535, 0), (126976, 129791, 0), (131072, 262143, 2)]
def cutSp (i : Nat) : Int × Int × Int := cutT.getD i (0, 0, 0)
def foldT : List (Int × Int × Int × Int) := [(65, 90, 1, 32), (192, 214, 1, 32), (216, 222, 1, 32), (256, 303, 2, 1), (306, 311, 2, 1), (313, 328, 2, 1), (330, 375, 2, 1), (376, 376, 1, -121), (377, 382, 2, 1), (902, 902, 1, 38), (904, 906, 1, 37), (908, 908, 1, 64), (910, 911, 1, 63), (913, 929, 1, 32), (931, 939, 1, 32), (1024, 1039, 1, 80), (1040, 1071, 1, 32)]
def foldSp (i : Nat) : Int × Int × Int × Int := foldT.getD i (0, 0, 0, 0)
def cmp3 (a b : Int) : Int := if a < b then -1 else if b < a then 1 else 0
def cmpC (i : Nat) (r : Int) : Int := if (cutSp i).1 ≤ r ∧ r ≤ (cutSp i).2.1 then 0 else cmp3 (cutSp i).1 r
def cmpF (i : Nat) (r : Int) : Int := if (foldSp i).2.1 < r then -1 else if r < (foldSp i).1 then 1 else 0
theorem zeE : ∀ i : Fin 19, (cutSp i.val).1 ≤ (cutSp i.val).2.1 ∧ 0 ≤ (cutSp i.val).1 ∧ (cutSp i.val).2.1 ≤ 1114111 ∧ 0 ≤ (cutSp i.val).2.2 ∧ (cutSp i.val).2.2 ≤ 2 := by decide
theorem zlL : ∀ i j : Fin 19, i.val < j.val → (cutSp i.val).2.1 < (cutSp j.val).1 := by decide
theorem zgn : ∀ i : Fin 17, (foldSp i.val).1 ≤ (foldSp i.val).2.1 ∧ 0 ≤ (foldSp i.val).1 ∧ (foldSp i.val).2.1 ≤ 1114111 ∧ 1 ≤ (foldSp i.val).2.2.1 ∧ (foldSp i.val).2.2.1 ≤ 2 ∧ -200 ≤ (foldSp i.val).2.2.2 ∧ (foldSp i.val).2.2.2 ≤ 200 := by decide
theorem zjh : ∀ i j : Fin 17, i.val < j.val → (foldSp i.val).2.1 < (foldSp j.val).1 := by decide
theorem zke (i : Nat) (hi : i < 19) (r : Int) : cmpC i r < 0 ↔ (cutSp i).2.1 < r := by
 have := zeE ⟨i, hi⟩
 simp only at this
 unfold cmpC cmp3
 repeat' split
 all_goals omega
theorem zhM (i j : Nat) (h : i < j) (hj : j < 19) (r : Int) (hr : cmpC j r < 0) : cmpC i r < 0 := by
 rw [zke _ (by omega)] at *
 have h1 := zeE ⟨j, hj⟩
 have h2 := zlL ⟨i, by omega⟩ ⟨j, hj⟩ h
 simp only at h1 h2
 omega
theorem zju (i : Nat) (r : Int) : cmpF i r < 0 ↔ (foldSp i).2.1 < r := by
 unfold cmpF
 repeat' split
 all_goals omega
theorem zhA (i j : Nat) (h : i < j) (hj : j < 17) (r : Int) (hr : cmpF j r < 0) : cmpF i r < 0 := by
 rw [zju] at *
 have h1 := zgn ⟨j, hj⟩
 have h2 := zjh ⟨i, by omega⟩ ⟨j, hj⟩ h
 simp only at h1 h2
 omega
def Pos (cmp : Nat → Int) (n k : Nat) : Prop := k ≤ n ∧ (∀ m, m < k → cmp m < 0) ∧ ∀ m, k ≤ m → m < n → 0 ≤ cmp m
end Go.Cs
