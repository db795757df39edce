/- Helper text of this claim: Opn, FlatK, RowP, Cs2, Cs3, Ct0, Ct1, Bx0, Bx1, Bx2, Ct2, Ct3, Ct4, Ct5, Ct6, Ct8, Ct9, Ct10, Sn0, Bx3, Bx4, Bx5, Bx6, Bx7, Ax0, Kit10, Srt0: lemmas and contracts that the proved statement rests on; no conditions of its own. -/
import Derived.Test.YtcplagfblmemhaaGCs0
import Derived.Deep.Slices
import Derived.ProofKit
import Derived.Lay
import Derived.SevenTiedAt
import Derived.OpenShut
import Derived.SizedLaws
import Derived.ChangeOld
import Derived.Lib.Small
import Derived.Lib.SlicesCompact
import Derived.Test.YtcplagfblmemhaaKit6
import Derived.Sort.Grow
import Derived.Sort.EncStr
/-! What came in, opened: each type once. -/
namespace Go.Vc
set_option linter.unusedVariables false
open Go Go.Pw Go.RowKit Go.ChangeShapes Go.WideShapes Go.ChangeAt
set_option linter.unusedVariables false
theorem weightsAll_in {H : Type} {P : Program} {e : TypeId} : ∀ {l : List (DataW H)} {d : DataW H}, d ∈ l → ∀ n ∈ d.weights P e, n ∈ DataW.weightsAll P e l
  | [], d, h, n, hn => by cases h
  | a :: r, d, h, n, hn => by
    show n ∈ DataW.weights P e a ++ DataW.weightsAll P e r
    rw [List.mem_append]
    rcases List.mem_cons.1 h with rfl | h
    · exact .inl hn
    · exact .inr (weightsAll_in h n hn)
/-- A datum of the type T that came in: its cells are those of some y, of which p holds. -/
def Opens (P : Program) (W : World) (T : TypeId) {α : Type} (cells : α → List Value) (p : α → Prop) : Prop :=
  ∀ {H : Type} {enc : TypeId × Value → H} {fuel : Nat} {cs : List Value} {x : DataW H × List MemPlace}, DataW.trod enc P W 0 (fun _ => true) true fuel T cs = some x → (∀ n ∈ x.1.weights P T, n ≤ reachBytes) → ∃ y, cs = cells y ∧ p y
/-- A row that came in, at any place of its block. -/
def RowO {α : Type} (W : World) (v : Value) (cells : α → List Value) (l : List α) : Prop := ∃ a cap, v = .slice a l.length cap ∧ (0 < l.length → ∃ g o, a = some ⟨g, o, none⟩ ∧ g < W.heap.size ∧ At W g o (l.flatMap cells))
theorem RowO.keep {α : Type} {w w' : World} {v : Value} {cells : α → List Value} {l : List α} (h : RowO w v cells l) (k : Keeps w w' none_) : RowO w' v cells l := by
  obtain ⟨a, cap, rfl, h⟩ := h
  exact ⟨a, cap, rfl, fun h0 => let ⟨g, o, h1, h3, h4⟩ := h h0; ⟨g, o, h1, Nat.lt_of_lt_of_le h3 k.size, at_mono h4 k⟩⟩
section
variable {P : Program} {W : World} {T : TypeId}
theorem opens_int (hT : P.underlying T = some (.int .i64)) : Opens P W T (fun z : Int => [.int .i64 z]) (fun z => -9223372036854775808 ≤ z ∧ z ≤ 9223372036854775807) := fun {H enc fuel cs x} h _ => by
  obtain ⟨z, e, _, w⟩ := DataW.trod_int hT h
  exact ⟨z, e, by simpa [Lit.wf, IntKind.min, IntKind.max, IntKind.signed, IntKind.bits] using w⟩
/-- A slice of such data. -/
theorem opens_slice {E : TypeId} {α : Type} [Inhabited α] {cells : α → List Value} {p : α → Prop} {k bytes : Nat} (hT : P.underlying T = some (.slice E)) (hE : Opens P W E cells p) (hk : ∀ y, (cells y).length = k) (hk0 : 0 < k) (hc : P.cellsOf E = k) (hb : P.bytesOf E = bytes) (hb0 : 0 < bytes) :
    Opens P W T (fun y : Value × List α => [y.1]) (fun y => RowO W y.1 cells y.2 ∧ y.2.length * bytes ≤ 140737488351232 ∧ ∀ z ∈ y.2, p z) := fun {H enc fuel cs x} hf hsz => by
  rcases DataW.trod_slice hT hf with ⟨hcs, hx⟩ | ⟨x0, len, cap, elems, rest, n, _, hcs, hx, hb2, hl, hm, hel, hat, hsp, _⟩
  · exact ⟨(.slice none 0 0, []), hcs, ⟨none, 0, rfl, fun h => by simp at h⟩, by simp, by simp⟩
  · subst hx
    rw [hc] at hat
    have hmax : len * bytes ≤ 140737488351232 := by
      have hw := hsz ((List.map (fun x => x.fst) elems).length * P.bytesOf E + (List.map (fun x => x.fst) rest).length * P.bytesOf E) (by
        show _ ∈ DataW.weights P T (.slice _ _)
        unfold DataW.weights
        rw [hT, ← Nat.add_mul]
        exact List.mem_cons_self)
      rw [hb, List.length_map, List.length_map] at hw
      have : len ≤ elems.length := by omega
      have := Nat.mul_le_mul_right bytes this
      have := Nat.zero_le (rest.length * bytes)
      unfold reachBytes at hw; omega
    have each : ∀ i, i < len → ∃ y : α, p y ∧ ∃ lb lo, some x0 = some ⟨lb, lo, none⟩ ∧ lb < W.heap.size ∧ At W lb (lo + i * k) (cells y) := fun i hi => by
      have hy : elems[i]? = some (elems[i]'(by omega)) := List.getElem?_eq_getElem (by omega)
      have hbi := hat i hi
      rw [hy, Option.bind_eq_some_iff] at hbi
      obtain ⟨cs, hcs, ht⟩ := hbi
      obtain ⟨y, rfl, hok⟩ := hE ht (fun m hm => hsz m (by
        show m ∈ DataW.weights P T (.slice _ _)
        unfold DataW.weights
        rw [hT]
        exact List.mem_cons_of_mem _ (List.mem_append_left _ (weightsAll_in (List.mem_map.2 ⟨_, List.getElem_mem (by omega), rfl⟩) m hm))))
      obtain ⟨_, hcl, hcat⟩ := World.cells?_some hcs
      refine ⟨y, hok, ?_⟩
      obtain ⟨b, off, spot⟩ := x0
      have hyk := hk y
      have h0 := hcat 0 (by omega)
      obtain ⟨v0, hv0⟩ : ∃ v0, (cells y)[0]? = some v0 := ⟨_, List.getElem?_eq_getElem (by omega)⟩
      rw [hv0] at h0
      have hspot : spot = none := by
        have := World.cell?_spot h0
        by_cases hi0 : i = 0
        · subst hi0; simpa [Addr.add] using this
        · exact Classical.byContradiction fun hne => by
            have hh := hat 0 (by omega)
            have hy0 : elems[0]? = some (elems[0]'(by omega)) := List.getElem?_eq_getElem (by omega)
            rw [hy0, Option.bind_eq_some_iff] at hh
            obtain ⟨cs0, hcs0, ht0⟩ := hh
            obtain ⟨_, hcl0, hcat0⟩ := World.cells?_some hcs0
            have h00 := hcat0 0 (by omega)
            have hcs0l : 0 < cs0.length := by omega
            rw [List.getElem?_eq_getElem hcs0l] at h00
            have := World.cell?_spot h00
            exact hne (by simpa [Addr.add] using this)
      subst hspot
      have hlt := Pw.cell_lt h0
      rw [Go.Vc.add_none, Go.Vc.add_none] at hlt
      refine ⟨b, off, rfl, hlt, fun j v hj => ?_⟩
      have hjk : j < k := by
        have := (List.getElem?_eq_some_iff.1 hj).1; omega
      have := hcat j (by omega)
      rw [Go.Vc.add_none, Go.Vc.add_none, hj] at this
      exact this
    obtain ⟨f, hfx⟩ := Go.Deep.choose_lt each
    have hlen : ((List.range len).map f).length = len := by simp
    refine ⟨(.slice (some x0) len cap, (List.range len).map f), hcs, ⟨some x0, cap, by rw [hlen], fun h0 => ?_⟩, by rw [hlen]; exact hmax, fun z hz => ?_⟩
    · rw [hlen] at h0
      obtain ⟨_, lb, lo, he, hlb, _⟩ := hfx 0 h0
      refine ⟨lb, lo, he, hlb, fun i v hv => ?_⟩
      -- the cell i lies in the element i / k
      have hgen : ∀ (l : List α) (o : Nat), (∀ j, (hj : j < l.length) → At W lb (o + j * k) (cells l[j])) → At W lb o (l.flatMap cells) := by
        intro l
        induction l with
        | nil => intro o _ i v hi; simp at hi
        | cons a r ih =>
          intro o h i v hi
          rw [List.flatMap_cons] at hi
          by_cases hik : i < k
          · rw [List.getElem?_append_left (by rw [hk]; exact hik)] at hi
            have := h 0 (by simp) i v hi
            simpa using this
          · rw [List.getElem?_append_right (by rw [hk]; omega), hk] at hi
            have h2 := ih (o + k) (fun j hj m u hu => by
              have := h (j + 1) (by simpa using hj) m u hu
              rw [Nat.succ_mul] at this
              rw [show o + k + j * k + m = o + (j * k + k) + m by omega]
              exact this) (i - k) v hi
            rwa [show o + k + (i - k) = o + i by omega] at h2
      refine hgen ((List.range len).map f) lo (fun j hj => ?_) i v hv
      have hj : j < len := by simpa using hj
      obtain ⟨_, lb2, lo2, he2, _, hc2⟩ := hfx j hj
      rw [he] at he2
      injection he2 with he2
      injection he2 with e1 e2
      subst e1; subst e2
      rw [List.getElem_map, List.getElem_range]
      exact hc2
    · obtain ⟨i, hi, rfl⟩ := List.mem_map.1 hz
      exact (hfx i (by simpa using hi)).1
theorem Opens.imp {α β : Type} {cells : α → List Value} {p : α → Prop} {cells' : β → List Value} {p' : β → Prop} (h : Opens P W T cells p) (f : α → β) (hc : ∀ y, cells y = cells' (f y)) (hp : ∀ y, p y → p' (f y)) : Opens P W T cells' p' := fun {H enc fuel cs x} hf hsz => by
  obtain ⟨y, rfl, h2⟩ := h hf hsz
  exact ⟨f y, hc y, hp y h2⟩
theorem Opens.impP {α β : Type} {cells : α → List Value} {p : α → Prop} {cells' : β → List Value} {p' : β → Prop} (h : Opens P W T cells p) (f : α → β) (hc : ∀ y, p y → cells y = cells' (f y)) (hp : ∀ y, p y → p' (f y)) : Opens P W T cells' p' := fun {H enc fuel cs x} hf hsz => by
  obtain ⟨y, rfl, h2⟩ := h hf hsz
  exact ⟨f y, hc y h2, hp y h2⟩
/-- Fields of a struct, from the cell `off` on. -/
def OpensFs (P : Program) (W : World) (fs : List Field) (off total : Nat) {α : Type} (cells : α → List Value) (p : α → Prop) : Prop :=
  ∀ {H : Type} {enc : TypeId × Value → H} {n : Nat} {cs : List Value} {xs : List (DataW H × List MemPlace)}, cs.length = total → xs.length = fs.length →
    (∀ (i : Nat) (f : Field), fs[i]? = some f → DataW.trod enc P W 0 (fun _ => true) true n f.type ((cs.drop f.offset).take (P.cellsOf f.type)) = xs[i]?) →
    (∀ (i : Nat) (f : Field) (x : DataW H × List MemPlace), fs[i]? = some f → xs[i]? = some x → ∀ m ∈ x.1.weights P f.type, m ≤ reachBytes) → ∃ y, cs.drop off = cells y ∧ p y
theorem opens_nil {off : Nat} : OpensFs P W [] off off (fun _ : Unit => []) (fun _ => True) := fun {H enc n cs xs} hl _ _ _ => ⟨(), List.drop_eq_nil_of_le (by omega), trivial⟩
theorem opens_cons {f : Field} {fs : List Field} {off total k : Nat} {α β : Type} {c1 : α → List Value} {p1 : α → Prop} {c2 : β → List Value} {p2 : β → Prop} (ho : f.offset = off) (hk : P.cellsOf f.type = k) (h1 : Opens P W f.type c1 p1) (h2 : OpensFs P W fs (off + k) total c2 p2) :
    OpensFs P W (f :: fs) off total (fun y : α × β => c1 y.1 ++ c2 y.2) (fun y => p1 y.1 ∧ p2 y.2) := fun {H enc n cs xs} hl hx hf hw => by
  cases xs with
  | nil => simp at hx
  | cons x xs =>
    have f0 := hf 0 f rfl
    rw [ho, hk] at f0
    obtain ⟨y1, e1, q1⟩ := h1 f0 (hw 0 f x rfl rfl)
    obtain ⟨y2, e2, q2⟩ := h2 (n := n) (cs := cs) (xs := xs) hl (by simpa using hx) (fun i g hg => hf (i + 1) g (by simpa using hg)) (fun i g z hg hz => hw (i + 1) g z (by simpa using hg) (by simpa using hz))
    refine ⟨(y1, y2), ?_, q1, q2⟩
    dsimp only
    rw [← e1, ← e2, ← List.drop_drop, List.take_append_drop]
theorem opens_struct {fs : Array Field} {total : Nat} {α : Type} {cells : α → List Value} {p : α → Prop} (hT : P.underlying T = some (.struct fs)) (hc : P.cellsOf T = total) (h : OpensFs P W fs.toList 0 total cells p) : Opens P W T cells p := fun {H enc fuel cs x} hf hsz => by
  obtain ⟨xs, n, _, hx, hlen, hxl, hfld⟩ := DataW.trod_struct hT hf
  rw [hc] at hlen
  obtain ⟨y, e, q⟩ := h (n := n) (cs := cs) (xs := xs) hlen (by simpa using hxl) (fun i f hi => hfld i f (by rw [← Array.getElem?_toList]; exact hi)) (fun i f z hi hz m hm => hsz m (by
    rw [hx]
    show m ∈ DataW.weights P T (.agg (xs.map (·.1)))
    unfold DataW.weights
    rw [hT]
    refine DataW.weights_mem_each (j := i) (t := f.type) (d := z.1) ?_ ?_ m hm
    · rw [List.getElem?_map, hi]; rfl
    · rw [List.getElem?_map, hz]; rfl))
  exact ⟨y, by simpa using e, q⟩
/-- What a parameter of such a type is. -/
theorem opens_param {α : Type} {cells : α → List Value} {p : α → Prop} (h : Opens P W T cells p) {H : Type} {enc : TypeId × Value → H} {v : Value} {d : DataW H} {ps : List MemPlace} (ht : DataW.Trod enc P W 0 (fun _ => true) true T v d ps) (hsz : ∀ n ∈ d.weights P T, n ≤ reachBytes) :
    ∃ y, v.cells.toList = cells y ∧ p y := by
  obtain ⟨fuel, hf⟩ := ht
  exact h hf hsz
end
end Go.Vc

namespace Go.Vc
set_option linter.unusedVariables false
open Go Go.Pw
set_option linter.unusedVariables false
theorem flatK_drop {α : Type} (f : α → List Value) (n : Nat) (hf : ∀ x, (f x).length = n) : ∀ (l : List α) (i : Nat), (l.flatMap f).drop (i * n) = (l.drop i).flatMap f
  | l, 0 => by simp
  | [], i + 1 => by simp
  | x :: r, i + 1 => by
    rw [List.flatMap_cons, Nat.succ_mul, Nat.add_comm, ← List.drop_drop, List.drop_left' (hf x), flatK_drop f n hf r i]; rfl
theorem flatK_take {α : Type} (f : α → List Value) (n : Nat) (hf : ∀ x, (f x).length = n) : ∀ (l : List α) (i : Nat), (l.flatMap f).take (i * n) = (l.take i).flatMap f
  | l, 0 => by simp
  | [], i + 1 => by simp
  | x :: r, i + 1 => by
    rw [List.flatMap_cons, List.take_append, List.take_of_length_le (by rw [hf, Nat.succ_mul]; omega), hf, show (i + 1) * n - n = i * n by rw [Nat.succ_mul]; omega, flatK_take f n hf r i]; rfl
theorem flatK_len {α : Type} (f : α → List Value) (n : Nat) (hf : ∀ x, (f x).length = n) : ∀ (l : List α), (l.flatMap f).length = l.length * n
  | [] => by simp
  | x :: r => by rw [List.flatMap_cons, List.length_append, hf, flatK_len f n hf r, List.length_cons, Nat.succ_mul]; omega
/-- A row in a block of its own, opened: nil, or its block. -/
theorem own_blockK {w : World} {B e s n : Nat} {v : Value} {xs : List Value} (h : w.ownsRow B e s v n xs) : (v = .slice none 0 0 ∧ n = 0) ∨ ∃ g cap cells, v = .slice (some ⟨g, 0, none⟩) n cap ∧ B ≤ g ∧ VarK w g e cells ∧ n ≤ cap ∧ cap ≤ maxLen ∧ cells.length = cap * s ∧ cells.take (n * s) = xs := by
  rcases h.2 with h | ⟨g, cap, cur, h1, h2, h3, h4, h5, h6, h7⟩
  · exact .inl h
  · exact .inr ⟨g, cap, cur.toList, h1, h2, by unfold VarK; simpa using h3, h4, h5, by simpa using h6, h7⟩
theorem at_of_own {w : World} {B e s n g cap : Nat} {xs : List Value} (h : w.ownsRow B e s (.slice (some ⟨g, 0, none⟩) n cap) n xs) : At w g 0 xs := fun j u hu => by
  have := h.cells (g := g) rfl j u hu
  rw [add_none] at this; exact this
theorem VarK.cells (w : World) {g : Nat} {T : TypeId} {cells : List Value} (h : VarK w g T cells) (o : Nat) {news : List Value} (hn : ∀ j u, news[j]? = some u → cells[o + j]? = some u) : ∀ j u, news[j]? = some u → w.cell? ((⟨g, o, none⟩ : Addr).add j) = some u := fun j u hj => by
  rw [add_none]
  have := h.at (o + j) u (hn j u hj)
  simpa using this
end Go.Vc
namespace Go.Vc
set_option linter.unusedVariables false
theorem VarK.shape {w : World} {g : Nat} {T : TypeId} {cells : List Value} (h : VarK w g T cells) : w.shape? g = some (T, cells.length) := by
  unfold World.shape?
  unfold VarK at h
  rw [h]; simp
end Go.Vc

namespace Go.Vc
set_option linter.unusedVariables false
open Go Go.Pw
set_option linter.unusedVariables false
end Go.Vc

namespace Go.Cs
set_option linter.unusedVariables false
open Go.Lib
set_option linter.unusedVariables false
/-! ### Names of character sets, bytewise decoders -/
def lowerB (b : UInt8) : UInt8 := if 65 ≤ b.toNat ∧ b.toNat ≤ 90 then (b.toNat + 32).toUInt8 else b
def nmUsAscii : List UInt8 := [117, 115, 45, 97, 115, 99, 105, 105]
def nmAscii : List UInt8 := [97, 115, 99, 105, 105]
def nmUtf_8 : List UInt8 := [117, 116, 102, 45, 56]
def nmUtf8 : List UInt8 := [117, 116, 102, 56]
def nmIso : List UInt8 := [105, 115, 111, 45, 56, 56, 53, 57, 45, 49]
def nmLatin1 : List UInt8 := [108, 97, 116, 105, 110, 49]
def nmWin : List UInt8 := [119, 105, 110, 100, 111, 119, 115, 45, 49, 50, 53, 50]
def nmCp : List UInt8 := [99, 112, 49, 50, 53, 50]
def kindL (m : List UInt8) : Nat :=
  if m = nmUsAscii then 1 else if m = nmAscii then 1 else if m = nmUtf_8 then 2 else if m = nmUtf8 then 2 else if m = nmIso then 3 else if m = nmLatin1 then 3 else if m = nmWin then 4 else if m = nmCp then 4 else 0
def kind (l : List UInt8) : Nat := kindL (l.map lowerB)
end Go.Cs

namespace Go.Cs
set_option linter.unusedVariables false
open Go.Lib
set_option linter.unusedVariables false
theorem b2 (x : Nat) (y : Int) (h : (x : Int) = y) : UInt8.ofNat x = y.toNat.toUInt8 := by subst h; rfl
end Go.Cs

namespace Go.Cs
set_option linter.unusedVariables false
open Go.Lib
set_option linter.unusedVariables false
/-- The lower case of a code point. -/
def lowC (r : Nat) : Nat :=
  if 65 ≤ r ∧ r ≤ 90 then r + 32 else if 192 ≤ r ∧ r ≤ 214 then r + 32 else if 216 ≤ r ∧ r ≤ 222 then r + 32
  else if 256 ≤ r ∧ r ≤ 303 then (if r % 2 = 0 then r + 1 else r) else if 306 ≤ r ∧ r ≤ 311 then (if r % 2 = 0 then r + 1 else r)
  else if 313 ≤ r ∧ r ≤ 328 then (if r % 2 = 1 then r + 1 else r) else if 330 ≤ r ∧ r ≤ 375 then (if r % 2 = 0 then r + 1 else r)
  else if r = 376 then 255 else if 377 ≤ r ∧ r ≤ 382 then (if r % 2 = 1 then r + 1 else r)
  else if r = 902 then 940 else if 904 ≤ r ∧ r ≤ 906 then r + 37 else if r = 908 then 972 else if 910 ≤ r ∧ r ≤ 911 then r + 63
  else if 913 ≤ r ∧ r ≤ 929 then r + 32 else if 931 ≤ r ∧ r ≤ 939 then r + 32 else if 1024 ≤ r ∧ r ≤ 1039 then r + 80 else if 1040 ≤ r ∧ r ≤ 1071 then r + 32 else r
/-- A text in lower case. -/
def foldF : Nat → List UInt8 → List UInt8
  | 0, _ => []
  | _ + 1, [] => []
  | n + 1, b :: t => (if (decodeL (b :: t)).1 = 65533 ∧ (decodeL (b :: t)).2 = 1 then [b] else enc (lowC (decodeL (b :: t)).1)) ++ foldF n ((b :: t).drop (decodeL (b :: t)).2)
def foldL (l : List UInt8) : List UInt8 := foldF l.length l
def close (f : Option Nat) (at_ : Nat) : List (Nat × Nat) := match f with | none => [] | some a => [(a, at_)]
/-- The words' places. -/
def wd : List (Nat × Nat) → Nat → Option Nat → List (Nat × Nat)
  | [], p, f => close f p
  | (k, n) :: r, p, f =>
    if k = 0 then close f p ++ wd r (p + n) none
    else if k = 2 then close f p ++ (p, p + n) :: wd r (p + n) none
    else match f with
      | some a => if 40 < p + n - a then (a, p) :: wd r (p + n) (some p) else wd r (p + n) (some a)
      | none => wd r (p + n) (some p)
def cutL (l : List UInt8) (p : Nat × Nat) : List UInt8 := (l.take p.2).drop p.1
end Go.Cs

namespace Go.Cs
set_option linter.unusedVariables false
open Go.Lib
set_option linter.unusedVariables false
/-- A whole step is told by its bytes alone. -/
theorem whole_of (l : List UInt8) (c : Nat) (h : scal c) (e : l.take (enc c).length = enc c) : decodeL l = (c, (enc c).length) := by
  have h2 := List.take_append_drop (enc c).length l
  rw [e] at h2
  have := dec_enc c h (l.drop (enc c).length)
  rw [h2] at this
  exact this
theorem bad_or (l : List UInt8) (hne : l ≠ []) : decodeL l = (65533, 1) ∨ ∃ c, scal c ∧ decodeL l = (c, (enc c).length) ∧ l.take (enc c).length = enc c := by
  rcases dec_whole l hne with h | ⟨h1, h2, h3, _⟩
  · exact .inl h
  · exact .inr ⟨_, h1, Prod.ext rfl h3, by rw [← h3]; exact h2⟩
theorem bad_ne (c : Nat) : (65533, 1) ≠ (c, (enc c).length) := by
  intro h
  injection h with h1 h2
  rw [← h1] at h2
  have := enc_bad_len
  omega
/-- A cut behind a step does not turn it. -/
theorem dec_take (l : List UInt8) (n : Nat) (hne : l ≠ []) (hn : (decodeL l).2 ≤ n) : decodeL (l.take n) = decodeL l := by
  have hw := decodeL_width l
  have hl : 0 < l.length := List.length_pos_iff.2 hne
  have hne' : l.take n ≠ [] := by
    intro h
    have := congrArg List.length h
    rw [List.length_take, List.length_nil] at this
    omega
  rcases bad_or l hne with h | ⟨c, hs, hd, ht⟩
  · rcases bad_or (l.take n) hne' with h' | ⟨c, hs, hd, ht⟩
    · rw [h, h']
    · exfalso
      have hle := decodeL_le _ hne'
      rw [hd, List.length_take] at hle
      simp only at hle
      rw [List.take_take, Nat.min_eq_left (by omega)] at ht
      have := whole_of l c hs ht
      rw [h] at this
      exact bad_ne c this
  · rw [hd] at hn ⊢
    simp only at hn
    exact whole_of _ c hs (by rw [List.take_take, Nat.min_eq_left hn]; exact ht)
/-- A place between two steps. -/
inductive Bd : List UInt8 → Nat → Prop
  | zero (l : List UInt8) : Bd l 0
  | step (l : List UInt8) (n : Nat) : l ≠ [] → Bd (l.drop (decodeL l).2) n → Bd l ((decodeL l).2 + n)
end Go.Cs

namespace Go.Cs
set_option linter.unusedVariables false
open Go.Lib
set_option linter.unusedVariables false
/-! ### Mailboxes, plain -/
structure Bx where
  id : Int
  up : Int
  name : List UInt8
  role : List UInt8
deriving DecidableEq
def rolesL : List (List UInt8) := [[], [105, 110, 98, 111, 120], [100, 114, 97, 102, 116, 115], [115, 101, 110, 116], [116, 114, 97, 115, 104], [106, 117, 110, 107], [97, 114, 99, 104, 105, 118, 101]]
def fineB (b : UInt8) : Bool := !(decide (b.toNat < 32) || decide (b.toNat = 127) || decide (b.toNat = 47))
def namedB (s : List UInt8) : Bool := decide (1 ≤ s.length) && decide (s.length ≤ 100) && validD s && s.all fineB
def upOf (l : List Bx) (id : Int) : Option Int := (l.find? fun b => decide (b.id = id)).map (·.up)
/-- How many steps lead to the root, within n. -/
def dep (l : List Bx) : Nat → Int → Option Nat
  | 0, id => if id = 0 then some 0 else none
  | n + 1, id => if id = 0 then some 0 else match upOf l id with
    | none => none
    | some u => (dep l n u).map (· + 1)
structure RightP (l : List Bx) : Prop where
  len : l.length ≤ 64
  pos : ∀ b ∈ l, 1 ≤ b.id ∧ b.id ≤ 1099511627776
  asc : l.Pairwise fun a b => a.id < b.id
  named : ∀ b ∈ l, namedB b.name = true
  roles : ∀ b ∈ l, b.role ∈ rolesL
  uniq : l.Pairwise fun a b => ¬ (a.up = b.up ∧ foldL a.name = foldL b.name)
  urole : l.Pairwise fun a b => ¬ (b.role ≠ [] ∧ a.role = b.role)
  deep : ∀ b ∈ l, ∃ d, dep l l.length b.id = some d ∧ d ≤ 8
/-! ### Looking up -/
theorem upOf_mem {l : List Bx} {id u : Int} (h : upOf l id = some u) : ∃ b ∈ l, b.id = id ∧ b.up = u := by
  unfold upOf at h
  cases hf : l.find? fun b => decide (b.id = id) with
  | none => rw [hf] at h; cases h
  | some b =>
    rw [hf] at h
    have h1 := List.find?_some hf
    exact ⟨b, List.mem_of_find?_eq_some hf, by simpa using h1, by simpa using h⟩
end Go.Cs

namespace Go.Cs
set_option linter.unusedVariables false
open Go.Lib
set_option linter.unusedVariables false
set_option linter.unusedSectionVars false
/-! ### Chains to the root -/
/-- The boxes from one up to the root's child. -/
def boxOf (l : List Bx) (id : Int) : Option Bx := l.find? fun b => decide (b.id = id)
theorem boxOf_up (l : List Bx) (id : Int) : upOf l id = (boxOf l id).map (·.up) := rfl
theorem boxOf_none {l : List Bx} {id : Int} : boxOf l id = none ↔ ∀ b ∈ l, b.id ≠ id := by
  unfold boxOf
  rw [List.find?_eq_none]
  simp
section
variable {l : List Bx} (hr : RightP l)
include hr
theorem zero_no : boxOf l 0 = none := boxOf_none.2 fun b hb => by have := (hr.pos b hb).1; omega
end
end Go.Cs

namespace Go.Cs
set_option linter.unusedVariables false
open Go.Lib
set_option linter.unusedVariables false
set_option linter.unusedSectionVars false
section
end
end Go.Cs

namespace Go.Cs
set_option linter.unusedVariables false
end Go.Cs

namespace Go.Cs
set_option linter.unusedVariables false
end Go.Cs

namespace Go.Cs
set_option linter.unusedVariables false
open Go.Lib
set_option linter.unusedVariables false
/-- The word at a place. -/
def mk (l : List UInt8) (p : Nat × Nat) : List UInt8 × Nat × Nat := (foldL (cutL l p), p.1, p.2)
end Go.Cs

namespace Go.Cs
set_option linter.unusedVariables false
open Go.Lib
set_option linter.unusedVariables false
theorem Bd.take {l : List UInt8} {n : Nat} (h : Bd l n) : ∀ b, n ≤ b → Bd (l.take b) n := by
  induction h with
  | zero l => exact fun b _ => .zero _
  | step l n hne _ ih =>
    intro b hb
    have hw := decodeL_width l
    have hd := dec_take l b hne (by omega)
    have hl : 0 < l.length := List.length_pos_iff.2 hne
    have hne' : l.take b ≠ [] := by
      intro e
      have := congrArg List.length e
      rw [List.length_take, List.length_nil] at this
      omega
    have h1 := ih (b - (decodeL l).2) (by omega)
    rw [← hd]
    refine .step _ _ hne' ?_
    rw [hd, List.drop_take]
    exact h1
end Go.Cs

namespace Go.Cs
set_option linter.unusedVariables false
open Go.Lib
set_option linter.unusedVariables false
/-! ### Segments -/
/-- The width of steps. -/
def W (u : List (Nat × Nat)) : Nat := (u.map (·.2)).sum
end Go.Cs

namespace Go.Cs
set_option linter.unusedVariables false
open Go.Lib
set_option linter.unusedVariables false
end Go.Cs
namespace Go.Cs
set_option linter.unusedVariables false
open Go.Lib
end Go.Cs

namespace Go.Cs
set_option linter.unusedVariables false
open Go.Lib
set_option linter.unusedVariables false
end Go.Cs

namespace Go.Cs
set_option linter.unusedVariables false
open Go.Lib
set_option linter.unusedVariables false
/-- What the reference asks of a piece of n bytes at the head of l. -/
def need (l : List UInt8) : Nat := if 194 ≤ (l.getD 0 0).toNat ∧ (l.getD 0 0).toNat ≤ 223 then 2 else if 224 ≤ (l.getD 0 0).toNat ∧ (l.getD 0 0).toNat ≤ 239 then 3 else if 240 ≤ (l.getD 0 0).toNat ∧ (l.getD 0 0).toNat ≤ 244 then 4 else 1
end Go.Cs

namespace Go.Cs
set_option linter.unusedVariables false
open Go.Lib
set_option linter.unusedVariables false
theorem nodup_len {α : Type} [DecidableEq α] : ∀ (a b : List α), a.Nodup → (∀ x ∈ a, x ∈ b) → a.length ≤ b.length
  | [], b, _, _ => Nat.zero_le _
  | x :: r, b, hn, hs => by
    rw [List.nodup_cons] at hn
    have hx : x ∈ b := hs x (by simp)
    have h1 := nodup_len r (b.erase x) hn.2 fun y hy => by
      have hne : y ≠ x := fun e => hn.1 (e ▸ hy)
      exact (List.mem_erase_of_ne hne).2 (hs y (by simp [hy]))
    have h2 := List.length_erase_of_mem hx
    have h3 : 0 < b.length := List.length_pos_iff.2 fun e => by rw [e] at hx; cases hx
    simp only [List.length_cons]
    omega
end Go.Cs

namespace Go.Cs
set_option linter.unusedVariables false
open Go.Lib
set_option linter.unusedVariables false
set_option linter.unusedSectionVars false
/-! ### Depth, as a relation -/
def Dep (l : List Bx) : Nat → Int → Prop
  | 0, id => id = 0
  | d + 1, id => id ≠ 0 ∧ ∃ u, upOf l id = some u ∧ Dep l d u
theorem dep_iff (l : List Bx) : ∀ (n d : Nat) (id : Int), dep l n id = some d ↔ Dep l d id ∧ d ≤ n
  | 0, 0, id => by unfold dep Dep; by_cases h : id = 0 <;> simp [h]
  | 0, d + 1, id => by unfold dep; by_cases h : id = 0 <;> simp [h]
  | n + 1, 0, id => by
    unfold dep Dep
    by_cases h : id = 0
    · simp [h]
    · rw [if_neg h]
      constructor
      · intro e
        cases hu : upOf l id with
        | none => rw [hu] at e; cases e
        | some u =>
          rw [hu] at e
          dsimp only at e
          cases hd : dep l n u with
          | none => rw [hd] at e; cases e
          | some x => rw [hd] at e; simp at e
      · intro e; exact absurd e.1 h
  | n + 1, d + 1, id => by
    unfold dep Dep
    by_cases h : id = 0
    · simp [h]
    · rw [if_neg h]
      constructor
      · intro e
        cases hu : upOf l id with
        | none => rw [hu] at e; cases e
        | some u =>
          rw [hu] at e
          dsimp only at e
          cases hd : dep l n u with
          | none => rw [hd] at e; cases e
          | some x =>
            rw [hd] at e
            simp at e
            subst e
            obtain ⟨h1, h2⟩ := (dep_iff l n x u).1 hd
            exact ⟨⟨h, u, rfl, h1⟩, by omega⟩
      · rintro ⟨⟨_, u, hu, h1⟩, h2⟩
        rw [hu]
        dsimp only
        rw [(dep_iff l n d u).2 ⟨h1, by omega⟩]; rfl
theorem Dep.inj {l : List Bx} : ∀ {d e : Nat} {id : Int}, Dep l d id → Dep l e id → d = e
  | 0, 0, id, _, _ => rfl
  | 0, e + 1, id, h, k => absurd h k.1
  | d + 1, 0, id, h, k => absurd k h.1
  | d + 1, e + 1, id, ⟨_, u, hu, h⟩, ⟨_, v, hv, k⟩ => by
    rw [hu] at hv
    obtain rfl := Option.some.inj hv
    rw [Dep.inj h k]
/-- The ids up the chain: all different, and of the list. -/
theorem Dep.len {l : List Bx} {d : Nat} {id : Int} (h : Dep l d id) : d ≤ l.length := by
  have key : ∀ (d : Nat) (id : Int), Dep l d id → ∃ c : List Int, c.length = d ∧ c.Nodup ∧ (∀ x ∈ c, x ∈ l.map (·.id)) ∧ ∀ x ∈ c, ∃ e, e ≤ d ∧ Dep l e x := by
    intro d
    induction d with
    | zero => intro id _; exact ⟨[], rfl, .nil, by simp, by simp⟩
    | succ d ih =>
      rintro id ⟨h0, u, hu, hd⟩
      obtain ⟨c, h1, h2, h3, h4⟩ := ih u hd
      obtain ⟨b, hb, hid, _⟩ := upOf_mem hu
      refine ⟨id :: c, by simp [h1], List.nodup_cons.2 ⟨fun hm => ?_, h2⟩, fun x hx => ?_, fun x hx => ?_⟩
      · obtain ⟨e, he, hde⟩ := h4 id hm
        have := Dep.inj hde (show Dep l (d + 1) id from ⟨h0, u, hu, hd⟩)
        omega
      · rcases List.mem_cons.1 hx with rfl | hx
        · exact List.mem_map.2 ⟨b, hb, hid⟩
        · exact h3 x hx
      · rcases List.mem_cons.1 hx with rfl | hx
        · exact ⟨d + 1, Nat.le_refl _, h0, u, hu, hd⟩
        · obtain ⟨e, he, hde⟩ := h4 x hx
          exact ⟨e, by omega, hde⟩
  obtain ⟨c, h1, h2, h3, _⟩ := key d id h
  have := nodup_len c (l.map (·.id)) h2 h3
  rw [List.length_map] at this
  omega
theorem RightP.dep {l : List Bx} (hr : RightP l) {b : Bx} (hb : b ∈ l) : ∃ d, Dep l d b.id ∧ d ≤ 8 := by
  obtain ⟨d, h1, h2⟩ := hr.deep b hb
  exact ⟨d, ((dep_iff _ _ _ _).1 h1).1, h2⟩
/-! ### Descent -/
inductive Reach (l : List Bx) (b : Int) : Int → Prop
  | here : Reach l b b
  | up {id u : Int} : upOf l id = some u → Reach l b u → Reach l b id
/-! ### The operations -/
def hasId (l : List Bx) (id : Int) : Bool := l.any fun b => decide (b.id = id)
/-- Where the parents agree, so do the depths. -/
theorem Dep.congr {l l' : List Bx} (S : Int → Prop) (hS : ∀ id u, S id → upOf l id = some u → upOf l' id = some u ∧ S u) : ∀ (d : Nat) (id : Int), S id → Dep l d id → Dep l' d id
  | 0, id, _, h => h
  | d + 1, id, hs, ⟨h0, u, hu, h⟩ => ⟨h0, u, (hS id u hs hu).1, Dep.congr S hS d u (hS id u hs hu).2 h⟩
end Go.Cs

namespace Go.Cs
set_option linter.unusedVariables false
open Go.Lib
set_option linter.unusedVariables false
set_option linter.unusedSectionVars false
/-! ### Moving: depths -/
section
end
end Go.Cs

namespace Go.Cs
set_option linter.unusedVariables false
open Go.Lib
set_option linter.unusedVariables false
set_option linter.unusedSectionVars false
/-! ### Descent and depth -/
theorem Reach.dep {l : List Bx} (hz : upOf l 0 = none) {b y : Int} (h : Reach l b y) : ∀ {d : Nat}, Dep l d y → ∃ e, e ≤ d ∧ Dep l e b := by
  induction h with
  | here => intro d hd; exact ⟨d, Nat.le_refl _, hd⟩
  | @up id u hu _ ih =>
    intro d hd
    cases d with
    | zero =>
      have h0 : id = 0 := hd
      rw [h0, hz] at hu; cases hu
    | succ d =>
      obtain ⟨h0, v, hv, hd⟩ := hd
      rw [hu] at hv
      obtain rfl := Option.some.inj hv
      obtain ⟨e, h1, h2⟩ := ih hd
      exact ⟨e, by omega, h2⟩
theorem RightP.zero {l : List Bx} (hr : RightP l) : upOf l 0 = none := by rw [boxOf_up, zero_no hr]; rfl
end Go.Cs

namespace Go.Cs
set_option linter.unusedVariables false
open Go.Lib
set_option linter.unusedVariables false
set_option linter.unusedSectionVars false
section
end
/-! ### Paths after a move -/
section
end
end Go.Cs

namespace Go.Cs
set_option linter.unusedVariables false
open Go.Lib
set_option linter.unusedVariables false
set_option linter.unusedSectionVars false
end Go.Cs

namespace Go.Cs
set_option linter.unusedVariables false
open Go.Lib
set_option linter.unusedVariables false
/-! ### Accounts, plain -/
/-- A digest: its 32 cells. -/
structure Dg where
  (d0 d1 d2 d3 d4 d5 d6 d7 d8 d9 d10 d11 d12 d13 d14 d15 d16 d17 d18 d19 d20 d21 d22 d23 d24 d25 d26 d27 d28 d29 d30 d31 : Int)
deriving DecidableEq
structure Ml where
  id : Int
  blob : Dg
  boxes : List Int
  flags : List (List UInt8)
  at_ : Int
  size : Int
  mod : Int
deriving DecidableEq
structure Sc where
  name : List UInt8
  text : List UInt8
deriving DecidableEq
structure Sn where
  key : List UInt8
  at_ : Int
deriving DecidableEq
structure Acc where
  boxes : List Bx
  mails : List Ml
  scripts : List Sc
  active : List UInt8
  seen : List Sn
  nm : Int
  nb : Int
  st : Int
deriving DecidableEq
structure Opr where
  kind : Int
  id : Int
  box : Int
  up : Int
  name : List UInt8
  role : List UInt8
  text : List UInt8
  blob : Dg
  boxes : List Int
  add : List (List UInt8)
  drop : List (List UInt8)
  at_ : Int
  size : Int
  if_ : Int
/-! ### Sorted, distinct -/
structure STO {α : Type} (lt : α → α → Bool) : Prop where
  irr : ∀ a, lt a a = false
  tr : ∀ a b c, lt a b = true → lt b c = true → lt a c = true
  tri : ∀ a b, lt a b = false → lt b a = false → a = b
def insD {α : Type} (lt : α → α → Bool) (x : α) : List α → List α
  | [] => [x]
  | y :: r => if lt y x = true then y :: insD lt x r else if lt x y = true then x :: y :: r else y :: r
def sortD {α : Type} (lt : α → α → Bool) (l : List α) : List α := l.foldl (fun a x => insD lt x a) []
def AscB {α : Type} (lt : α → α → Bool) (l : List α) : Prop := l.Pairwise fun a b => lt a b = true
section
variable {α : Type} {lt : α → α → Bool}
theorem mem_insD (h : STO lt) (x z : α) : ∀ l : List α, z ∈ insD lt x l ↔ z = x ∨ z ∈ l
  | [] => by simp [insD]
  | y :: r => by
    unfold insD
    split
    · rw [List.mem_cons, mem_insD h x z r, List.mem_cons]
      constructor
      · rintro (e | e | e)
        · exact .inr (.inl e)
        · exact .inl e
        · exact .inr (.inr e)
      · rintro (e | e | e)
        · exact .inr (.inl e)
        · exact .inl e
        · exact .inr (.inr e)
    · rename_i h1
      split
      · simp
      · rename_i h2
        obtain rfl : y = x := h.tri y x (by simpa using h1) (by simpa using h2)
        simp
theorem asc_insD (h : STO lt) (x : α) : ∀ l : List α, AscB lt l → AscB lt (insD lt x l)
  | [], _ => by simp [insD, AscB]
  | y :: r, hl => by
    obtain ⟨h1, h2⟩ := List.pairwise_cons.1 hl
    unfold insD
    split
    · rename_i hy
      refine List.pairwise_cons.2 ⟨fun z hz => ?_, asc_insD h x r h2⟩
      rcases (mem_insD h x z r).1 hz with rfl | hz
      · exact hy
      · exact h1 z hz
    · split
      · rename_i hy
        refine List.pairwise_cons.2 ⟨fun z hz => ?_, hl⟩
        rcases List.mem_cons.1 hz with rfl | hz
        · exact hy
        · exact h.tr _ _ _ hy (h1 z hz)
      · exact hl
theorem sortD_go (h : STO lt) : ∀ (l a : List α), AscB lt a → AscB lt (l.foldl (fun a x => insD lt x a) a) ∧ ∀ z, z ∈ l.foldl (fun a x => insD lt x a) a ↔ z ∈ a ∨ z ∈ l
  | [], a, ha => ⟨ha, by simp⟩
  | x :: l, a, ha => by
    obtain ⟨h1, h2⟩ := sortD_go h l (insD lt x a) (asc_insD h x a ha)
    refine ⟨h1, fun z => ?_⟩
    rw [List.foldl_cons, h2, mem_insD h, List.mem_cons]
    constructor
    · rintro ((e | e) | e)
      · exact .inr (.inl e)
      · exact .inl e
      · exact .inr (.inr e)
    · rintro (e | e | e)
      · exact .inl (.inr e)
      · exact .inl (.inl e)
      · exact .inr e
theorem asc_sortD (h : STO lt) (l : List α) : AscB lt (sortD lt l) := (sortD_go h l [] .nil).1
theorem mem_sortD (h : STO lt) (l : List α) (z : α) : z ∈ sortD lt l ↔ z ∈ l := by
  rw [show z ∈ sortD lt l ↔ _ from (sortD_go h l [] .nil).2 z]; simp
theorem asc_uniq (h : STO lt) : ∀ (a b : List α), AscB lt a → AscB lt b → (∀ z, z ∈ a ↔ z ∈ b) → a = b
  | [], [], _, _, _ => rfl
  | [], y :: b, _, _, hm => by have := (hm y).2 (by simp); simp at this
  | x :: a, [], _, _, hm => by have := (hm x).1 (by simp); simp at this
  | x :: a, y :: b, ha, hb, hm => by
    obtain ⟨a1, a2⟩ := List.pairwise_cons.1 ha
    obtain ⟨b1, b2⟩ := List.pairwise_cons.1 hb
    have no : ∀ {u v : α}, lt u v = true → lt v u = true → False := fun p q => by
      have := h.tr _ _ _ p q
      rw [h.irr] at this; cases this
    obtain rfl : x = y := by
      rcases List.mem_cons.1 ((hm x).1 (by simp)) with e | e
      · exact e
      rcases List.mem_cons.1 ((hm y).2 (by simp)) with f | f
      · exact f.symm
      · exact (no (a1 y f) (b1 x e)).elim
    have hne : ∀ {z : α} {l : List α}, (∀ u ∈ l, lt x u = true) → z ∈ l → z ≠ x := fun hl hz e => by
      subst e
      have := hl _ hz
      rw [h.irr] at this; cases this
    rw [asc_uniq h a b a2 b2 fun z => ?_]
    constructor
    · intro hz
      rcases List.mem_cons.1 ((hm z).1 (List.mem_cons_of_mem _ hz)) with e | e
      · exact absurd e (hne a1 hz)
      · exact e
    · intro hz
      rcases List.mem_cons.1 ((hm z).2 (List.mem_cons_of_mem _ hz)) with e | e
      · exact absurd e (hne b1 hz)
      · exact e
theorem asc_filter {l : List α} (p : α → Bool) (h : AscB lt l) : AscB lt (l.filter p) := List.Pairwise.filter p h
end
def ltI (a b : Int) : Bool := decide (a < b)
def ltT (a b : List UInt8) : Bool := decide (a < b)
theorem stoI : STO ltI := ⟨fun a => by simp [ltI], fun a b c h1 h2 => by simp only [ltI, decide_eq_true_eq] at *; omega, fun a b h1 h2 => by simp only [ltI, decide_eq_false_iff_not] at *; omega⟩
/-- Bytes of a flag. -/
def flagCh (c : UInt8) : Bool := (decide (97 ≤ c.toNat) && decide (c.toNat ≤ 122)) || (decide (48 ≤ c.toNat) && decide (c.toNat ≤ 57)) || decide (c ∈ ([36, 92, 45, 95, 46] : List UInt8))
def flagB (s : List UInt8) : Bool := s.all flagCh && decide (1 ≤ s.length ∧ s.length ≤ 30)
def scCh (c : UInt8) : Bool := decide (32 ≤ c.toNat) && decide (c.toNat ≠ 127)
def scB (s : List UInt8) : Bool := s.all scCh && decide (1 ≤ s.length ∧ s.length ≤ 100)
end Go.Cs

namespace Go.Pw
set_option linter.unusedVariables false
open Go
set_option linter.unusedVariables false
set_option linter.unusedSectionVars false
/-! A region that draws, with held loads: the operations from the k-th on (stores, and what is pure) stand behind all before them, and need not keep S. -/
section
variable {P : Program} {ops : Array Oper} {S : World → Prop} {hs : Option Tmp → Bool}
/-- What holds ahead of the rest. -/
def HoldsT (P : Program) (S : World → Prop) (hs : Option Tmp → Bool) (ops : Array Oper) (Q : Act → World → Prop) : List Nat → List Nat → Act → World → Prop
  | [], LB, a, w => wpI P ops Q LB a w
  | x :: LA, LB, a, w => S w ∧ wpIh P S hs ops (fun a w => S w → wpI P ops Q LB a w) (x :: LA) a w
theorem HoldsT.of {Q : Act → World → Prop} {LA LB : List Nat} {a : Act} {w : World} (h : S w ∧ wpIh P S hs ops (fun a w => S w → wpI P ops Q LB a w) LA a w) : HoldsT P S hs ops Q LA LB a w := by
  cases LA with
  | nil => exact h.2 h.1
  | cons x LA => exact h
end
end Go.Pw
namespace Go.Vc
set_option linter.unusedVariables false
open Go Go.Pw
end Go.Vc

/-! Rows of one cell an element, and what the library's sort makes of them. -/
namespace Go.Vc
set_option linter.unusedVariables false
open Go Go.Pw Go.Sort
set_option linter.unusedVariables false
theorem flat1 {α β : Type} (f : α → β) (l : List α) : (l.flatMap fun x => [f x]) = l.map f := by
  induction l with
  | nil => rfl
  | cons x r ih => rw [List.flatMap_cons, ih]; rfl
section
variable {α : Type} [Inhabited α] {enc : α → Value} {w : World} {g q : Nat} {os : Array Obj} {e : TypeId}
theorem heap_put {cur : Array Value} {fr : Nat × Nat} (d : Array α) (hb : w.heap[g]? = some (.cells cur e fr)) :
    (grow (putRow enc (Sort.ahead w q) g 0 d) os).heap[g]? = some (.cells (putCells enc 0 d cur) e fr) := by
  have hg : g < w.heap.size := (Array.getElem?_eq_some_iff.1 hb).1
  rw [heap_grow_old _ _ (by simpa using hg)]
  simp [putRow, mapBlock, Sort.ahead, Array.getElem?_modify, hb, onCells]
theorem keeps_put (d : Array α) : Keeps w (grow (putRow enc (Sort.ahead w q) g 0 d) os) (one_ g) := by
  refine ⟨rfl, rfl, rfl, by simp, fun k hk hne => ?_⟩
  rw [heap_grow_old _ _ (by simpa using hk)]
  have : g ≠ k := fun e => hne e.symm
  simp [putRow, mapBlock, Sort.ahead, Array.getElem?_modify, this]
theorem holds_own {l : List α} {cells : List Value} (h : VarK w g e cells) (ht : cells.take l.length = l.map enc) : Holds enc w g 0 l.toArray := by
  intro j hj
  have hj' : j < l.length := by simpa using hj
  refine ⟨?_, by have := h.frozen (0 + j); exact this⟩
  have h1 : (cells.take l.length)[j]? = (l.map enc)[j]? := by rw [ht]
  rw [List.getElem?_take_of_lt hj'] at h1
  have := h.at j (enc l[j]) (by rw [h1]; simp [hj'])
  rw [this]
  simp [hj']
theorem take_put (cur : Array Value) (ts : List α) (h : ts.length ≤ cur.size) : (putCells enc 0 ts.toArray cur).toList.take ts.length = ts.map enc := by
  apply List.ext_getElem?
  intro j
  by_cases hj : j < ts.length
  · rw [List.getElem?_take_of_lt hj, Array.getElem?_toList]
    simp [putCells, hj, show j < cur.size by omega]
  · rw [List.getElem?_take_eq_none (by omega), List.getElem?_eq_none (by simp; omega)]
theorem own_put {B n cap m : Nat} {xs : List Value} (ho : w.ownsRow B e 1 (.slice (some ⟨g, 0, none⟩) n cap) n xs) (d : List α) (hd : d.length = n) (hm : m ≤ n) :
    (grow (putRow enc (Sort.ahead w q) g 0 d.toArray) os).ownsRow B e 1 (.slice (some ⟨g, 0, none⟩) m cap) m ((d.take m).map enc) := by
  rcases ho.2 with ⟨h, _⟩ | ⟨g', cap', cur, h1, h2, h3, h4, h5, h6, h7⟩
  · cases h
  · injection h1 with h1 _ hc
    injection h1 with h1
    injection h1 with h1
    subst h1; subst hc
    refine ⟨by rw [List.length_map, List.length_take]; omega, .inr ⟨g, cap, _, rfl, h2, heap_put _ h3, by omega, h5, by simp [putCells, h6], ?_⟩⟩
    have := take_put (enc := enc) cur d (by omega)
    rw [Nat.mul_one, List.map_take, ← this, List.take_take, Nat.min_eq_left (by omega)]
end
end Go.Vc
