/- Helper lemmas that the proved statement rests on; no conditions of their own. -/
import Derived.Test.YtennokckmjcefaaGreatDoorGNi2
set_option linter.unusedVariables false
set_option maxRecDepth 100000
namespace Go.Proofs.YtennokckmjcefaaGreatDoor
open Go.Shelf Go.RowKit Go.Pw Go.Vc Go.Cs Go.Lib Go.Cd Go.Mg
structure Sd (P : Nat) (s : Sgm) (n q : Nat) : Prop where
 b : Bd s n q q
 p : ∀ k d z, z ∈ pS s k d → z < (P : Int)
def WtS (P : Nat) : List Sgm → Nat → Nat → Prop
 | [], _, _ => True
 | s :: l, N, Q => ∃ n q m r, (n + m ≤ N ∧ q + r ≤ Q) ∧ Sd P s n q ∧ WtS P l m r
theorem Sd.mono {P : Nat} {s : Sgm} {n q n' q' : Nat} (h : Sd P s n q) (h1 : n ≤ n') (h2 : q ≤ q') : Sd P s n' q' := ⟨h.b.mono h1 h2 h2, h.p⟩
theorem Sd.two {P : Nat} {a b : Sgm} {n q n' q' : Nat} (h : Sd P a n q) (g : Sd P b n' q') (dl : List Int) : Sd P (twoS a b dl) (n + n') (q + q') :=
 ⟨zqQ h.b g.b dl, fun k d z hz => by
  rw [zmG] at hz
  split at hz
  ·cases hz
  ·rcases (zch (zgm a k d) (zgm b k d) z).1 hz with hz | hz
   ·exact h.p k d z hz
   ·exact g.p k d z hz⟩
theorem Sd.nil (P : Nat) : Sd P ⟨[], []⟩ 0 0 := ⟨zox 0 0 0, fun k d z hz => by rw [zra] at hz; cases hz⟩
theorem WtS.mono {P : Nat} : ∀ {l : List Sgm} {N N' Q Q' : Nat}, WtS P l N Q → N ≤ N' → Q ≤ Q' → WtS P l N' Q'
 | [], _, _, _, _, _, _, _ => trivial
 | s :: l, N, N', Q, Q', ⟨n, q, m, r, h1, h2, h3⟩, h, g => ⟨n, q, m, r, by omega, h2, h3⟩
theorem WtS.app {P : Nat} : ∀ {a b : List Sgm} {n m q r : Nat}, WtS P a n q → WtS P b m r → WtS P (a ++ b) (n + m) (q + r)
 | [], b, n, m, q, r, _, h => WtS.mono h (by omega) (by omega)
 | s :: a, b, n, m, q, r, ⟨n1, q1, m1, r1, h1, h2, h3⟩, h => ⟨n1, q1, m1 + m, r1 + r, by omega, h2, WtS.app h3 h⟩
theorem WtS.split {P : Nat} : ∀ {a b : List Sgm} {N Q : Nat}, WtS P (a ++ b) N Q → ∃ n m q r, (n + m ≤ N ∧ q + r ≤ Q) ∧ WtS P a n q ∧ WtS P b m r
 | [], b, N, Q, h => ⟨0, N, 0, Q, by omega, trivial, h⟩
 | s :: a, b, N, Q, ⟨n1, q1, m1, r1, h1, h2, h3⟩ => by
  obtain ⟨n, m, q, r, e, ha, hb⟩ := WtS.split h3
  exact ⟨n1 + n, m, q1 + q, r, by omega, ⟨n1, q1, n, q, ⟨Nat.le_refl _, Nat.le_refl _⟩, h2, ha⟩, hb⟩
theorem WtS.full {P : Nat} : ∀ {l : List Sgm} {N Q : Nat}, WtS P l N Q → WtS P (fullL l) N Q
 | [], _, _, _ => trivial
 | s :: l, N, Q, ⟨n, q, m, r, h1, h2, h3⟩ => by
  unfold fullL
  rw [List.filter_cons]
  split
  ·exact ⟨n, q, m, r, h1, h2, WtS.full h3⟩
  ·exact WtS.mono (WtS.full h3) (by omega) (by omega)
theorem WtS.mem {P : Nat} : ∀ {l : List Sgm} {N Q : Nat}, WtS P l N Q → ∀ s ∈ l, Sd P s N Q
 | [], _, _, _, s, hs => by cases hs
 | a :: l, N, Q, ⟨n, q, m, r, h1, h2, h3⟩, s, hs => by
  rcases List.mem_cons.1 hs with rfl | hs
  ·exact h2.mono (by omega) (by omega)
  ·exact (WtS.mem h3 s hs).mono (by omega) (by omega)
theorem WtS.docs {P : Nat} : ∀ {l : List Sgm} {N Q : Nat}, WtS P l N Q → docN l ≤ N
 | [], _, _, _ => Nat.zero_le _
 | a :: l, N, Q, ⟨n, q, m, r, h1, h2, h3⟩ => by
  rw [zdI]
  have := WtS.docs h3
  have := h2.b.d
  omega
theorem zlY {P : Nat} {x : Ix} {N Q i n : Nat} {s : Sgm} (h : WtS P x.segs N Q) (hs : ∀ m r, WtS P ((x.segs.drop i).take n) m r → WtS P [s] m r) : WtS P (replX x i n s).segs N Q := by
 have e : x.segs = x.segs.take i ++ ((x.segs.drop i).take n ++ x.segs.drop (i + n)) := by
  rw [show x.segs.drop (i + n) = (x.segs.drop i).drop n from by rw [List.drop_drop], List.take_append_drop, List.take_append_drop]
 rw [e] at h
 obtain ⟨n1, m1, q1, r1, e1, h1, h2⟩ := WtS.split h
 obtain ⟨n2, m2, q2, r2, e2, h3, h4⟩ := WtS.split h2
 unfold replX cleanX
 dsimp only
 have : WtS P (x.segs.take i ++ ([s] ++ x.segs.drop (i + n))) (n1 + (n2 + m2)) (q1 + (q2 + r2)) := WtS.app h1 (WtS.app (hs _ _ h3) h4)
 exact WtS.mono (WtS.full this) (by omega) (by omega)
theorem zqH {P : Nat} {x : Ix} {N Q i : Nat} (h : WtS P x.segs N Q) (hi : i < x.segs.length) (dl : List Int) : WtS P (replX x i 1 (twoS (x.segs.getD i ⟨[], []⟩) ⟨[], []⟩ dl)).segs N Q := by
 refine zlY h fun m r hm => ?_
 rw [List.drop_eq_getElem_cons hi, List.take_succ_cons] at hm
 obtain ⟨a, q, b, r2, h1, h2, _⟩ := hm
 rw [zcb hi]
 exact ⟨a, q, b, r2, h1, (h2.two (Sd.nil P) dl).mono (by omega) (by omega), trivial⟩
theorem zsM {P : Nat} {x : Ix} {N Q i : Nat} (h : WtS P x.segs N Q) (hi : i + 1 < x.segs.length) (dl : List Int) : WtS P (replX x i 2 (twoS (x.segs.getD i ⟨[], []⟩) (x.segs.getD (i + 1) ⟨[], []⟩) dl)).segs N Q := by
 refine zlY h fun m r hm => ?_
 rw [List.drop_eq_getElem_cons (by omega), List.take_succ_cons, List.drop_eq_getElem_cons hi, List.take_succ_cons] at hm
 obtain ⟨a, q, b, r2, h1, h2, c, q3, d, r3, h3, h4, _⟩ := hm
 rw [zcb hi, zcb (show i < x.segs.length by omega)]
 exact ⟨a + c, q + q3, d, r3, by omega, h2.two h4 dl, trivial⟩
theorem zsd {P : Nat} {x : Ix} {N Q : Nat} (h : WtS P x.segs N Q) (doc : Int) : WtS P (readX x doc).segs N Q := by
 unfold readX
 cases hf : findX x.segs doc with
 | none => exact h
 | some i => exact zqH h (zcT hf).1 _
theorem zoJ {P : Nat} {es : List Ent} (hk : Kept es) {L n : Nat} (hn : es.length ≤ n) (he : ∀ e ∈ es, e.text.length ≤ L) (hP : 2 * L + 1 ≤ P) (hL9 : L ≤ 1000000000) : Sd P (buildE es) n (n * (2 * L + 3)) := by
 have hB := zgM hk fun e h => by have := he e h; omega
 have hb := zpn hB hk hn (m := 2 * L + 1) fun e h => by have := he e h; omega
 refine ⟨hb.mono (Nat.le_refl _) (Nat.mul_le_mul_left _ (by omega)) (Nat.le_refl _), fun k d z hz => ?_⟩
 have hz2 : z ∈ placesE es k d := by
  unfold pS at hz
  rwa [zbr hB.right, hB.posts] at hz
 obtain ⟨e, hem, _, _, e3, _⟩ := zbj hk k d (List.ne_nil_of_mem hz2)
 rw [e3] at hz2
 obtain ⟨j, hj, e4, _⟩ := (ziZ k.2 0 (wordsOf e.text) z).1 hz2
 have h1 := zbg e.text
 have h2 := he e hem
 omega
theorem zpE {doc : Int} {tx : List (List UInt8)} {L : Nat} (ht : ∀ t ∈ tx, t.length ≤ L) : ∀ e ∈ entsX doc tx, e.text.length ≤ L := by
 have hg : ∀ i, (tx.getD i []).length ≤ L := fun i => by
  rw [List.getD_eq_getElem?_getD]
  cases hq : tx[i]? with
  | none => exact Nat.zero_le _
  | some t => exact ht t (List.mem_of_getElem? hq)
 intro e he
 unfold entsX at he
 simp only [List.mem_cons, List.not_mem_nil, or_false] at he
 rcases he with rfl | rfl | rfl | rfl | rfl <;> exact hg _
theorem zsL {P : Nat} {x : Ix} {N Q : Nat} (h : WtS P x.segs N Q) {doc : Int} {tx : List (List UInt8)} {L : Nat} (ht : ∀ t ∈ tx, t.length ≤ L) (hL : 2 * L + 1 ≤ P) (hL9 : L ≤ 1000000000) : WtS P (addX x doc tx).2.segs (N + 5) (Q + 5 * (2 * L + 3)) := by
 unfold addX
 split
 ·exact WtS.mono h (by omega) (by omega)
 split
 ·exact WtS.mono h (by omega) (by omega)
 ·rename_i h1 h2
  have hk := (zdu (by omega) (by omega) (doc := doc) tx).2
  exact WtS.app (zsd h doc) ⟨5, 5 * (2 * L + 3), 0, 0, ⟨Nat.le_refl _, Nat.le_refl _⟩, zoJ hk (Nat.le_refl _) (zpE ht) hL hL9, trivial⟩
theorem zrx {P : Nat} {x : Ix} {N Q : Nat} (h : WtS P x.segs N Q) (doc : Int) : WtS P (dropX x doc).2.segs N Q := by
 unfold dropX
 split <;> exact h
theorem zrR {P : Nat} {x : Ix} {N Q : Nat} (h : WtS P x.segs N Q) : WtS P (stepX x).2.segs N Q := by
 unfold stepX
 cases hp : pickL (x.segs.map fun s => (s.docs.length : Int)) with
 | some i =>
  have hi := zdn hp
  rw [List.length_map] at hi
  exact zsM h hi _
 | none =>
  dsimp only
  cases hf : x.segs.findIdx? (dueX x) with
  | some i => exact zqH h (List.findIdx?_eq_some_iff_getElem.1 hf).1 _
  | none => exact h
theorem zoj : ∀ (l : List Int) (a b : Int), AscB ltI l → (∀ z ∈ l, a ≤ z ∧ z < b) → (l.length : Int) ≤ max 0 (b - a)
 | [], a, b, _, _ => by simp only [List.length_nil]; omega
 | n :: l, a, b, h, g => by
  unfold AscB at h
  obtain ⟨h1, h2⟩ := List.pairwise_cons.1 h
  have := g n List.mem_cons_self
  have ih := zoj l (n + 1) b h2 fun z hz => ⟨by have := of_decide_eq_true (h1 z hz); omega, (g z (List.mem_cons_of_mem _ hz)).2⟩
  rw [List.length_cons]; omega
theorem zrH {P N : Nat} {l : List Pst} (h : rightP l = true) {ds : List Int} (hd : ∀ p ∈ l, p.doc ∈ ds) (hn : ds.length ≤ N) (hp : ∀ d z, z ∈ atD l d → z < (P : Int)) : l.length ≤ N ∧ ∀ p ∈ l, p.places.length ≤ P := by
 obtain ⟨h1, h2⟩ := zaz.1 h
 constructor
 ·have := zaX (l.map (·.doc)) ds (List.pairwise_map.2 (h1.imp fun h => by omega)) fun d hdm => by
   obtain ⟨p, hp, rfl⟩ := List.mem_map.1 hdm
   exact hd p hp
  rw [List.length_map] at this; omega
 ·intro p hpm
  obtain ⟨_, _, _, r4, r5⟩ := h2 p hpm
  have hat := zcG h1 hpm
  have := zoj p.places 0 P r4 fun z hz => ⟨(r5 z hz).1, hp p.doc z (by rw [hat]; exact hz)⟩
  omega
theorem pX_lt {P N Q : Nat} {x : Ix} (h : WtS P x.segs N Q) {k : Ky} {d z : Int} (hz : z ∈ pX x k d) : z < (P : Int) := by
 have : ∀ l : List Sgm, (∀ s ∈ l, ∀ k d z, z ∈ pS s k d → z < (P : Int)) → z ∈ pL l k d → z < (P : Int) := by
  intro l
  induction l with
  | nil => intro _ h; cases h
  | cons s l ih =>
   intro hs h
   rcases (zch (zgm s k d) (zjV l k d) z).1 h with h | h
   ·exact hs s List.mem_cons_self k d z h
   ·exact ih (fun t ht => hs t (List.mem_cons_of_mem _ ht)) h
 unfold pX at hz
 split at hz
 ·cases hz
 ·exact this x.segs (fun s hs => (h.mem s hs).p) hz
theorem zrf {l : List Pst} (h : rightP l = true) {p : Pst} (hp : p ∈ l) : ∃ z, z ∈ atD l p.doc := (zdp h p.doc).1 (List.mem_map.2 ⟨p, hp, rfl⟩)
theorem znP {P N Q : Nat} {x : Ix} (hx : IxOk x) (h : WtS P x.segs N Q) (f : Int) (q : List UInt8 → Bool) : (lookX x f q).length ≤ N ∧ ∀ p ∈ lookX x f q, p.places.length ≤ P := by
 obtain ⟨r1, s1⟩ := zbk x f q
 have h3 := zhU hx
 have h2 := h.docs
 refine zrH r1 (ds := docsX x) (fun p hp => ?_) (by omega) fun d z hz => ?_
 ·obtain ⟨z, hz⟩ := zrf r1 hp
  obtain ⟨k, _, hz⟩ := (s1 _ _).1 hz
  exact (zeW x _).2 (zjv hx hz)
 ·obtain ⟨k, _, hz⟩ := (s1 _ _).1 hz
  exact pX_lt h hz
theorem zin {x : Ix} (hx : IxOk x) : x.segs.length ≤ docN x.segs := by
 have : ∀ l : List Sgm, (∀ s ∈ l, s.docs ≠ []) → l.length ≤ docN l := by
  intro l
  induction l with
  | nil => intro _; exact Nat.le_refl _
  | cons s l ih =>
   intro h
   have h1 := ih fun t ht => h t (List.mem_cons_of_mem _ ht)
   have h2 := List.length_pos_iff.2 (h s List.mem_cons_self)
   rw [zdI, List.length_cons]; omega
 exact this x.segs hx.ne
theorem zqX {P N Q : Nat} {x : Ix} (hx : IxOk x) (h : WtS P x.segs N Q) : x.segs.length ≤ N ∧ x.dead.length ≤ N ∧ sizeX x ≤ 2 * N ∧ (docsX x).length ≤ N := by
 have h1 := zin hx
 have h2 := h.docs
 have h3 := zhU hx
 unfold sizeX
 omega
def toN (l : List Int) : List Nat := l.map Int.toNat
theorem zof {l : List Int} (h : ∀ n ∈ l, 0 ≤ n) : iL (toN l) = l := by
 unfold iL toN
 rw [List.map_map]
 conv => rhs; rw [← List.map_id l]
 refine List.map_congr_left fun n hn => ?_
 have := h n hn
 show ((n.toNat : Nat) : Int) = n
 omega
theorem zjS : ∀ (l : List Nat) (r : List UInt8), (∀ n ∈ l, n < 2 ^ 63) → numsG l.length (some (l.flatMap numE ++ r)) = (l, some r)
 | [], r, _ => rfl
 | n :: l, r, h => by
  rw [List.flatMap_cons, List.append_assoc, List.length_cons]
  unfold numsG
  rw [zbA (h n List.mem_cons_self)]
  simp only [zjS l r fun x hx => h x (List.mem_cons_of_mem _ hx)]
theorem zdX (l : List Nat) : l.length ≤ (l.flatMap numE).length := by
 induction l with
 | nil => simp
 | cons n l ih => have := zca n; rw [List.flatMap_cons, List.length_append, List.length_cons]; omega
theorem zkv (l : List Nat) (r : List UInt8) (h : ∀ n ∈ l, n < 2 ^ 63) (hl : l.length < 2 ^ 63) : numsR (some (numsE l ++ r)) = (l, some r) := by
 unfold numsR numsE
 rw [List.append_assoc, zbA hl]
 dsimp only
 have := zdX l
 rw [if_neg (by rw [List.length_append]; omega), zjS l r h]
def takeR (n : Nat) : St → List UInt8 × St
 | none => ([], none)
 | some u => if n ≤ u.length then (u.take n, some (u.drop n)) else ([], none)
def textR (s : St) : List UInt8 × St := takeR (numR s).1 (numR s).2
def textE (u : List UInt8) : List UInt8 := numE u.length ++ u
theorem zfN {u : List UInt8} (h : u.length < 2 ^ 63) (r : List UInt8) : textR (some (textE u ++ r)) = (u, some r) := by
 unfold textR textE
 rw [List.append_assoc, zbA h]
 unfold takeR
 dsimp only
 rw [if_pos (by rw [List.length_append]; omega), List.take_left, List.drop_left]
theorem zcz (u : List UInt8) : 0 < (textE u).length ∧ u.length < (textE u).length := by
 have := zca u.length
 unfold textE
 rw [List.length_append]; omega
def termE (t : Trm) : List UInt8 := numE t.field.toNat ++ (textE t.word ++ textE t.list)
def termR (s : St) : Trm × St := (⟨((numR s).1 : Nat), (textR (numR s).2).1, (textR (textR (numR s).2).2).1⟩, (textR (textR (numR s).2).2).2)
theorem zou {t : Trm} (hf : 0 ≤ t.field ∧ t.field < 2 ^ 63) (hw : t.word.length < 2 ^ 63) (hl : t.list.length < 2 ^ 63) (r : List UInt8) : termR (some (termE t ++ r)) = (t, some r) := by
 unfold termR termE
 rw [List.append_assoc, List.append_assoc, zbA (by omega)]
 dsimp only
 rw [zfN hw]
 dsimp only
 rw [zfN hl, Int.toNat_of_nonneg hf.1]
def termsR : Nat → St → List Trm × St
 | 0, s => ([], s)
 | n + 1, s => if stL s = 0 then ([], s) else ((termR s).1 :: (termsR n (termR s).2).1, (termsR n (termR s).2).2)
theorem zeZ (t : Trm) : 0 < (termE t).length := by
 have := zca t.field.toNat
 unfold termE
 rw [List.length_append]; omega
theorem zgB : ∀ (l : List Trm) (r : List UInt8), (∀ t ∈ l, (0 ≤ t.field ∧ t.field < 2 ^ 63) ∧ t.word.length < 2 ^ 63 ∧ t.list.length < 2 ^ 63) → termsR l.length (some (l.flatMap termE ++ r)) = (l, some r)
 | [], r, _ => rfl
 | t :: l, r, h => by
  obtain ⟨h1, h2, h3⟩ := h t List.mem_cons_self
  have := zeZ t
  rw [List.flatMap_cons, List.append_assoc, List.length_cons]
  unfold termsR
  rw [if_neg (by show (termE t ++ (l.flatMap termE ++ r)).length ≠ 0; rw [List.length_append]; omega), zou h1 h2 h3, zgB l r fun x hx => h x (List.mem_cons_of_mem _ hx)]
def serS (s : Sgm) : List UInt8 := if rightS s = true then numsE (toN s.docs) ++ (numE s.terms.length ++ s.terms.flatMap termE) else []
def parS (b : List UInt8) : Sgm × St := (⟨(termsR (numR (numsR (some b)).2).1 (numR (numsR (some b)).2).2).1, iL (numsR (some b)).1⟩, (termsR (numR (numsR (some b)).2).1 (numR (numsR (some b)).2).2).2)
def readS (b : List UInt8) : Option Sgm := if (parS b).2 = some [] ∧ rightS (parS b).1 = true ∧ serS (parS b).1 = b then some (parS b).1 else none
theorem zbZ {α : Type} (f : α → List UInt8) : ∀ (l : List α), ∀ x ∈ l, (f x).length ≤ (l.flatMap f).length
 | [], x, h => by cases h
 | a :: l, x, h => by
  rw [List.flatMap_cons, List.length_append]
  rcases List.mem_cons.1 h with rfl | h
  ·omega
  ·have := zbZ f l x h; omega
theorem zeG {α : Type} (f : α → List UInt8) (hf : ∀ x, 0 < (f x).length) : ∀ (l : List α), l.length ≤ (l.flatMap f).length
 | [] => Nat.zero_le _
 | a :: l => by
  have := zeG f hf l
  have := hf a
  rw [List.flatMap_cons, List.length_append, List.length_cons]; omega
theorem znb {s : Sgm} (h : rightS s = true) (hb : (serS s).length < 2 ^ 63) : (toN s.docs).length < 2 ^ 63 ∧ s.terms.length < 2 ^ 63 ∧ (∀ n ∈ toN s.docs, n < 2 ^ 63) ∧ ∀ t ∈ s.terms, (0 ≤ t.field ∧ t.field < 2 ^ 63) ∧ t.word.length < 2 ^ 63 ∧ t.list.length < 2 ^ 63 := by
 obtain ⟨⟨_, hd⟩, ht, _⟩ := zam.1 h
 unfold serS at hb
 rw [if_pos h] at hb
 unfold numsE at hb
 simp only [List.length_append] at hb
 have h1 := zdX (toN s.docs)
 have h2 := zeG termE zeZ s.terms
 refine ⟨by omega, by omega, fun n hn => ?_, fun t htm => ?_⟩
 ·unfold toN at hn
  obtain ⟨d, hdm, rfl⟩ := List.mem_map.1 hn
  have := hd d hdm
  omega
 ·have h3 := zbZ termE s.terms t htm
  have hk := ht t htm
  unfold okTerm at hk
  simp only [Bool.and_eq_true, decide_eq_true_eq] at hk
  have h4 : (termE t).length = (numE t.field.toNat).length + ((textE t.word).length + (textE t.list).length) := by unfold termE; rw [List.length_append, List.length_append]
  have h5 := zcz t.word
  have h6 := zcz t.list
  exact ⟨⟨by omega, by omega⟩, by omega, by omega⟩
theorem zkl {s : Sgm} (h : rightS s = true) : iL (toN s.docs) = s.docs := zof fun n hn => by have := (zam.1 h).1.2 n hn; omega
theorem zry {s : Sgm} (h : rightS s = true) (hb : (serS s).length < 2 ^ 63) : parS (serS s) = (s, some []) ∧ (numR (numsR (some (serS s))).2).1 = s.terms.length := by
 obtain ⟨h1, h2, h3, h4⟩ := znb h hb
 have e1 : numsR (some (serS s)) = (toN s.docs, some (numE s.terms.length ++ s.terms.flatMap termE)) := by
  unfold serS
  rw [if_pos h]
  exact zkv _ _ h3 h1
 have e2 : numR (some (numE s.terms.length ++ s.terms.flatMap termE)) = (s.terms.length, some (s.terms.flatMap termE)) := zbA h2 _
 have e3 := zgB s.terms [] h4
 rw [List.append_nil] at e3
 constructor
 ·unfold parS
  rw [e1]
  dsimp only
  rw [e2]
  dsimp only
  rw [e3, zkl h]
 ·rw [e1]
  dsimp only
  rw [e2]
theorem zhJ {b : List UInt8} (hb : b.length < 2 ^ 63) {s : Sgm} : readS b = some s ↔ rightS s = true ∧ serS s = b := by
 unfold readS
 constructor
 ·intro h
  split at h
  ·rename_i hc
   injection h with h
   rw [← h]; exact ⟨hc.2.1, hc.2.2⟩
  ·cases h
 ·rintro ⟨h1, rfl⟩
  rw [(zry h1 hb).1, if_pos ⟨rfl, h1, rfl⟩]
theorem zpc (u : List UInt8) (k : Nat) : (str u).extract 0 k = str (u.take k) := by
 apply ByteArray.ext
 simp [str]
theorem zhh (u v : List UInt8) : str u ++ str v = str (u ++ v) := by
 apply ByteArray.ext
 simp [str]
section
variable {w : World} {b : Nat}
theorem zsz (s : St) (n : Nat) (h : VarK w b 139 (rdC s)) (hn : n < 2 ^ 63) (hs : ∀ u, s = some u → u.length ≤ 140737488355328) :
  Calls Tryz.prog 117 #[.pointer (some ⟨b, 0, none⟩), .int .i64 (n : Nat)] w fun e w' => e = .returned (.string (str (takeR n s).1)) ∧ VarK w' b 139 (rdC (takeR n s).2) ∧ Kp w w' (one_ b) := by
 have qw := Kp.refl w n_
 cases s with
 | none =>
  have h0 := h
  unfold rdC at h
  have ha := h.at
  refine zaa (args := [.pointer (some ⟨b, 0, none⟩), .int .i64 (n : Nat)]) Tryz.func117 rfl NL ?_; refine GW ?_
  have hz : (⟨#[]⟩ : ByteArray).size = 0 := rfl
  by_cases hn0 : n = 0
  ·subst hn0
   refine KGO ?_
   refine CallS.of (Tryz.call115 _ _) (zbo none h0) ?_
   rintro e w1 ⟨rfl, h1, k1⟩
   refine RT ?_
   refine KGO ?_
   exact ⟨rfl, h1, k1⟩
  ·refine KGO ?_
   refine CallS.of (Tryz.call115 _ _) (zbo none h0) ?_
   rintro e w1 ⟨rfl, h1, k1⟩
   refine RT ?_
   refine KGO ?_
   exact ⟨rfl, h1, k1⟩
 | some u =>
  have h0 := h
  have hu := hs u rfl
  unfold rdC at h
  dsimp only at h
  have ha := h.at
  have hz : (str u).size = u.length := rfl
  refine zaa (args := [.pointer (some ⟨b, 0, none⟩), .int .i64 (n : Nat)]) Tryz.func117 rfl NL ?_; refine GW ?_
  by_cases hle : n ≤ u.length
  ·have e : takeR n (some u) = (u.take n, some (u.drop n)) := if_pos hle
   rw [e]
   refine KGO ?_
   rw [zpc]
   refine KGO ?_
   rw [hz, zbp]
   refine Store.cellK (i := 0) h (by simp) (by rfl) ⟨rfl, by simp, by simp⟩ fun w1 v1 k1 => ?_
   refine KGO ?_
   exact ⟨rfl, v1, k1⟩
  ·have e : takeR n (some u) = ([], none) := if_neg hle
   rw [e]
   refine KGO ?_
   refine CallS.of (Tryz.call115 _ _) (zbo (some u) h0) ?_
   rintro e w1 ⟨rfl, h1, k1⟩
   refine RT ?_
   refine KGO ?_
   exact ⟨rfl, h1, k1⟩
theorem zoB (n : Nat) (s : St) : (takeR n s).1.length ≤ stL s ∧ stL (takeR n s).2 ≤ stL s := by
 cases s with
 | none => exact ⟨Nat.zero_le _, Nat.le_refl _⟩
 | some u =>
  unfold takeR
  dsimp only
  split
  ·simp only [stL, List.length_take, List.length_drop]; omega
  ·exact ⟨Nat.zero_le _, Nat.zero_le _⟩
theorem zpo (s : St) : (textR s).1.length ≤ stL s ∧ stL (textR s).2 ≤ stL s := by
 have h1 := zoB (numR s).1 (numR s).2
 have h2 := zcA s
 unfold textR
 omega
theorem zgZ (s : St) (h : VarK w b 139 (rdC s)) (hs : ∀ u, s = some u → u.length ≤ 140737488355328) :
  Calls Tryz.prog 54 #[.pointer (some ⟨b, 0, none⟩)] w fun e w' => e = .returned (.string (str (textR s).1)) ∧ VarK w' b 139 (rdC (textR s).2) ∧ Kp w w' (one_ b) := by
 refine zaa (args := [.pointer (some ⟨b, 0, none⟩)]) Tryz.func54 rfl NL ?_; refine GW ?_
 refine CallS.of (Tryz.call51 _ _) (zcj s h hs) ?_
 rintro e w1 ⟨rfl, h1, k1⟩
 refine RT ?_
 have hu : ∀ u, (numR s).2 = some u → u.length ≤ 140737488355328 := fun u e => by
  have h3 := zcA s
  rw [e] at h3
  cases s with
  | none => simp only [stL] at h3; omega
  | some v => have := hs v rfl; simp only [stL] at *; omega
 refine CallS.of (Tryz.call117 _ _) (zsz (numR s).2 (numR s).1 h1 (zcg s) hu) ?_
 rintro e w2 ⟨rfl, h2, k2⟩
 refine RT ?_
 exact ⟨rfl, h2, k1.trans' k2⟩
theorem zgW (u : List UInt8) (hu : u.length ≤ 1000000000000) : Calls Tryz.prog 68 #[.string (str u)] w fun e w' => e = .returned (.string (str (textE u))) ∧ Kp w w' n_ := by
 have hz : (str u).size = u.length := rfl
 have hl := zaC (n := u.length) (by omega)
 have hz2 : (str (numE u.length)).size = (numE u.length).length := rfl
 refine zaa (args := [.string (str u)]) Tryz.func68 rfl NL ?_; refine GW ?_
 rw [hz]
 refine CallS.of (Tryz.call67 _ _) (zft (w := w) u.length (by omega)) ?_
 rintro e w1 ⟨rfl, k1⟩
 refine RT ?_
 refine RunV.cat (by omega) ?_
 rw [zhh]
 refine KGO ?_
 exact ⟨rfl, k1⟩
end
def segE (s : Sgm) : List UInt8 := textE (serS s)
def segsR : Nat → St → Option (List Sgm) × St
 | 0, s => (some [], s)
 | n + 1, s => if stL s = 0 then (some [], s) else match readS (textR s).1 with
  | none => (none, (textR s).2)
  | some g => ((segsR n (textR s).2).1.map (g :: ·), (segsR n (textR s).2).2)
def serX (x : Ix) : List UInt8 := numE x.segs.length ++ (x.segs.flatMap segE ++ numsE (toN x.dead))
def parX (b : List UInt8) : Option Ix := match (segsR (numR (some b)).1 (numR (some b)).2).1 with
 | none => none
 | some l => if (numsR (segsR (numR (some b)).1 (numR (some b)).2).2).2 = some [] then some ⟨l, iL (numsR (segsR (numR (some b)).1 (numR (some b)).2).2).1⟩ else none
def validB (x : Ix) : Bool := decide ((x.segs.flatMap fun s => s.docs).Nodup) && x.segs.all (fun s => !s.docs.isEmpty) && x.dead.all (fun d => decide (d ∈ x.segs.flatMap fun s => s.docs)) && decide (x.dead.Pairwise fun a b => a < b)
def readIx (b : List UInt8) : Option Ix := match parX b with
 | none => none
 | some x => if validB x = true ∧ serX x = b then some x else none
theorem zgs {x : Ix} (hr : ∀ s ∈ x.segs, rightS s = true) : validB x = true ↔ IxOk x := by
 unfold validB
 simp only [Bool.and_eq_true, decide_eq_true_eq, List.all_eq_true, Bool.not_eq_true', List.isEmpty_eq_false_iff]
 constructor
 ·rintro ⟨⟨⟨h1, h2⟩, h3⟩, h4⟩
  refine ⟨hr, h2, ?_, h4.imp fun h => decide_eq_true h, fun d hd => zeE.1 (h3 d hd)⟩
  have := (List.pairwise_flatMap.1 h1).2
  exact this.imp fun h d hd hd2 => h d hd d hd2 rfl
 ·intro h
  exact ⟨⟨⟨zgG hr h.dj, h.ne⟩, fun d hd => zeE.2 (h.di d hd)⟩, by have := h.da; unfold AscB at this; exact this.imp fun h => of_decide_eq_true h⟩
theorem zkZ (s : Sgm) : 0 < (segE s).length := (zcz _).1
theorem zif : ∀ (l : List Sgm) (r : List UInt8), (∀ s ∈ l, rightS s = true ∧ (serS s).length < 2 ^ 63) → segsR l.length (some (l.flatMap segE ++ r)) = (some l, some r)
 | [], r, _ => rfl
 | s :: l, r, h => by
  obtain ⟨h1, h2⟩ := h s List.mem_cons_self
  have hp := zkZ s
  rw [List.flatMap_cons, List.append_assoc, List.length_cons]
  unfold segsR
  rw [if_neg (by show (segE s ++ (l.flatMap segE ++ r)).length ≠ 0; rw [List.length_append]; omega)]
  unfold segE at hp ⊢
  rw [zfN h2]
  dsimp only
  rw [(zhJ h2).2 ⟨h1, rfl⟩]
  have := zif l r fun x hx => h x (List.mem_cons_of_mem _ hx)
  unfold segE at this
  dsimp only
  rw [this]; rfl
theorem ziW {b : List UInt8} {s : Sgm} (h : readS b = some s) : rightS s = true := by
 unfold readS at h
 split at h
 ·rename_i hc
  injection h with h
  rw [← h]; exact hc.2.1
 ·cases h
theorem zfg : ∀ (n : Nat) (s : St) (l : List Sgm), (segsR n s).1 = some l → ∀ g ∈ l, rightS g = true
 | 0, s, l, h, g, hg => by
  injection h with h
  subst h; cases hg
 | n + 1, s, l, h, g, hg => by
  unfold segsR at h
  split at h
  ·injection h with h
   subst h; cases hg
  ·cases hq : readS (textR s).1 with
   | none => rw [hq] at h; cases h
   | some a =>
    rw [hq] at h
    dsimp only at h
    cases hr : (segsR n (textR s).2).1 with
    | none => rw [hr] at h; cases h
    | some m =>
     rw [hr] at h
     injection h with h
     subst h
     rcases List.mem_cons.1 hg with rfl | hg
     ·exact ziW hq
     ·exact zfg n _ m hr g hg
theorem zlS {b : List UInt8} {x : Ix} (h : parX b = some x) : ∀ s ∈ x.segs, rightS s = true := by
 unfold parX at h
 split at h
 ·cases h
 ·rename_i l hl
  split at h
  ·injection h with h
   subst h
   exact zfg _ _ l hl
  ·cases h
theorem zgJ {x : Ix} (hx : IxOk x) : ∀ d ∈ x.dead, 1 ≤ d ∧ d ≤ 1099511627776 := fun d hd => by
 obtain ⟨s, hs, h⟩ := hx.di d hd
 exact (zam.1 (hx.rt s hs)).1.2 d h
theorem zqo {x : Ix} (hx : IxOk x) (hb : (serX x).length < 2 ^ 63) : parX (serX x) = some x := by
 have hl : (numE x.segs.length).length + ((x.segs.flatMap segE).length + (numsE (toN x.dead)).length) < 2 ^ 63 := by
  unfold serX at hb
  rw [List.length_append, List.length_append] at hb; exact hb
 have h1 := zeG segE zkZ x.segs
 have h2 : (toN x.dead).length ≤ (numsE (toN x.dead)).length := by
  have := zdX (toN x.dead)
  unfold numsE
  rw [List.length_append]; omega
 have e1 : numR (some (serX x)) = (x.segs.length, some (x.segs.flatMap segE ++ numsE (toN x.dead))) := zbA (by omega) _
 have e2 := zif x.segs (numsE (toN x.dead)) fun s hs => ⟨hx.rt s hs, by
  have h3 := zbZ segE x.segs s hs
  have h4 := (zcz (serS s)).2
  unfold segE at h3
  unfold segE at hl
  omega⟩
 have hd := zgJ hx
 have e3 := zkv (toN x.dead) [] (fun n hn => by
  unfold toN at hn
  obtain ⟨d, hdm, rfl⟩ := List.mem_map.1 hn
  have := hd d hdm
  omega) (by omega)
 rw [List.append_nil] at e3
 unfold parX
 rw [e1]
 dsimp only
 rw [e2]
 dsimp only
 rw [e3]
 dsimp only
 rw [if_pos rfl, zof fun n hn => by have := hd n hn; omega]
theorem zlT {b : List UInt8} (hb : b.length < 2 ^ 63) {x : Ix} : readIx b = some x ↔ IxOk x ∧ serX x = b := by
 unfold readIx
 constructor
 ·intro h
  cases hp : parX b with
  | none => rw [hp] at h; cases h
  | some y =>
   rw [hp] at h
   dsimp only at h
   split at h
   ·rename_i hc
    injection h with h
    subst h
    exact ⟨(zgs (zlS hp)).1 hc.1, hc.2⟩
   ·cases h
 ·rintro ⟨h1, rfl⟩
  rw [zqo h1 hb]
  dsimp only
  rw [if_pos ⟨(zgs h1.rt).2 h1, rfl⟩]
theorem zqc {x : Ix} (hx : IxOk x) (hb : (serX x).length < 2 ^ 63) : readIx (serX x) = some x := (zlT hb).2 ⟨hx, rfl⟩
def zT (t : Trm) : Nat := cntP (plT t) + 1
def zS (s : Sgm) : Nat := (s.terms.map zT).sum
def zX (l : List Sgm) : Nat := (l.map zS).sum
theorem zcJ (s : Sgm) (l : List Sgm) : zX (s :: l) = zS s + zX l := by unfold zX; rw [List.map_cons, List.sum_cons]
theorem zjK (a b : List Sgm) : zX (a ++ b) = zX a + zX b := by unfold zX; rw [List.map_append, List.sum_append]
theorem znI : ∀ l : List Sgm, zX (fullL l) ≤ zX l
 | [] => Nat.le_refl _
 | s :: l => by
  have ih := znI l
  unfold fullL at ih ⊢
  rw [List.filter_cons]
  split
  ·rw [zcJ, zcJ]; omega
  ·rw [zcJ]; omega
theorem znA (s : Sgm) : zS (validS s) ≤ zS s := by
 unfold validS
 split
 ·exact Nat.le_refl _
 ·exact Nat.zero_le _
theorem zsW {dl : List Int} {x : Trm × List Pst} {t : Trm} (h : termOf dl x = some t) : zT t ≤ cntP x.2 + 1 := by
 unfold termOf at h
 split at h
 ·cases h
 ·injection h with h
  subst h
  have h1 := zjz x.1.field x.1.word (liveP dl x.2)
  have h2 := zdc (fun p => !decide (p.doc ∈ dl)) x.2
  unfold zT
  unfold liveP at h1 ⊢
  omega
theorem z_fm (dl : List Int) : ∀ l : List (Trm × List Pst), ((l.filterMap (termOf dl)).map zT).sum ≤ (l.map fun x => cntP x.2 + 1).sum
 | [] => Nat.le_refl _
 | x :: l => by
  have ih := z_fm dl l
  rw [List.filterMap_cons, List.map_cons, List.sum_cons]
  cases h : termOf dl x with
  | none => dsimp only; omega
  | some t =>
   have := zsW h
   dsimp only
   rw [List.map_cons, List.sum_cons]; omega
theorem zrY : ∀ (n : Nat) (a b : List Trm), a.length + b.length ≤ n → ((mergeT a b).map fun x => cntP x.2 + 1).sum ≤ (a.map zT).sum + (b.map zT).sum := by
 intro n
 induction n with
 | zero =>
  intro a b h
  obtain rfl : a = [] := List.eq_nil_of_length_eq_zero (by omega)
  obtain rfl : b = [] := List.eq_nil_of_length_eq_zero (by omega)
  rw [zcw]; exact Nat.le_refl _
 | succ n ih =>
  intro a b h
  cases a with
  | nil =>
   cases b with
   | nil => rw [zcw]; exact Nat.le_refl _
   | cons y b =>
    have := ih [] b (by simp only [List.length_nil, List.length_cons] at h ⊢; omega)
    rw [zcx, zeg]
    simp only [List.map_cons, List.sum_cons, List.map_nil, List.sum_nil] at this ⊢
    unfold zT at this ⊢
    omega
  | cons x a =>
   cases b with
   | nil =>
    have := ih a [] (by simp only [List.length_nil, List.length_cons] at h ⊢; omega)
    rw [zbX, zei]
    simp only [List.map_cons, List.sum_cons, List.map_nil, List.sum_nil] at this ⊢
    unfold zT at this ⊢
    omega
   | cons y b =>
    simp only [List.length_cons] at h
    have h1 := ih a (y :: b) (by simp only [List.length_cons]; omega)
    have h2 := ih a b (by omega)
    have h3 := ih (x :: a) b (by simp only [List.length_cons]; omega)
    have h4 := zer _ (plT x) (plT y) (Nat.le_refl _)
    rw [zbU, zei, zeg]
    simp only [List.map_cons, List.sum_cons] at h1 h2 h3 ⊢
    unfold zT at h1 h2 h3 ⊢
    split
    ·rw [List.map_cons, List.sum_cons]; dsimp only; omega
    ·split
     ·rw [List.map_cons, List.sum_cons]; dsimp only; omega
     ·rw [List.map_cons, List.sum_cons]; dsimp only; omega
theorem z_two (a b : Sgm) (dl : List Int) : zS (twoS a b dl) ≤ zS a + zS b := by
 have h1 := z_fm dl (mergeT (validS a).terms (validS b).terms)
 have h2 := zrY _ (validS a).terms (validS b).terms (Nat.le_refl _)
 have h3 := znA a
 have h4 := znA b
 unfold twoS
 unfold zS at h3 h4 ⊢
 dsimp only
 omega
theorem z_nil : zS ⟨[], []⟩ = 0 := rfl
theorem zqJ (x : Ix) (i n : Nat) (s : Sgm) (h : zS s ≤ zX ((x.segs.drop i).take n)) : zX (replX x i n s).segs ≤ zX x.segs := by
 have e : x.segs = x.segs.take i ++ ((x.segs.drop i).take n ++ x.segs.drop (i + n)) := by
  rw [show x.segs.drop (i + n) = (x.segs.drop i).drop n from by rw [List.drop_drop], List.take_append_drop, List.take_append_drop]
 have h1 := znI (x.segs.take i ++ s :: x.segs.drop (i + n))
 have h2 : zX x.segs = zX (x.segs.take i) + (zX ((x.segs.drop i).take n) + zX (x.segs.drop (i + n))) := by rw [← zjK, ← zjK, ← e]
 rw [zjK, zcJ] at h1
 show zX (fullL (x.segs.take i ++ s :: x.segs.drop (i + n))) ≤ _
 omega
theorem z_one (x : Ix) {i : Nat} (hi : i < x.segs.length) (dl : List Int) : zX (replX x i 1 (twoS (x.segs.getD i ⟨[], []⟩) ⟨[], []⟩ dl)).segs ≤ zX x.segs := by
 refine zqJ x i 1 _ ?_
 have h := z_two (x.segs.getD i ⟨[], []⟩) ⟨[], []⟩ dl
 rw [zcb hi] at h ⊢
 have e : (x.segs.drop i).take 1 = [x.segs[i]] := by rw [List.drop_eq_getElem_cons hi]; rfl
 rw [e, zcJ]
 rw [z_nil] at h
 omega
theorem zta (x : Ix) {i : Nat} (hi : i + 1 < x.segs.length) (dl : List Int) : zX (replX x i 2 (twoS (x.segs.getD i ⟨[], []⟩) (x.segs.getD (i + 1) ⟨[], []⟩) dl)).segs ≤ zX x.segs := by
 refine zqJ x i 2 _ ?_
 have h := z_two (x.segs.getD i ⟨[], []⟩) (x.segs.getD (i + 1) ⟨[], []⟩) dl
 rw [zcb (by omega : i < x.segs.length), zcb hi] at h ⊢
 have e : (x.segs.drop i).take 2 = [x.segs[i], x.segs[i + 1]] := by rw [List.drop_eq_getElem_cons (by omega : i < x.segs.length), List.drop_eq_getElem_cons hi]; rfl
 rw [e, zcJ, zcJ]
 omega
theorem ztn (x : Ix) (doc : Int) : zX (readX x doc).segs ≤ zX x.segs := by
 unfold readX
 split
 ·rename_i i h
  obtain ⟨hi, _⟩ := zcT h
  exact z_one x hi _
 ·exact Nat.le_refl _
theorem zth (x : Ix) : zX (stepX x).2.segs ≤ zX x.segs := by
 unfold stepX
 split
 ·rename_i i h
  have := zdn h
  rw [List.length_map] at this
  exact zta x this _
 ·split
  ·rename_i i h
   exact z_one x (List.findIdx?_eq_some_iff_getElem.1 h).1 _
  ·exact Nat.le_refl _
theorem zsF (x : Ix) (doc : Int) : zX (dropX x doc).2.segs = zX x.segs := by
 unfold dropX
 split <;> rfl
theorem ziA {α : Type} [BEq α] [LawfulBEq α] : ∀ (M K : List α), K.Nodup → (K.map fun k => M.count k).sum ≤ M.length
 | [], K, _ => by
  have : ∀ K : List α, (K.map fun k => ([] : List α).count k).sum = 0 := fun K => by
   induction K with
   | nil => rfl
   | cons k K ih => rw [List.map_cons, List.sum_cons, ih, List.count_nil]
  rw [this]; exact Nat.zero_le _
 | m :: M, K, h => by
  have ih := ziA M K h
  have key : ∀ K : List α, K.Nodup → (K.map fun k => (m :: M).count k).sum ≤ (K.map fun k => M.count k).sum + if m ∈ K then 1 else 0 := by
   intro K
   induction K with
   | nil => intro _; exact Nat.zero_le _
   | cons k K ih =>
    intro h
    obtain ⟨h1, h2⟩ := List.nodup_cons.1 h
    have := ih h2
    rw [List.map_cons, List.sum_cons, List.map_cons, List.sum_cons, List.count_cons]
    by_cases hm : m = k
    ·subst hm
     rw [if_neg h1] at this
     rw [if_pos List.mem_cons_self, if_pos (by simp)]
     omega
    ·have e : (m ∈ k :: K) = (m ∈ K) := by simp [hm]
     simp only [e]
     rw [if_neg (by simpa using hm)]
     omega
  have := key K h
  rw [List.length_cons]
  split at this <;> omega
theorem zgf (w : List UInt8) : ∀ (i : Nat) (l : List (List UInt8)), (posF w i l).length = l.count w
 | i, [] => rfl
 | i, x :: r => by
  rw [posF, List.count_cons]
  have ih := zgf w (i + 1) r
  by_cases h : x = w
  ·rw [if_pos h, if_pos (by simpa using h), List.length_cons, ih]
  ·rw [if_neg h, if_neg (by simpa using h), ih]; rfl
abbrev keysE (es : List Ent) : List Ky := es.flatMap fun e => (wordsOf e.text).map fun w => (e.field, w)
theorem zhN (f : Int) (k : Ky) : ∀ l : List (List UInt8), (l.map fun w => ((f, w) : Ky)).count k = if f = k.1 then l.count k.2 else 0
 | [] => by split <;> rfl
 | x :: l => by
  rw [List.map_cons, List.count_cons, zhN f k l, List.count_cons]
  obtain ⟨a, b⟩ := k
  by_cases h : f = a
  ·subst h
   by_cases h2 : x = b
   ·subst h2; simp
   ·simp [h2]
  ·simp [h]
theorem zex (k : Ky) (d : Int) : ∀ es : List Ent, (placesE es k d).length ≤ (keysE es).count k
 | [] => Nat.le_refl _
 | e :: es => by
  have ih := zex k d es
  rw [show placesE (e :: es) k d = partE (wordsOf e.text) e.doc e.field k d ++ placesE es k d from rfl, List.length_append, show keysE (e :: es) = ((wordsOf e.text).map fun w => ((e.field, w) : Ky)) ++ keysE es from rfl, List.count_append, zhN]
  unfold partE
  split
  ·rename_i h
   rw [if_pos h.2.symm, zgf]; omega
  ·simp only [List.length_nil]; omega
theorem zrm (d : Int) (l : List Int) : cntP [⟨d, l⟩] = l.length + 2 := by rw [Mg.cnt_cons]; rfl
theorem zrp {doc : Int} {es : List Ent} (h : ∀ e ∈ es, e.doc = doc) : zS (buildE es) ≤ 4 * (keysE es).length := by
 have hd : ∀ d ∈ sortI (es.map (·.doc)), d = doc := fun d hd => by
  obtain ⟨e, he, rfl⟩ := List.mem_map.1 ((zaZ stoI _ d).1 hd)
  exact h e he
 have hasc : AscB ltI (sortI (es.map (·.doc))) := zbC stoI _
 have hle : ∀ (l : List Int), AscB ltI l → (∀ d ∈ l, d = doc) → l.length ≤ 1 := fun l ha hl => by
  match l, ha, hl with
  | [], _, _ => exact Nat.zero_le _
  | [a], _, _ => exact Nat.le_refl _
  | a :: b :: l, ha, hl =>
   have h1 := (List.pairwise_cons.1 ha).1 b List.mem_cons_self
   have h2 := hl a List.mem_cons_self
   have h3 := hl b (List.mem_cons_of_mem _ List.mem_cons_self)
   rw [h2, h3] at h1
   simp [ltI] at h1
 have hK : (sortD ltK (keysE es)).Nodup := (zbC stoK (keysE es)).imp fun h => zdx h
 have hKl : (sortD ltK (keysE es)).length ≤ (keysE es).length := by
  refine zaX _ _ hK fun x hx => (zaZ stoK _ x).1 hx
 have hterm : ∀ k, zT (tmOf (placesE es) (k, (sortI (es.map (·.doc))).filter fun d => !(placesE es k d).isEmpty)) ≤ 3 + (keysE es).count k := fun k => by
  unfold tmOf zT
  have h1 := zjz k.1 k.2 (postG (placesE es) (k, (sortI (es.map (·.doc))).filter fun d => !(placesE es k d).isEmpty))
  have h2 : cntP (postG (placesE es) (k, (sortI (es.map (·.doc))).filter fun d => !(placesE es k d).isEmpty)) ≤ 2 + (keysE es).count k := by
   unfold postG
   dsimp only
   have hs : (sortL ((sortI (es.map (·.doc))).filter fun d => !(placesE es k d).isEmpty)).length ≤ 1 := by
    rw [List.length_mergeSort]
    refine Nat.le_trans (List.length_filter_le _ _) (hle _ hasc hd)
   generalize sortL ((sortI (es.map (·.doc))).filter fun d => !(placesE es k d).isEmpty) = L at *
   match L, hs with
   | [], _ => exact Nat.zero_le _
   | [d], _ =>
    show cntP [⟨d, placesE es k d⟩] ≤ _
    rw [zrm]
    have := zex k d es
    omega
  dsimp only at h1 ⊢
  omega
 have hsum : ∀ K : List Ky, ((K.map fun k => tmOf (placesE es) (k, (sortI (es.map (·.doc))).filter fun d => !(placesE es k d).isEmpty)).map zT).sum ≤ 3 * K.length + (K.map fun k => (keysE es).count k).sum := by
  intro K
  induction K with
  | nil => exact Nat.zero_le _
  | cons k K ih =>
   have := hterm k
   simp only [List.map_cons, List.sum_cons, List.length_cons] at ih ⊢
   omega
 have h1 := hsum (sortD ltK (keysE es))
 have h2 := ziA (keysE es) _ hK
 have e : (klE es).map (tmOf (placesE es)) = (sortD ltK (keysE es)).map fun k => tmOf (placesE es) (k, (sortI (es.map (·.doc))).filter fun d => !(placesE es k d).isEmpty) := by
  unfold klE
  rw [List.map_map]; rfl
 show (((klE es).map (tmOf (placesE es))).map zT).sum ≤ _
 rw [e]
 refine Nat.le_trans h1 ?_
 omega
theorem zov (doc : Int) (tx : List (List UInt8)) : (keysE (entsX doc tx)).length ≤ 2 * ((tx.getD 1 []).length + (tx.getD 2 []).length + (tx.getD 3 []).length + (tx.getD 4 []).length + (tx.getD 5 []).length) + 5 := by
 have h1 := zbg (tx.getD 1 [])
 have h2 := zbg (tx.getD 2 [])
 have h3 := zbg (tx.getD 3 [])
 have h4 := zbg (tx.getD 4 [])
 have h5 := zbg (tx.getD 5 [])
 unfold keysE entsX
 simp only [List.flatMap_cons, List.flatMap_nil, List.length_append, List.length_map, List.length_nil]
 omega
theorem z_add (x : Ix) (doc : Int) (tx : List (List UInt8)) : zX (addX x doc tx).2.segs ≤ zX x.segs + (8 * ((tx.getD 1 []).length + (tx.getD 2 []).length + (tx.getD 3 []).length + (tx.getD 4 []).length + (tx.getD 5 []).length) + 20) := by
 unfold addX
 split
 ·exact Nat.le_add_right _ _
 ·split
  ·exact Nat.le_add_right _ _
  ·have h1 := ztn x doc
   have h2 := zrp (doc := doc) (es := entsX doc tx) (fun e he => zcF he)
   have h3 := zov doc tx
   dsimp only
   rw [zjK, zcJ]
   have h4 : zX [] = 0 := rfl
   omega
theorem word40 {docs : List Int} {t : Trm} (h : okTerm docs t = true) : t.word.length ≤ 40 := by
 unfold okTerm at h
 rw [Bool.and_eq_true, Bool.and_eq_true] at h
 have hw := of_decide_eq_true h.1.2
 have hm : t.word ∈ wordsOf t.word := by rw [hw]; exact List.mem_cons_self
 obtain ⟨x, hx, e⟩ := List.mem_map.1 hm
 have := zjL (zfd _ x hx)
 rw [e] at this
 exact this
theorem zcq {u : List UInt8} (h : u.length < 2 ^ 63) : (textE u).length ≤ 9 + u.length := by
 have := zaC h
 unfold textE
 rw [List.length_append]; omega
theorem zmf {docs : List Int} {t : Trm} (h : okTerm docs t = true) (hc : cntP (plT t) ≤ 1000000000) : (termE t).length ≤ 85 * zT t := by
 have hw := word40 h
 have hl : t.list.length ≤ 9 + 9 * cntP (plT t) := by
  rw [(zcQ h).2]
  exact zdk _
 unfold okTerm at h
 rw [Bool.and_eq_true, Bool.and_eq_true] at h
 have hf := of_decide_eq_true h.1.1
 have h1 := zaC (n := t.field.toNat) (by omega)
 have h2 := zcq (u := t.word) (by omega)
 have h3 := zcq (u := t.list) (by omega)
 unfold termE zT
 rw [List.length_append, List.length_append]
 omega
theorem zT_le {s : Sgm} : ∀ t ∈ s.terms, zT t ≤ zS s := by
 have : ∀ l : List Trm, ∀ t ∈ l, zT t ≤ (l.map zT).sum := by
  intro l
  induction l with
  | nil => intro t h; cases h
  | cons a l ih =>
   intro t h
   rw [List.map_cons, List.sum_cons]
   rcases List.mem_cons.1 h with rfl | h
   ·omega
   ·have := ih t h; omega
 exact this s.terms
theorem zpW {s : Sgm} (h : rightS s = true) (hz : zS s ≤ 1000000000) (hd : s.docs.length ≤ 1000000000) : (serS s).length ≤ 18 + 9 * s.docs.length + 85 * zS s := by
 obtain ⟨⟨_, r0⟩, r2, _⟩ := zam.1 h
 unfold serS
 rw [if_pos h]
 have h1 : (numsE (toN s.docs)).length ≤ 9 + 9 * s.docs.length := by
  unfold numsE
  have hl : (toN s.docs).length = s.docs.length := by unfold toN; exact List.length_map _
  have h2 := zaC (n := (toN s.docs).length) (by omega)
  have h3 := zbT (toN s.docs) fun n hn => by
   obtain ⟨d, hd, rfl⟩ := List.mem_map.1 hn
   have := r0 d hd
   omega
  rw [List.length_append]; omega
 have ht : s.terms.length ≤ zS s := by
  unfold zS
  generalize s.terms = l
  induction l with
  | nil => exact Nat.zero_le _
  | cons a l ih => rw [List.map_cons, List.sum_cons, List.length_cons]; unfold zT at *; omega
 have h2 := zaC (n := s.terms.length) (by omega)
 have h3 : ∀ l : List Trm, (∀ t ∈ l, t ∈ s.terms) → (l.flatMap termE).length ≤ 85 * (l.map zT).sum := by
  intro l
  induction l with
  | nil => intro _; exact Nat.zero_le _
  | cons a l ih =>
   intro hm
   have i1 := ih fun t ht => hm t (List.mem_cons_of_mem _ ht)
   have ha := hm a List.mem_cons_self
   have i2 := zT_le a ha
   have i3 := zmf (r2 a ha) (by unfold zT at i2; omega)
   rw [List.flatMap_cons, List.length_append, List.map_cons, List.sum_cons]; omega
 have h4 := h3 s.terms fun t h => h
 rw [List.length_append, List.length_append]
 unfold zS
 omega
theorem zpt {x : Ix} (hx : IxOk x) (hz : zX x.segs ≤ 1000000000) (hn : docN x.segs ≤ 1000000) (hd : x.dead.length ≤ 1000000) : (serX x).length ≤ 18 + 36 * docN x.segs + 9 * x.dead.length + 85 * zX x.segs := by
 have hsd := zin hx
 have h1 := zaC (n := x.segs.length) (by omega)
 have h2 : (numsE (toN x.dead)).length ≤ 9 + 9 * x.dead.length := by
  unfold numsE
  have hl : (toN x.dead).length = x.dead.length := by unfold toN; exact List.length_map _
  have h2 := zaC (n := (toN x.dead).length) (by omega)
  have h3 := zbT (toN x.dead) fun n hn => by
   obtain ⟨d, hd, rfl⟩ := List.mem_map.1 hn
   have := zgJ hx d hd
   omega
  rw [List.length_append]; omega
 have h3 : ∀ l : List Sgm, (∀ s ∈ l, rightS s = true) → zX l ≤ 1000000000 → docN l ≤ 1000000 → (l.flatMap segE).length ≤ 27 * l.length + 9 * docN l + 85 * zX l := by
  intro l
  induction l with
  | nil => intro _ _ _; exact Nat.zero_le _
  | cons a l ih =>
   intro hm hz hd
   rw [zcJ] at hz ⊢
   rw [zdI] at hd ⊢
   have i1 := ih (fun s hs => hm s (List.mem_cons_of_mem _ hs)) (by omega) (by omega)
   have i2 := zpW (hm a List.mem_cons_self) (by omega) (by omega)
   have i3 : (segE a).length ≤ 9 + (serS a).length := zcq (by omega)
   rw [List.flatMap_cons, List.length_append, List.length_cons]
   omega
 have h4 := h3 x.segs hx.rt hz hn
 unfold serX
 rw [List.length_append, List.length_append]
 omega
end Go.Proofs.YtennokckmjcefaaGreatDoor
