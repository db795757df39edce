/- Helper lemmas that the proved statement rests on; no conditions of their own. -/
import Derived.Test.YtennokckmjcefaaGreatDoorGNi2
set_option linter.unusedVariables false
set_option maxHeartbeats 8000000
set_option maxRecDepth 100000
namespace Go.Proofs.YtennokckmjcefaaGreatDoor
open Go.Shelf Go.RowKit Go.Pw Go.Vc Go.Cs Go.Lib Go.Cd Go.Mg
structure Sd (P : Nat) (s : Sgm) (n q : Nat) : Prop where
 b : Bd s n q q
 p : ∀ k d z, z ∈ pS s k d → z < (P : Int)
def WtS (P : Nat) : List Sgm → Nat → Nat → Prop
 | [], _, _ => True
 | s :: l, N, Q => ∃ n q m r, (n + m ≤ N ∧ q + r ≤ Q) ∧ Sd P s n q ∧ WtS P l m r
theorem Sd.mono {P : Nat} {s : Sgm} {n q n' q' : Nat} (h : Sd P s n q) (h1 : n ≤ n') (h2 : q ≤ q') : Sd P s n' q' := ⟨h.b.mono h1 h2 h2, h.p⟩
theorem Sd.two {P : Nat} {a b : Sgm} {n q n' q' : Nat} (h : Sd P a n q) (g : Sd P b n' q') (dl : List Int) : Sd P (twoS a b dl) (n + n') (q + q') :=
 ⟨zps h.b g.b dl, fun k d z hz => by
  rw [zlP] at hz
  split at hz
  ·cases hz
  ·rcases (zce (zfV a k d) (zfV b k d) z).1 hz with hz | hz
   ·exact h.p k d z hz
   ·exact g.p k d z hz⟩
theorem Sd.nil (P : Nat) : Sd P ⟨[], []⟩ 0 0 := ⟨znv 0 0 0, fun k d z hz => by rw [zpB] at hz; cases hz⟩
theorem WtS.mono {P : Nat} : ∀ {l : List Sgm} {N N' Q Q' : Nat}, WtS P l N Q → N ≤ N' → Q ≤ Q' → WtS P l N' Q'
 | [], _, _, _, _, _, _, _ => trivial
 | s :: l, N, N', Q, Q', ⟨n, q, m, r, h1, h2, h3⟩, h, g => ⟨n, q, m, r, by omega, h2, h3⟩
theorem WtS.app {P : Nat} : ∀ {a b : List Sgm} {n m q r : Nat}, WtS P a n q → WtS P b m r → WtS P (a ++ b) (n + m) (q + r)
 | [], b, n, m, q, r, _, h => WtS.mono h (by omega) (by omega)
 | s :: a, b, n, m, q, r, ⟨n1, q1, m1, r1, h1, h2, h3⟩, h => ⟨n1, q1, m1 + m, r1 + r, by omega, h2, WtS.app h3 h⟩
theorem WtS.split {P : Nat} : ∀ {a b : List Sgm} {N Q : Nat}, WtS P (a ++ b) N Q → ∃ n m q r, (n + m ≤ N ∧ q + r ≤ Q) ∧ WtS P a n q ∧ WtS P b m r
 | [], b, N, Q, h => ⟨0, N, 0, Q, by omega, trivial, h⟩
 | s :: a, b, N, Q, ⟨n1, q1, m1, r1, h1, h2, h3⟩ => by
  obtain ⟨n, m, q, r, e, ha, hb⟩ := WtS.split h3
  exact ⟨n1 + n, m, q1 + q, r, by omega, ⟨n1, q1, n, q, ⟨Nat.le_refl _, Nat.le_refl _⟩, h2, ha⟩, hb⟩
theorem WtS.full {P : Nat} : ∀ {l : List Sgm} {N Q : Nat}, WtS P l N Q → WtS P (fullL l) N Q
 | [], _, _, _ => trivial
 | s :: l, N, Q, ⟨n, q, m, r, h1, h2, h3⟩ => by
  unfold fullL
  rw [List.filter_cons]
  split
  ·exact ⟨n, q, m, r, h1, h2, WtS.full h3⟩
  ·exact WtS.mono (WtS.full h3) (by omega) (by omega)
theorem WtS.mem {P : Nat} : ∀ {l : List Sgm} {N Q : Nat}, WtS P l N Q → ∀ s ∈ l, Sd P s N Q
 | [], _, _, _, s, hs => by cases hs
 | a :: l, N, Q, ⟨n, q, m, r, h1, h2, h3⟩, s, hs => by
  rcases List.mem_cons.1 hs with rfl | hs
  ·exact h2.mono (by omega) (by omega)
  ·exact (WtS.mem h3 s hs).mono (by omega) (by omega)
theorem WtS.docs {P : Nat} : ∀ {l : List Sgm} {N Q : Nat}, WtS P l N Q → docN l ≤ N
 | [], _, _, _ => Nat.zero_le _
 | a :: l, N, Q, ⟨n, q, m, r, h1, h2, h3⟩ => by
  rw [zdK]
  have := WtS.docs h3
  have := h2.b.d
  omega
theorem zlg {P : Nat} {x : Ix} {N Q i n : Nat} {s : Sgm} (h : WtS P x.segs N Q) (hs : ∀ m r, WtS P ((x.segs.drop i).take n) m r → WtS P [s] m r) : WtS P (replX x i n s).segs N Q := by
 have e : x.segs = x.segs.take i ++ ((x.segs.drop i).take n ++ x.segs.drop (i + n)) := by
  rw [show x.segs.drop (i + n) = (x.segs.drop i).drop n from by rw [List.drop_drop], List.take_append_drop, List.take_append_drop]
 rw [e] at h
 obtain ⟨n1, m1, q1, r1, e1, h1, h2⟩ := WtS.split h
 obtain ⟨n2, m2, q2, r2, e2, h3, h4⟩ := WtS.split h2
 unfold replX cleanX
 dsimp only
 have : WtS P (x.segs.take i ++ ([s] ++ x.segs.drop (i + n))) (n1 + (n2 + m2)) (q1 + (q2 + r2)) := WtS.app h1 (WtS.app (hs _ _ h3) h4)
 exact WtS.mono (WtS.full this) (by omega) (by omega)
theorem zpj {P : Nat} {x : Ix} {N Q i : Nat} (h : WtS P x.segs N Q) (hi : i < x.segs.length) (dl : List Int) : WtS P (replX x i 1 (twoS (x.segs.getD i ⟨[], []⟩) ⟨[], []⟩ dl)).segs N Q := by
 refine zlg h fun m r hm => ?_
 rw [List.drop_eq_getElem_cons hi, List.take_succ_cons] at hm
 obtain ⟨a, q, b, r2, h1, h2, _⟩ := hm
 rw [zcR hi]
 exact ⟨a, q, b, r2, h1, (h2.two (Sd.nil P) dl).mono (by omega) (by omega), trivial⟩
theorem zrd {P : Nat} {x : Ix} {N Q i : Nat} (h : WtS P x.segs N Q) (hi : i + 1 < x.segs.length) (dl : List Int) : WtS P (replX x i 2 (twoS (x.segs.getD i ⟨[], []⟩) (x.segs.getD (i + 1) ⟨[], []⟩) dl)).segs N Q := by
 refine zlg h fun m r hm => ?_
 rw [List.drop_eq_getElem_cons (by omega), List.take_succ_cons, List.drop_eq_getElem_cons hi, List.take_succ_cons] at hm
 obtain ⟨a, q, b, r2, h1, h2, c, q3, d, r3, h3, h4, _⟩ := hm
 rw [zcR hi, zcR (show i < x.segs.length by omega)]
 exact ⟨a + c, q + q3, d, r3, by omega, h2.two h4 dl, trivial⟩
theorem zqt {P : Nat} {x : Ix} {N Q : Nat} (h : WtS P x.segs N Q) (doc : Int) : WtS P (readX x doc).segs N Q := by
 unfold readX
 cases hf : findX x.segs doc with
 | none => exact h
 | some i => exact zpj h (zcQ hf).1 _
theorem znG {P : Nat} {es : List Ent} (hk : Kept es) {L n : Nat} (hn : es.length ≤ n) (he : ∀ e ∈ es, e.text.length ≤ L) (hP : 2 * L + 1 ≤ P) (hL9 : L ≤ 1000000000) : Sd P (buildE es) n (n * (2 * L + 3)) := by
 have hB := zim hk fun e h => by have := he e h; omega
 have hb := zoe hB hk hn (m := 2 * L + 1) fun e h => by have := he e h; omega
 refine ⟨hb.mono (Nat.le_refl _) (Nat.mul_le_mul_left _ (by omega)) (Nat.le_refl _), fun k d z hz => ?_⟩
 have hz2 : z ∈ placesE es k d := by
  unfold pS at hz
  rwa [zbz hB.right, hB.posts] at hz
 obtain ⟨e, hem, _, _, e3, _⟩ := zbk hk k d (List.ne_nil_of_mem hz2)
 rw [e3] at hz2
 obtain ⟨j, hj, e4, _⟩ := (zlQ k.2 0 (wordsOf e.text) z).1 hz2
 have h1 := zbb e.text
 have h2 := he e hem
 omega
theorem zot {doc : Int} {tx : List (List UInt8)} {L : Nat} (ht : ∀ t ∈ tx, t.length ≤ L) : ∀ e ∈ entsX doc tx, e.text.length ≤ L := by
 have hg : ∀ i, (tx.getD i []).length ≤ L := fun i => by
  rw [List.getD_eq_getElem?_getD]
  cases hq : tx[i]? with
  | none => exact Nat.zero_le _
  | some t => exact ht t (List.mem_of_getElem? hq)
 intro e he
 unfold entsX at he
 simp only [List.mem_cons, List.not_mem_nil, or_false] at he
 rcases he with rfl | rfl | rfl | rfl | rfl <;> exact hg _
theorem zrb {P : Nat} {x : Ix} {N Q : Nat} (h : WtS P x.segs N Q) {doc : Int} {tx : List (List UInt8)} {L : Nat} (ht : ∀ t ∈ tx, t.length ≤ L) (hL : 2 * L + 1 ≤ P) (hL9 : L ≤ 1000000000) : WtS P (addX x doc tx).2.segs (N + 5) (Q + 5 * (2 * L + 3)) := by
 unfold addX
 split
 ·exact WtS.mono h (by omega) (by omega)
 split
 ·exact WtS.mono h (by omega) (by omega)
 ·rename_i h1 h2
  have hk := (zeS (by omega) (by omega) (doc := doc) tx).2
  exact WtS.app (zqt h doc) ⟨5, 5 * (2 * L + 3), 0, 0, ⟨Nat.le_refl _, Nat.le_refl _⟩, znG hk (Nat.le_refl _) (zot ht) hL hL9, trivial⟩
theorem zpR {P : Nat} {x : Ix} {N Q : Nat} (h : WtS P x.segs N Q) (doc : Int) : WtS P (dropX x doc).2.segs N Q := by
 unfold dropX
 split <;> exact h
theorem zqi {P : Nat} {x : Ix} {N Q : Nat} (h : WtS P x.segs N Q) : WtS P (stepX x).2.segs N Q := by
 unfold stepX
 cases hp : pickL (x.segs.map fun s => (s.docs.length : Int)) with
 | some i =>
  have hi := zeK hp
  rw [List.length_map] at hi
  exact zrd h hi _
 | none =>
  dsimp only
  cases hf : x.segs.findIdx? (dueX x) with
  | some i => exact zpj h (List.findIdx?_eq_some_iff_getElem.1 hf).1 _
  | none => exact h
theorem znm : ∀ (l : List Int) (a b : Int), AscB ltI l → (∀ z ∈ l, a ≤ z ∧ z < b) → (l.length : Int) ≤ max 0 (b - a)
 | [], a, b, _, _ => by simp only [List.length_nil]; omega
 | n :: l, a, b, h, g => by
  unfold AscB at h
  obtain ⟨h1, h2⟩ := List.pairwise_cons.1 h
  have := g n List.mem_cons_self
  have ih := znm l (n + 1) b h2 fun z hz => ⟨by have := of_decide_eq_true (h1 z hz); omega, (g z (List.mem_cons_of_mem _ hz)).2⟩
  rw [List.length_cons]; omega
theorem zpY {P N : Nat} {l : List Pst} (h : rightP l = true) {ds : List Int} (hd : ∀ p ∈ l, p.doc ∈ ds) (hn : ds.length ≤ N) (hp : ∀ d z, z ∈ atD l d → z < (P : Int)) : l.length ≤ N ∧ ∀ p ∈ l, p.places.length ≤ P := by
 obtain ⟨h1, h2⟩ := zas.1 h
 constructor
 ·have := zaI (l.map (·.doc)) ds (List.pairwise_map.2 (h1.imp fun h => by omega)) fun d hdm => by
   obtain ⟨p, hp, rfl⟩ := List.mem_map.1 hdm
   exact hd p hp
  rw [List.length_map] at this; omega
 ·intro p hpm
  obtain ⟨_, _, _, r4, r5⟩ := h2 p hpm
  have hat := zcB h1 hpm
  have := znm p.places 0 P r4 fun z hz => ⟨(r5 z hz).1, hp p.doc z (by rw [hat]; exact hz)⟩
  omega
theorem pX_lt {P N Q : Nat} {x : Ix} (h : WtS P x.segs N Q) {k : Ky} {d z : Int} (hz : z ∈ pX x k d) : z < (P : Int) := by
 have : ∀ l : List Sgm, (∀ s ∈ l, ∀ k d z, z ∈ pS s k d → z < (P : Int)) → z ∈ pL l k d → z < (P : Int) := by
  intro l
  induction l with
  | nil => intro _ h; cases h
  | cons s l ih =>
   intro hs h
   rcases (zce (zfV s k d) (zjj l k d) z).1 h with h | h
   ·exact hs s List.mem_cons_self k d z h
   ·exact ih (fun t ht => hs t (List.mem_cons_of_mem _ ht)) h
 unfold pX at hz
 split at hz
 ·cases hz
 ·exact this x.segs (fun s hs => (h.mem s hs).p) hz
theorem zpF {l : List Pst} (h : rightP l = true) {p : Pst} (hp : p ∈ l) : ∃ z, z ∈ atD l p.doc := (zer h p.doc).1 (List.mem_map.2 ⟨p, hp, rfl⟩)
theorem zhR {P N Q : Nat} {x : Ix} (hx : IxOk x) (h : WtS P x.segs N Q) (f : Int) (q : List UInt8 → Bool) : (lookX x f q).length ≤ N ∧ ∀ p ∈ lookX x f q, p.places.length ≤ P := by
 obtain ⟨r1, s1⟩ := zbl x f q
 have h3 := zhs hx
 have h2 := h.docs
 refine zpY r1 (ds := docsX x) (fun p hp => ?_) (by omega) fun d z hz => ?_
 ·obtain ⟨z, hz⟩ := zpF r1 hp
  obtain ⟨k, _, hz⟩ := (s1 _ _).1 hz
  exact (zlA x _).2 (zqK hx hz)
 ·obtain ⟨k, _, hz⟩ := (s1 _ _).1 hz
  exact pX_lt h hz
theorem zhJ {x : Ix} (hx : IxOk x) : x.segs.length ≤ docN x.segs := by
 have : ∀ l : List Sgm, (∀ s ∈ l, s.docs ≠ []) → l.length ≤ docN l := by
  intro l
  induction l with
  | nil => intro _; exact Nat.le_refl _
  | cons s l ih =>
   intro h
   have h1 := ih fun t ht => h t (List.mem_cons_of_mem _ ht)
   have h2 := List.length_pos_iff.2 (h s List.mem_cons_self)
   rw [zdK, List.length_cons]; omega
 exact this x.segs hx.ne
theorem zpz {P N Q : Nat} {x : Ix} (hx : IxOk x) (h : WtS P x.segs N Q) : x.segs.length ≤ N ∧ x.dead.length ≤ N ∧ sizeX x ≤ 2 * N ∧ (docsX x).length ≤ N := by
 have h1 := zhJ hx
 have h2 := h.docs
 have h3 := zhs hx
 unfold sizeX
 omega
def toN (l : List Int) : List Nat := l.map Int.toNat
def textE (u : List UInt8) : List UInt8 := numE u.length ++ u
def termE (t : Trm) : List UInt8 := numE t.field.toNat ++ (textE t.word ++ textE t.list)
def serS (s : Sgm) : List UInt8 := if rightS s = true then numsE (toN s.docs) ++ (numE s.terms.length ++ s.terms.flatMap termE) else []
section
end
def segE (s : Sgm) : List UInt8 := textE (serS s)
def serX (x : Ix) : List UInt8 := numE x.segs.length ++ (x.segs.flatMap segE ++ numsE (toN x.dead))
theorem znB {x : Ix} (hx : IxOk x) : ∀ d ∈ x.dead, 1 ≤ d ∧ d ≤ 1099511627776 := fun d hd => by
 obtain ⟨s, hs, h⟩ := hx.di d hd
 exact (zao.1 (hx.rt s hs)).1.2 d h
def zT (t : Trm) : Nat := cntP (plT t) + 1
def zS (s : Sgm) : Nat := (s.terms.map zT).sum
def zX (l : List Sgm) : Nat := (l.map zS).sum
theorem zcF (s : Sgm) (l : List Sgm) : zX (s :: l) = zS s + zX l := by unfold zX; rw [List.map_cons, List.sum_cons]
theorem zja (a b : List Sgm) : zX (a ++ b) = zX a + zX b := by unfold zX; rw [List.map_append, List.sum_append]
theorem zmJ : ∀ l : List Sgm, zX (fullL l) ≤ zX l
 | [] => Nat.le_refl _
 | s :: l => by
  have ih := zmJ l
  unfold fullL at ih ⊢
  rw [List.filter_cons]
  split
  ·rw [zcF, zcF]; omega
  ·rw [zcF]; omega
theorem zmG (s : Sgm) : zS (validS s) ≤ zS s := by
 unfold validS
 split
 ·exact Nat.le_refl _
 ·exact Nat.zero_le _
theorem zrj {dl : List Int} {x : Trm × List Pst} {t : Trm} (h : termOf dl x = some t) : zT t ≤ cntP x.2 + 1 := by
 unfold termOf at h
 split at h
 ·cases h
 ·injection h with h
  subst h
  have h1 := ziS x.1.field x.1.word (liveP dl x.2)
  have h2 := zcW (fun p => !decide (p.doc ∈ dl)) x.2
  unfold zT
  unfold liveP at h1 ⊢
  omega
theorem z_fm (dl : List Int) : ∀ l : List (Trm × List Pst), ((l.filterMap (termOf dl)).map zT).sum ≤ (l.map fun x => cntP x.2 + 1).sum
 | [] => Nat.le_refl _
 | x :: l => by
  have ih := z_fm dl l
  rw [List.filterMap_cons, List.map_cons, List.sum_cons]
  cases h : termOf dl x with
  | none => dsimp only; omega
  | some t =>
   have := zrj h
   dsimp only
   rw [List.map_cons, List.sum_cons]; omega
theorem zqn : ∀ (n : Nat) (a b : List Trm), a.length + b.length ≤ n → ((mergeT a b).map fun x => cntP x.2 + 1).sum ≤ (a.map zT).sum + (b.map zT).sum := by
 intro n
 induction n with
 | zero =>
  intro a b h
  obtain rfl : a = [] := List.eq_nil_of_length_eq_zero (by omega)
  obtain rfl : b = [] := List.eq_nil_of_length_eq_zero (by omega)
  rw [zct]; exact Nat.le_refl _
 | succ n ih =>
  intro a b h
  cases a with
  | nil =>
   cases b with
   | nil => rw [zct]; exact Nat.le_refl _
   | cons y b =>
    have := ih [] b (by simp only [List.length_nil, List.length_cons] at h ⊢; omega)
    rw [zcu, zee]
    simp only [List.map_cons, List.sum_cons, List.map_nil, List.sum_nil] at this ⊢
    unfold zT at this ⊢
    omega
  | cons x a =>
   cases b with
   | nil =>
    have := ih a [] (by simp only [List.length_nil, List.length_cons] at h ⊢; omega)
    rw [zbS, zeg]
    simp only [List.map_cons, List.sum_cons, List.map_nil, List.sum_nil] at this ⊢
    unfold zT at this ⊢
    omega
   | cons y b =>
    simp only [List.length_cons] at h
    have h1 := ih a (y :: b) (by simp only [List.length_cons]; omega)
    have h2 := ih a b (by omega)
    have h3 := ih (x :: a) b (by simp only [List.length_cons]; omega)
    have h4 := zem _ (plT x) (plT y) (Nat.le_refl _)
    rw [zbQ, zeg, zee]
    simp only [List.map_cons, List.sum_cons] at h1 h2 h3 ⊢
    unfold zT at h1 h2 h3 ⊢
    split
    ·rw [List.map_cons, List.sum_cons]; dsimp only; omega
    ·split
     ·rw [List.map_cons, List.sum_cons]; dsimp only; omega
     ·rw [List.map_cons, List.sum_cons]; dsimp only; omega
theorem z_two (a b : Sgm) (dl : List Int) : zS (twoS a b dl) ≤ zS a + zS b := by
 have h1 := z_fm dl (mergeT (validS a).terms (validS b).terms)
 have h2 := zqn _ (validS a).terms (validS b).terms (Nat.le_refl _)
 have h3 := zmG a
 have h4 := zmG b
 unfold twoS
 unfold zS at h3 h4 ⊢
 dsimp only
 omega
theorem z_nil : zS ⟨[], []⟩ = 0 := rfl
theorem zpl (x : Ix) (i n : Nat) (s : Sgm) (h : zS s ≤ zX ((x.segs.drop i).take n)) : zX (replX x i n s).segs ≤ zX x.segs := by
 have e : x.segs = x.segs.take i ++ ((x.segs.drop i).take n ++ x.segs.drop (i + n)) := by
  rw [show x.segs.drop (i + n) = (x.segs.drop i).drop n from by rw [List.drop_drop], List.take_append_drop, List.take_append_drop]
 have h1 := zmJ (x.segs.take i ++ s :: x.segs.drop (i + n))
 have h2 : zX x.segs = zX (x.segs.take i) + (zX ((x.segs.drop i).take n) + zX (x.segs.drop (i + n))) := by rw [← zja, ← zja, ← e]
 rw [zja, zcF] at h1
 show zX (fullL (x.segs.take i ++ s :: x.segs.drop (i + n))) ≤ _
 omega
theorem z_one (x : Ix) {i : Nat} (hi : i < x.segs.length) (dl : List Int) : zX (replX x i 1 (twoS (x.segs.getD i ⟨[], []⟩) ⟨[], []⟩ dl)).segs ≤ zX x.segs := by
 refine zpl x i 1 _ ?_
 have h := z_two (x.segs.getD i ⟨[], []⟩) ⟨[], []⟩ dl
 rw [zcR hi] at h ⊢
 have e : (x.segs.drop i).take 1 = [x.segs[i]] := by rw [List.drop_eq_getElem_cons hi]; rfl
 rw [e, zcF]
 rw [z_nil] at h
 omega
theorem zrr (x : Ix) {i : Nat} (hi : i + 1 < x.segs.length) (dl : List Int) : zX (replX x i 2 (twoS (x.segs.getD i ⟨[], []⟩) (x.segs.getD (i + 1) ⟨[], []⟩) dl)).segs ≤ zX x.segs := by
 refine zpl x i 2 _ ?_
 have h := z_two (x.segs.getD i ⟨[], []⟩) (x.segs.getD (i + 1) ⟨[], []⟩) dl
 rw [zcR (by omega : i < x.segs.length), zcR hi] at h ⊢
 have e : (x.segs.drop i).take 2 = [x.segs[i], x.segs[i + 1]] := by rw [List.drop_eq_getElem_cons (by omega : i < x.segs.length), List.drop_eq_getElem_cons hi]; rfl
 rw [e, zcF, zcF]
 omega
theorem zrC (x : Ix) (doc : Int) : zX (readX x doc).segs ≤ zX x.segs := by
 unfold readX
 split
 ·rename_i i h
  obtain ⟨hi, _⟩ := zcQ h
  exact z_one x hi _
 ·exact Nat.le_refl _
theorem zry (x : Ix) : zX (stepX x).2.segs ≤ zX x.segs := by
 unfold stepX
 split
 ·rename_i i h
  have := zeK h
  rw [List.length_map] at this
  exact zrr x this _
 ·split
  ·rename_i i h
   exact z_one x (List.findIdx?_eq_some_iff_getElem.1 h).1 _
  ·exact Nat.le_refl _
theorem zqX (x : Ix) (doc : Int) : zX (dropX x doc).2.segs = zX x.segs := by
 unfold dropX
 split <;> rfl
theorem zhY {α : Type} [BEq α] [LawfulBEq α] : ∀ (M K : List α), K.Nodup → (K.map fun k => M.count k).sum ≤ M.length
 | [], K, _ => by
  have : ∀ K : List α, (K.map fun k => ([] : List α).count k).sum = 0 := fun K => by
   induction K with
   | nil => rfl
   | cons k K ih => rw [List.map_cons, List.sum_cons, ih, List.count_nil]
  rw [this]; exact Nat.zero_le _
 | m :: M, K, h => by
  have ih := zhY M K h
  have key : ∀ K : List α, K.Nodup → (K.map fun k => (m :: M).count k).sum ≤ (K.map fun k => M.count k).sum + if m ∈ K then 1 else 0 := by
   intro K
   induction K with
   | nil => intro _; exact Nat.zero_le _
   | cons k K ih =>
    intro h
    obtain ⟨h1, h2⟩ := List.nodup_cons.1 h
    have := ih h2
    rw [List.map_cons, List.sum_cons, List.map_cons, List.sum_cons, List.count_cons]
    by_cases hm : m = k
    ·subst hm
     rw [if_neg h1] at this
     rw [if_pos List.mem_cons_self, if_pos (by simp)]
     omega
    ·have e : (m ∈ k :: K) = (m ∈ K) := by simp [hm]
     simp only [e]
     rw [if_neg (by simpa using hm)]
     omega
  have := key K h
  rw [List.length_cons]
  split at this <;> omega
theorem zcg (w : List UInt8) : ∀ (i : Nat) (l : List (List UInt8)), (posF w i l).length = l.count w
 | i, [] => rfl
 | i, x :: r => by
  rw [posF, List.count_cons]
  have ih := zcg w (i + 1) r
  by_cases h : x = w
  ·rw [if_pos h, if_pos (by simpa using h), List.length_cons, ih]
  ·rw [if_neg h, if_neg (by simpa using h), ih]; rfl
abbrev keysE (es : List Ent) : List Ky := es.flatMap fun e => (wordsOf e.text).map fun w => (e.field, w)
theorem zhk (f : Int) (k : Ky) : ∀ l : List (List UInt8), (l.map fun w => ((f, w) : Ky)).count k = if f = k.1 then l.count k.2 else 0
 | [] => by split <;> rfl
 | x :: l => by
  rw [List.map_cons, List.count_cons, zhk f k l, List.count_cons]
  obtain ⟨a, b⟩ := k
  by_cases h : f = a
  ·subst h
   by_cases h2 : x = b
   ·subst h2; simp
   ·simp [h2]
  ·simp [h]
theorem zep (k : Ky) (d : Int) : ∀ es : List Ent, (placesE es k d).length ≤ (keysE es).count k
 | [] => Nat.le_refl _
 | e :: es => by
  have ih := zep k d es
  rw [show placesE (e :: es) k d = partE (wordsOf e.text) e.doc e.field k d ++ placesE es k d from rfl, List.length_append, show keysE (e :: es) = ((wordsOf e.text).map fun w => ((e.field, w) : Ky)) ++ keysE es from rfl, List.count_append, zhk]
  unfold partE
  split
  ·rename_i h
   rw [if_pos h.2.symm, zcg]; omega
  ·simp only [List.length_nil]; omega
theorem zpK (d : Int) (l : List Int) : cntP [⟨d, l⟩] = l.length + 2 := by rw [Mg.cnt_cons]; rfl
theorem zpN {doc : Int} {es : List Ent} (h : ∀ e ∈ es, e.doc = doc) : zS (buildE es) ≤ 4 * (keysE es).length := by
 have hd : ∀ d ∈ sortI (es.map (·.doc)), d = doc := fun d hd => by
  obtain ⟨e, he, rfl⟩ := List.mem_map.1 ((zaZ stoI _ d).1 hd)
  exact h e he
 have hasc : AscB ltI (sortI (es.map (·.doc))) := zbB stoI _
 have hle : ∀ (l : List Int), AscB ltI l → (∀ d ∈ l, d = doc) → l.length ≤ 1 := fun l ha hl => by
  match l, ha, hl with
  | [], _, _ => exact Nat.zero_le _
  | [a], _, _ => exact Nat.le_refl _
  | a :: b :: l, ha, hl =>
   have h1 := (List.pairwise_cons.1 ha).1 b List.mem_cons_self
   have h2 := hl a List.mem_cons_self
   have h3 := hl b (List.mem_cons_of_mem _ List.mem_cons_self)
   rw [h2, h3] at h1
   simp [ltI] at h1
 have hK : (sortD ltK (keysE es)).Nodup := (zbB stoK (keysE es)).imp fun h => zdx h
 have hKl : (sortD ltK (keysE es)).length ≤ (keysE es).length := by
  refine zaI _ _ hK fun x hx => (zaZ stoK _ x).1 hx
 have hterm : ∀ k, zT (tmOf (placesE es) (k, (sortI (es.map (·.doc))).filter fun d => !(placesE es k d).isEmpty)) ≤ 3 + (keysE es).count k := fun k => by
  unfold tmOf zT
  have h1 := ziS k.1 k.2 (postG (placesE es) (k, (sortI (es.map (·.doc))).filter fun d => !(placesE es k d).isEmpty))
  have h2 : cntP (postG (placesE es) (k, (sortI (es.map (·.doc))).filter fun d => !(placesE es k d).isEmpty)) ≤ 2 + (keysE es).count k := by
   unfold postG
   dsimp only
   have hs : (sortL ((sortI (es.map (·.doc))).filter fun d => !(placesE es k d).isEmpty)).length ≤ 1 := by
    rw [List.length_mergeSort]
    refine Nat.le_trans (List.length_filter_le _ _) (hle _ hasc hd)
   generalize sortL ((sortI (es.map (·.doc))).filter fun d => !(placesE es k d).isEmpty) = L at *
   match L, hs with
   | [], _ => exact Nat.zero_le _
   | [d], _ =>
    show cntP [⟨d, placesE es k d⟩] ≤ _
    rw [zpK]
    have := zep k d es
    omega
  dsimp only at h1 ⊢
  omega
 have hsum : ∀ K : List Ky, ((K.map fun k => tmOf (placesE es) (k, (sortI (es.map (·.doc))).filter fun d => !(placesE es k d).isEmpty)).map zT).sum ≤ 3 * K.length + (K.map fun k => (keysE es).count k).sum := by
  intro K
  induction K with
  | nil => exact Nat.zero_le _
  | cons k K ih =>
   have := hterm k
   simp only [List.map_cons, List.sum_cons, List.length_cons] at ih ⊢
   omega
 have h1 := hsum (sortD ltK (keysE es))
 have h2 := zhY (keysE es) _ hK
 have e : (klE es).map (tmOf (placesE es)) = (sortD ltK (keysE es)).map fun k => tmOf (placesE es) (k, (sortI (es.map (·.doc))).filter fun d => !(placesE es k d).isEmpty) := by
  unfold klE
  rw [List.map_map]; rfl
 show (((klE es).map (tmOf (placesE es))).map zT).sum ≤ _
 rw [e]
 refine Nat.le_trans h1 ?_
 omega
theorem znu (doc : Int) (tx : List (List UInt8)) : (keysE (entsX doc tx)).length ≤ 2 * ((tx.getD 1 []).length + (tx.getD 2 []).length + (tx.getD 3 []).length + (tx.getD 4 []).length + (tx.getD 5 []).length) + 5 := by
 have h1 := zbb (tx.getD 1 [])
 have h2 := zbb (tx.getD 2 [])
 have h3 := zbb (tx.getD 3 [])
 have h4 := zbb (tx.getD 4 [])
 have h5 := zbb (tx.getD 5 [])
 unfold keysE entsX
 simp only [List.flatMap_cons, List.flatMap_nil, List.length_append, List.length_map, List.length_nil]
 omega
theorem z_add (x : Ix) (doc : Int) (tx : List (List UInt8)) : zX (addX x doc tx).2.segs ≤ zX x.segs + (8 * ((tx.getD 1 []).length + (tx.getD 2 []).length + (tx.getD 3 []).length + (tx.getD 4 []).length + (tx.getD 5 []).length) + 20) := by
 unfold addX
 split
 ·exact Nat.le_add_right _ _
 ·split
  ·exact Nat.le_add_right _ _
  ·have h1 := zrC x doc
   have h2 := zpN (doc := doc) (es := entsX doc tx) (fun e he => zdI he)
   have h3 := znu doc tx
   dsimp only
   rw [zja, zcF]
   have h4 : zX [] = 0 := rfl
   omega
theorem word40 {docs : List Int} {t : Trm} (h : okTerm docs t = true) : t.word.length ≤ 40 := by
 unfold okTerm at h
 rw [Bool.and_eq_true, Bool.and_eq_true] at h
 have hw := of_decide_eq_true h.1.2
 have hm : t.word ∈ wordsOf t.word := by rw [hw]; exact List.mem_cons_self
 obtain ⟨x, hx, e⟩ := List.mem_map.1 hm
 have := zjb (zeT _ x hx)
 rw [e] at this
 exact this
theorem zfh {u : List UInt8} (h : u.length < 2 ^ 63) : (textE u).length ≤ 9 + u.length := by
 have := zbx h
 unfold textE
 rw [List.length_append]; omega
theorem zlo {docs : List Int} {t : Trm} (h : okTerm docs t = true) (hc : cntP (plT t) ≤ 1000000000) : (termE t).length ≤ 85 * zT t := by
 have hw := word40 h
 have hl : t.list.length ≤ 9 + 9 * cntP (plT t) := by
  rw [(zcN h).2]
  exact zdk _
 unfold okTerm at h
 rw [Bool.and_eq_true, Bool.and_eq_true] at h
 have hf := of_decide_eq_true h.1.1
 have h1 := zbx (n := t.field.toNat) (by omega)
 have h2 := zfh (u := t.word) (by omega)
 have h3 := zfh (u := t.list) (by omega)
 unfold termE zT
 rw [List.length_append, List.length_append]
 omega
theorem zT_le {s : Sgm} : ∀ t ∈ s.terms, zT t ≤ zS s := by
 have : ∀ l : List Trm, ∀ t ∈ l, zT t ≤ (l.map zT).sum := by
  intro l
  induction l with
  | nil => intro t h; cases h
  | cons a l ih =>
   intro t h
   rw [List.map_cons, List.sum_cons]
   rcases List.mem_cons.1 h with rfl | h
   ·omega
   ·have := ih t h; omega
 exact this s.terms
theorem zoI {s : Sgm} (h : rightS s = true) (hz : zS s ≤ 1000000000) (hd : s.docs.length ≤ 1000000000) : (serS s).length ≤ 18 + 9 * s.docs.length + 85 * zS s := by
 obtain ⟨⟨_, r0⟩, r2, _⟩ := zao.1 h
 unfold serS
 rw [if_pos h]
 have h1 : (numsE (toN s.docs)).length ≤ 9 + 9 * s.docs.length := by
  unfold numsE
  have hl : (toN s.docs).length = s.docs.length := by unfold toN; exact List.length_map _
  have h2 := zbx (n := (toN s.docs).length) (by omega)
  have h3 := zeL (toN s.docs) fun n hn => by
   obtain ⟨d, hd, rfl⟩ := List.mem_map.1 hn
   have := r0 d hd
   omega
  rw [List.length_append]; omega
 have ht : s.terms.length ≤ zS s := by
  unfold zS
  generalize s.terms = l
  induction l with
  | nil => exact Nat.zero_le _
  | cons a l ih => rw [List.map_cons, List.sum_cons, List.length_cons]; unfold zT at *; omega
 have h2 := zbx (n := s.terms.length) (by omega)
 have h3 : ∀ l : List Trm, (∀ t ∈ l, t ∈ s.terms) → (l.flatMap termE).length ≤ 85 * (l.map zT).sum := by
  intro l
  induction l with
  | nil => intro _; exact Nat.zero_le _
  | cons a l ih =>
   intro hm
   have i1 := ih fun t ht => hm t (List.mem_cons_of_mem _ ht)
   have ha := hm a List.mem_cons_self
   have i2 := zT_le a ha
   have i3 := zlo (r2 a ha) (by unfold zT at i2; omega)
   rw [List.flatMap_cons, List.length_append, List.map_cons, List.sum_cons]; omega
 have h4 := h3 s.terms fun t h => h
 rw [List.length_append, List.length_append]
 unfold zS
 omega
theorem zoi {x : Ix} (hx : IxOk x) (hz : zX x.segs ≤ 1000000000) (hn : docN x.segs ≤ 1000000) (hd : x.dead.length ≤ 1000000) : (serX x).length ≤ 18 + 36 * docN x.segs + 9 * x.dead.length + 85 * zX x.segs := by
 have hsd := zhJ hx
 have h1 := zbx (n := x.segs.length) (by omega)
 have h2 : (numsE (toN x.dead)).length ≤ 9 + 9 * x.dead.length := by
  unfold numsE
  have hl : (toN x.dead).length = x.dead.length := by unfold toN; exact List.length_map _
  have h2 := zbx (n := (toN x.dead).length) (by omega)
  have h3 := zeL (toN x.dead) fun n hn => by
   obtain ⟨d, hd, rfl⟩ := List.mem_map.1 hn
   have := znB hx d hd
   omega
  rw [List.length_append]; omega
 have h3 : ∀ l : List Sgm, (∀ s ∈ l, rightS s = true) → zX l ≤ 1000000000 → docN l ≤ 1000000 → (l.flatMap segE).length ≤ 27 * l.length + 9 * docN l + 85 * zX l := by
  intro l
  induction l with
  | nil => intro _ _ _; exact Nat.zero_le _
  | cons a l ih =>
   intro hm hz hd
   rw [zcF] at hz ⊢
   rw [zdK] at hd ⊢
   have i1 := ih (fun s hs => hm s (List.mem_cons_of_mem _ hs)) (by omega) (by omega)
   have i2 := zoI (hm a List.mem_cons_self) (by omega) (by omega)
   have i3 : (segE a).length ≤ 9 + (serS a).length := zfh (by omega)
   rw [List.flatMap_cons, List.length_append, List.length_cons]
   omega
 have h4 := h3 x.segs hx.rt hz hn
 unfold serX
 rw [List.length_append, List.length_append]
 omega
section
end
abbrev OwnSg (w : World) (B : Nat) (v : Value) (l : List (Sv × Sgm)) : Prop := w.ownsRow B 65 2 v l.length (l.flatMap sgP)
theorem lenSg (x : Sv × Sgm) : (sgP x).length = 2 := rfl
theorem infoSg : (Tryz.prog.info? 65).map (fun i => (i.zero, i.size, i.bytes)) = some (some (.agg #[.slice none 0 0, .slice none 0 0]), 2, 48) := by kernel_rfl
theorem tySg : RowTy 56 65 sgP 2 48 := ⟨Tryz.underlying56, ⟨_, infoSg, rfl⟩, by decide, lenSg, fun x => List.all_eq_true.1 (by rfl)⟩
theorem zpW {w : World} {v : Value} (l : List (Sv × Sgm)) (g : Nat) (c0 : Value) (p : (Sv × Sgm) → Bool) (hv : RowO w v sgP l) (hl : l.length ≤ 1000000000) (hg : ∀ (args : Array Value) (w : World), (callFunc g args).run Tryz.prog w = .ok (.enter g args) w)
  (hp : ∀ x ∈ l, ∀ w', Kp w w' n_ → Calls Tryz.prog g #[.agg (sgP x).toArray, c0] w' fun e w'' => e = .returned (.bool (p x)) ∧ Kp w' w'' n_) :
  Calls Tryz.prog 95 #[v, .func (.func g) #[] #[c0]] w fun e w' => e = .returned (.int .i64 (idxP p l)) ∧ Kp w w' n_ := by
 obtain ⟨a, cap, rfl, hr⟩ := hv
 refine zaa (args := [.slice a l.length cap, .func (.func g) #[] #[c0]]) Tryz.func95 rfl NL ?_; refine GW ?_
 refine Loop.intro (ι := Nat) (fun i => [(0, .slice a l.length cap), (1, .func (.func g) #[] #[c0]), (7, .int .i64 (l.length : Nat)), (8, .int .i64 (i : Nat))])
  (fun i wr => Kp w wr n_ ∧ i ≤ l.length ∧ ∀ j (h : j < l.length), j < i → p l[j] = false) (fun i => l.length - i) 0 ⟨rfl, rfl, rfl, rfl, trivial⟩ ⟨Kp.refl _ _, Nat.zero_le _, fun _ _ h => by omega⟩ ?_
 rintro i gg wr ⟨hK, hi, he⟩
 refine GW ?_
 by_cases hlt : i < l.length
 ·obtain ⟨gb, o, rfl, hgb, hat⟩ := hr (by omega)
  have hpc := hp l[i] (List.getElem_mem hlt) wr hK
  obtain ⟨q, hq⟩ : ∃ q, p l[i] = q := ⟨_, rfl⟩
  rw [hq] at hpc
  refine KGO ?_
  refine CallS.of (hg _ _) hpc ?_
  rintro e w1 ⟨rfl, k1⟩
  refine RT ?_
  cases q with
  | true =>
   refine KGO ?_
   exact ⟨by rw [zdo hlt hq he], hK.trans0 k1⟩
  | false =>
   refine KGO ?_
   exact ⟨i + 1, ⟨rfl, rfl, rfl, v_int (by simp), trivial⟩, ⟨hK.trans0 k1, by omega, fun j h hj => by
    rcases Nat.lt_or_ge j i with h' | h'
    ·exact he j h h'
    ·obtain rfl : j = i := by omega
     exact hq⟩, by dsimp only; omega⟩
 ·refine KGO ?_
  exact ⟨by rw [zdJ fun j h => he j h (by omega)], hK⟩
theorem zqT {w : World} {v : Value} (l : List (Sv × Sgm)) (g : Nat) (p : (Sv × Sgm) → Bool) (hv : RowO w v sgP l) (hl : l.length ≤ 1000000000) (hg : ∀ (args : Array Value) (w : World), (callFunc g args).run Tryz.prog w = .ok (.enter g args) w)
  (hp : ∀ x ∈ l, ∀ w', Kp w w' n_ → Calls Tryz.prog g #[.agg (sgP x).toArray] w' fun e w'' => e = .returned (.bool (p x)) ∧ Kp w' w'' n_) :
  Calls Tryz.prog 95 #[v, .func (.func g) #[] #[]] w fun e w' => e = .returned (.int .i64 (idxP p l)) ∧ Kp w w' n_ := by
 obtain ⟨a, cap, rfl, hr⟩ := hv
 refine zaa (args := [.slice a l.length cap, .func (.func g) #[] #[]]) Tryz.func95 rfl NL ?_; refine GW ?_
 refine Loop.intro (ι := Nat) (fun i => [(0, .slice a l.length cap), (1, .func (.func g) #[] #[]), (7, .int .i64 (l.length : Nat)), (8, .int .i64 (i : Nat))])
  (fun i wr => Kp w wr n_ ∧ i ≤ l.length ∧ ∀ j (h : j < l.length), j < i → p l[j] = false) (fun i => l.length - i) 0 ⟨rfl, rfl, rfl, rfl, trivial⟩ ⟨Kp.refl _ _, Nat.zero_le _, fun _ _ h => by omega⟩ ?_
 rintro i gg wr ⟨hK, hi, he⟩
 refine GW ?_
 by_cases hlt : i < l.length
 ·obtain ⟨gb, o, rfl, hgb, hat⟩ := hr (by omega)
  have hpc := hp l[i] (List.getElem_mem hlt) wr hK
  obtain ⟨q, hq⟩ : ∃ q, p l[i] = q := ⟨_, rfl⟩
  rw [hq] at hpc
  refine KGO ?_
  refine CallS.of (hg _ _) hpc ?_
  rintro e w1 ⟨rfl, k1⟩
  refine RT ?_
  cases q with
  | true =>
   refine KGO ?_
   exact ⟨by rw [zdo hlt hq he], hK.trans0 k1⟩
  | false =>
   refine KGO ?_
   exact ⟨i + 1, ⟨rfl, rfl, rfl, v_int (by simp), trivial⟩, ⟨hK.trans0 k1, by omega, fun j h hj => by
    rcases Nat.lt_or_ge j i with h' | h'
    ·exact he j h h'
    ·obtain rfl : j = i := by omega
     exact hq⟩, by dsimp only; omega⟩
 ·refine KGO ?_
  exact ⟨by rw [zdJ fun j h => he j h (by omega)], hK⟩
theorem zpQ {w : World} {v : Value} {B : Nat} (l : List (Sv × Sgm)) (g : Nat) (p : (Sv × Sgm) → Bool) (ho : OwnSg w B v l) (hl : l.length ≤ 1000000000) (hg : ∀ (args : Array Value) (w : World), (callFunc g args).run Tryz.prog w = .ok (.enter g args) w)
  (hp : ∀ x ∈ l, ∀ w', Kp w w' (own_ v) → Calls Tryz.prog g #[.agg (sgP x).toArray] w' fun e w'' => e = .returned (.bool (p x)) ∧ Kp w' w'' n_) :
  Calls Tryz.prog 199 #[v, .func (.func g) #[] #[]] w fun e w' => ∃ v', e = .returned v' ∧ OwnSg w' B v' (l.filter fun x => !p x) ∧ Kp w w' (own_ v) ∧ (v'.ownBlock = v.ownBlock) := by
 obtain ⟨a, cap0, rfl⟩ := zab ho
 refine zaa (args := [.slice a l.length cap0, .func (.func g) #[] #[]]) Tryz.func199 rfl NL ?_; refine GW ?_
 refine CallS.of (Tryz.call95 _ _) (zqT l g p (zaw ho) hl hg (fun x hx w' k => hp x hx w' k.of_none)) ?_
 rintro e w1 ⟨rfl, k1⟩
 refine RT ?_
 rcases idxP_lt p l with hi | ⟨i0, hi0, he0, hp0, hb0⟩
 ·rw [hi]
  refine KGO ?_
  refine ⟨_, rfl, ?_, k1.of_none, rfl⟩
  have hf : (l.filter fun x => !p x) = l := List.filter_eq_self.2 fun x hx => by
   have h : ¬ l.any p = true := fun h => by have := (zew p l).2 h; omega
   have := List.any_eq_false.1 (by simpa using h) x hx
   simpa using this
  rw [hf]
  exact zac ho k1
 rw [he0]
 rcases own_blockK ho with ⟨hnil, h0⟩ | ⟨gb, cap, cells0, hev, hBg, hv0, hnc, hcm, hcl0, htk0⟩
 ·omega
 injection hev with hev _ hcc
 subst hev; subst hcc
 have hgk : gb < w1.heap.size := Nat.lt_of_lt_of_le hv0.lt k1.size
 have ho1 := zac ho k1
 have hfl0 : ((l.take (i0 + 1)).filter fun x => !p x) = l.take i0 := by
  rw [zcr hi0, hp0]
  have : (l.take i0).filter (fun x => !p x) = l.take i0 := List.filter_eq_self.2 fun x hx => by
   obtain ⟨j, hj, rfl⟩ := List.mem_take_iff_getElem.1 hx
   rw [hb0 j (by omega)]; rfl
  rw [this]; simp
 refine KGO ?_
 refine Loop.intro (ι := Nat × Nat × List (Sv × Sgm)) (fun q => [(0, .slice (some ⟨gb, 0, none⟩) l.length cap0), (1, .func (.func g) #[] #[]), (5, .int .i64 (q.1 : Nat)), (6, .int .i64 (q.2.1 : Nat))])
  (fun q wr => Kp w wr (one_ gb) ∧ q.2.1 ≤ l.length ∧ q.1 < q.2.1 ∧ q.2.2.length = l.length ∧ q.2.2.take q.1 = ((l.take q.2.1).filter fun x => !p x) ∧ q.2.2.drop q.2.1 = l.drop q.2.1 ∧ OwnSg wr B (.slice (some ⟨gb, 0, none⟩) q.2.2.length cap0) q.2.2)
  (fun q => l.length - q.2.1) (i0, i0 + 1, l) ⟨rfl, rfl, rfl, v_int (by simp), trivial⟩ ⟨k1.of_none, by dsimp only; omega, by dsimp only; omega, rfl, by dsimp only; rw [hfl0], rfl, ho1⟩ ?_
 clear ho1 hfl0 hb0 hp0 he0 hi0 i0
 rintro ⟨i, j, cur⟩ gg wr ⟨hK, hj, hij, hcl2, htk2, hdr2, ho2⟩
 dsimp only at hj hij hcl2 htk2 hdr2 ho2 ⊢
 rcases own_blockK ho2 with ⟨h, h0⟩ | ⟨g2, cap, cells, hev, hBg2, hv, hnc2, hcm2, hcl, htk⟩
 ·cases h
 injection hev with hev _ hcc
 injection hev with hev
 injection hev with hev
 subst hev; subst hcc
 have hrow := zds ho2
 have kr := Kp.refl wr n_
 refine GW ?_
 by_cases hlt : j < l.length
 ·have hcj : cur[j]'(by omega) = l[j] := by
   have h1 : (cur.drop j)[0]? = (l.drop j)[0]? := by rw [hdr2]
   rw [List.getElem?_drop, List.getElem?_drop, Nat.add_zero, List.getElem?_eq_getElem (by omega), List.getElem?_eq_getElem hlt] at h1
   exact Option.some.inj h1
  have hfs := zcr (p := fun x => !p x) hlt
  have hjc : j < cur.length := by omega
  obtain ⟨q, hq⟩ : ∃ q, p l[j] = q := ⟨_, rfl⟩
  have hmx := List.getElem_mem hlt
  rw [hq] at hfs
  refine KGO ?_
  rw [hcj]
  generalize hxj : l[j] = x at *
  refine Store.fresh (vs := sgP x) (by rfl) rfl (zax (by rfl)) ?_
  obtain ⟨a_b7, k_wv, z_wv⟩ := new3 wr 65 (sgP x)
  generalize wr.alloc (.cells (List.toArray (sgP x)) 65) = wv at *
  generalize hs_b7 : wr.heap.size = b7 at *
  refine KGO ?_
  have hpc := hp x hmx wv ((hK.trans0 k_wv).mono fun q _ hq => by have hq : q = gb := hq; rw [hq]; rfl)
  rw [hq] at hpc
  refine CallS.of (hg _ _) hpc ?_
  rintro e w1 ⟨rfl, k1⟩
  refine RT ?_
  cases q with
  | true =>
   refine KGO ?_
   refine ⟨(i, j + 1, cur), ⟨rfl, rfl, rfl, v_int (by simp), trivial⟩, ⟨(hK.trans0 k_wv).trans0 k1, by dsimp only; omega, by dsimp only; omega, hcl2, ?_, ?_, zac (zac ho2 k_wv) k1⟩, by dsimp only; omega⟩
   ·dsimp only
    rw [hfs, htk2]; simp
   ·dsimp only
    rw [← List.drop_drop, hdr2, List.drop_drop]
  | false =>
   refine KGO ?_
   have hv := (hv.keep0 k_wv).keep0 k1
   refine Store.elemK (l := cur) (k := i) (B := B) (cap := cap0) x lenSg (by rfl) (zax (by rfl)) hv hBg (by omega) hcm hcl htk (by omega) fun w2 o2 v2 k2 => ?_
   refine KGO ?_
   have hil : i < cur.length := by omega
   refine ⟨(i + 1, j + 1, cur.set i x), ⟨rfl, rfl, v_int (by simp), v_int (by simp), trivial⟩, ⟨(hK.trans0 k_wv).trans' (k1.of_none.trans' k2), by dsimp only; omega, by dsimp only; omega, by dsimp only; rw [List.length_set]; exact hcl2, ?_, ?_, ?_⟩, by dsimp only; omega⟩
   ·dsimp only
    rw [hfs, ← htk2, List.take_succ_eq_append_getElem (by rw [List.length_set]; exact hil), List.getElem_set_self, List.take_set_of_le (Nat.le_refl _)]
    simp
   ·dsimp only
    rw [List.drop_set_of_lt (by omega), ← List.drop_drop, hdr2, List.drop_drop]
   ·dsimp only
    unfold OwnSg
    rw [List.length_set]
    exact o2
 ·have hjl : j = l.length := by omega
  subst hjl
  rw [List.take_length] at htk2
  have hil : i < cur.length := by omega
  refine KGO ?_
  rw [if_neg (by omega : ¬ i = cap0)]
  refine RunN.clearK (s := 2) (n := l.length - i) Tryz.underlying56 infoSg rfl (by intro u hu; simp [Value.cells] at hu; first | (subst hu; rfl) | (rcases hu with rfl | rfl <;> rfl)) hv (by first | (rw [hcl]; omega) | omega) fun w3 zs hzl v3 k3 => ?_
  refine KGO ?_
  have hle : (l.filter fun x => !p x).length = i := by rw [← htk2, List.length_take]; omega
  rw [if_neg (by omega : ¬ 0 = cap0), Nat.sub_zero, Nat.sub_zero]
  refine ⟨_, rfl, ?_, ((hK.trans' k3).mono fun q _ hq => by have hq : q = gb := hq; rw [hq]; rfl), rfl⟩
  have htA : cells.take (0 + i * 2) = (l.filter fun x => !p x).flatMap sgP := by
   rw [Nat.zero_add, ← htk2, ← zbK sgP 2 lenSg, ← htk, List.take_take, Nat.min_eq_left (by omega)]
  have hlA : ((l.filter fun x => !p x).flatMap sgP).length = i * 2 := by rw [zaW sgP 2 lenSg, hle]
  first | rw [htA] at v3 | (rw [show 0 + i * 2 = 0 + i by omega] at htA; rw [htA] at v3)
  unfold OwnSg
  rw [hle]
  refine zbZ hBg v3 (by omega) hcm2 ?_ ?_ hlA
  ·rw [List.length_append, List.length_append, hlA, hzl, List.length_drop]; omega
  ·rw [List.append_assoc, ← hlA, List.take_left]
end Go.Proofs.YtennokckmjcefaaGreatDoor
namespace Go.Proofs.YtennokckmjcefaaGreatDoor
open Go.Shelf Go.RowKit Go.Pw Go.Vc Go.Cs Go.Lib
section
end
end Go.Proofs.YtennokckmjcefaaGreatDoor
