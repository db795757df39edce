/- Helper lemmas that the proved statement rests on; no conditions of their own. -/
import Derived.Test.YtennokckmjcefaaGreatDoorGNi5
set_option linter.unusedVariables false
set_option maxHeartbeats 8000000
set_option maxRecDepth 100000
namespace Go.Proofs.YtennokckmjcefaaGreatDoor
open Go.Shelf Go.RowKit Go.Pw Go.Vc Go.Cs Go.Lib Go.Cd Go.Mg
def zT (t : Trm) : Nat := cntP (plT t) + 1
def zS (s : Sgm) : Nat := (s.terms.map zT).sum
def zX (l : List Sgm) : Nat := (l.map zS).sum
theorem zcQ (s : Sgm) (l : List Sgm) : zX (s :: l) = zS s + zX l := by unfold zX; rw [List.map_cons, List.sum_cons]
theorem zjY (a b : List Sgm) : zX (a ++ b) = zX a + zX b := by unfold zX; rw [List.map_append, List.sum_append]
theorem zoh : ∀ l : List Sgm, zX (fullL l) ≤ zX l
 | [] => Nat.le_refl _
 | s :: l => by
  have ih := zoh l
  unfold fullL at ih ⊢
  rw [List.filter_cons]
  split
  ·rw [zcQ, zcQ]; omega
  ·rw [zcQ]; omega
theorem zoa (s : Sgm) : zS (validS s) ≤ zS s := by
 unfold validS
 split
 ·exact Nat.le_refl _
 ·exact Nat.zero_le _
theorem zte {dl : List Int} {x : Trm × List Pst} {t : Trm} (h : termOf dl x = some t) : zT t ≤ cntP x.2 + 1 := by
 unfold termOf at h
 split at h
 ·cases h
 ·injection h with h
  subst h
  have h1 := zjO x.1.field x.1.word (liveP dl x.2)
  have h2 := zdi (fun p => !decide (p.doc ∈ dl)) x.2
  unfold zT
  unfold liveP at h1 ⊢
  omega
theorem z_fm (dl : List Int) : ∀ l : List (Trm × List Pst), ((l.filterMap (termOf dl)).map zT).sum ≤ (l.map fun x => cntP x.2 + 1).sum
 | [] => Nat.le_refl _
 | x :: l => by
  have ih := z_fm dl l
  rw [List.filterMap_cons, List.map_cons, List.sum_cons]
  cases h : termOf dl x with
  | none => dsimp only; omega
  | some t =>
   have := zte h
   dsimp only
   rw [List.map_cons, List.sum_cons]; omega
theorem zsg : ∀ (n : Nat) (a b : List Trm), a.length + b.length ≤ n → ((mergeT a b).map fun x => cntP x.2 + 1).sum ≤ (a.map zT).sum + (b.map zT).sum := by
 intro n
 induction n with
 | zero =>
  intro a b h
  obtain rfl : a = [] := List.eq_nil_of_length_eq_zero (by omega)
  obtain rfl : b = [] := List.eq_nil_of_length_eq_zero (by omega)
  rw [zcz]; exact Nat.le_refl _
 | succ n ih =>
  intro a b h
  cases a with
  | nil =>
   cases b with
   | nil => rw [zcz]; exact Nat.le_refl _
   | cons y b =>
    have := ih [] b (by simp only [List.length_nil, List.length_cons] at h ⊢; omega)
    rw [zcA, zeq]
    simp only [List.map_cons, List.sum_cons, List.map_nil, List.sum_nil] at this ⊢
    unfold zT at this ⊢
    omega
  | cons x a =>
   cases b with
   | nil =>
    have := ih a [] (by simp only [List.length_nil, List.length_cons] at h ⊢; omega)
    rw [zbZ, zes]
    simp only [List.map_cons, List.sum_cons, List.map_nil, List.sum_nil] at this ⊢
    unfold zT at this ⊢
    omega
   | cons y b =>
    simp only [List.length_cons] at h
    have h1 := ih a (y :: b) (by simp only [List.length_cons]; omega)
    have h2 := ih a b (by omega)
    have h3 := ih (x :: a) b (by simp only [List.length_cons]; omega)
    have h4 := zeD _ (plT x) (plT y) (Nat.le_refl _)
    rw [zbW, zes, zeq]
    simp only [List.map_cons, List.sum_cons] at h1 h2 h3 ⊢
    unfold zT at h1 h2 h3 ⊢
    split
    ·rw [List.map_cons, List.sum_cons]; dsimp only; omega
    ·split
     ·rw [List.map_cons, List.sum_cons]; dsimp only; omega
     ·rw [List.map_cons, List.sum_cons]; dsimp only; omega
theorem z_two (a b : Sgm) (dl : List Int) : zS (twoS a b dl) ≤ zS a + zS b := by
 have h1 := z_fm dl (mergeT (validS a).terms (validS b).terms)
 have h2 := zsg _ (validS a).terms (validS b).terms (Nat.le_refl _)
 have h3 := zoa a
 have h4 := zoa b
 unfold twoS
 unfold zS at h3 h4 ⊢
 dsimp only
 omega
theorem z_nil : zS ⟨[], []⟩ = 0 := rfl
theorem zqX (x : Ix) (i n : Nat) (s : Sgm) (h : zS s ≤ zX ((x.segs.drop i).take n)) : zX (replX x i n s).segs ≤ zX x.segs := by
 have e : x.segs = x.segs.take i ++ ((x.segs.drop i).take n ++ x.segs.drop (i + n)) := by
  rw [show x.segs.drop (i + n) = (x.segs.drop i).drop n from by rw [List.drop_drop], List.take_append_drop, List.take_append_drop]
 have h1 := zoh (x.segs.take i ++ s :: x.segs.drop (i + n))
 have h2 : zX x.segs = zX (x.segs.take i) + (zX ((x.segs.drop i).take n) + zX (x.segs.drop (i + n))) := by rw [← zjY, ← zjY, ← e]
 rw [zjY, zcQ] at h1
 show zX (fullL (x.segs.take i ++ s :: x.segs.drop (i + n))) ≤ _
 omega
theorem z_one (x : Ix) {i : Nat} (hi : i < x.segs.length) (dl : List Int) : zX (replX x i 1 (twoS (x.segs.getD i ⟨[], []⟩) ⟨[], []⟩ dl)).segs ≤ zX x.segs := by
 refine zqX x i 1 _ ?_
 have h := z_two (x.segs.getD i ⟨[], []⟩) ⟨[], []⟩ dl
 rw [zbv hi] at h ⊢
 have e : (x.segs.drop i).take 1 = [x.segs[i]] := by rw [List.drop_eq_getElem_cons hi]; rfl
 rw [e, zcQ]
 rw [z_nil] at h
 omega
theorem zti (x : Ix) {i : Nat} (hi : i + 1 < x.segs.length) (dl : List Int) : zX (replX x i 2 (twoS (x.segs.getD i ⟨[], []⟩) (x.segs.getD (i + 1) ⟨[], []⟩) dl)).segs ≤ zX x.segs := by
 refine zqX x i 2 _ ?_
 have h := z_two (x.segs.getD i ⟨[], []⟩) (x.segs.getD (i + 1) ⟨[], []⟩) dl
 rw [zbv (by omega : i < x.segs.length), zbv hi] at h ⊢
 have e : (x.segs.drop i).take 2 = [x.segs[i], x.segs[i + 1]] := by rw [List.drop_eq_getElem_cons (by omega : i < x.segs.length), List.drop_eq_getElem_cons hi]; rfl
 rw [e, zcQ, zcQ]
 omega
theorem ztt (x : Ix) (doc : Int) : zX (readX x doc).segs ≤ zX x.segs := by
 unfold readX
 split
 ·rename_i i h
  obtain ⟨hi, _⟩ := zcu h
  exact z_one x hi _
 ·exact Nat.le_refl _
theorem zto (x : Ix) : zX (stepX x).2.segs ≤ zX x.segs := by
 unfold stepX
 split
 ·rename_i i h
  have := zcS h
  rw [List.length_map] at this
  exact zti x this _
 ·split
  ·rename_i i h
   exact z_one x (List.findIdx?_eq_some_iff_getElem.1 h).1 _
  ·exact Nat.le_refl _
theorem zsN (x : Ix) (doc : Int) : zX (dropX x doc).2.segs = zX x.segs := by
 unfold dropX
 split <;> rfl
theorem ziY {α : Type} [BEq α] [LawfulBEq α] : ∀ (M K : List α), K.Nodup → (K.map fun k => M.count k).sum ≤ M.length
 | [], K, _ => by
  have : ∀ K : List α, (K.map fun k => ([] : List α).count k).sum = 0 := fun K => by
   induction K with
   | nil => rfl
   | cons k K ih => rw [List.map_cons, List.sum_cons, ih, List.count_nil]
  rw [this]; exact Nat.zero_le _
 | m :: M, K, h => by
  have ih := ziY M K h
  have key : ∀ K : List α, K.Nodup → (K.map fun k => (m :: M).count k).sum ≤ (K.map fun k => M.count k).sum + if m ∈ K then 1 else 0 := by
   intro K
   induction K with
   | nil => intro _; exact Nat.zero_le _
   | cons k K ih =>
    intro h
    obtain ⟨h1, h2⟩ := List.nodup_cons.1 h
    have := ih h2
    rw [List.map_cons, List.sum_cons, List.map_cons, List.sum_cons, List.count_cons]
    by_cases hm : m = k
    ·subst hm
     rw [if_neg h1] at this
     rw [if_pos List.mem_cons_self, if_pos (by simp)]
     omega
    ·have e : (m ∈ k :: K) = (m ∈ K) := by simp [hm]
     simp only [e]
     rw [if_neg (by simpa using hm)]
     omega
  have := key K h
  rw [List.length_cons]
  split at this <;> omega
theorem zgv (w : List UInt8) : ∀ (i : Nat) (l : List (List UInt8)), (posF w i l).length = l.count w
 | i, [] => rfl
 | i, x :: r => by
  rw [posF, List.count_cons]
  have ih := zgv w (i + 1) r
  by_cases h : x = w
  ·rw [if_pos h, if_pos (by simpa using h), List.length_cons, ih]
  ·rw [if_neg h, if_neg (by simpa using h), ih]; rfl
abbrev keysE (es : List Ent) : List Ky := es.flatMap fun e => (wordsOf e.text).map fun w => (e.field, w)
theorem zif (f : Int) (k : Ky) : ∀ l : List (List UInt8), (l.map fun w => ((f, w) : Ky)).count k = if f = k.1 then l.count k.2 else 0
 | [] => by split <;> rfl
 | x :: l => by
  rw [List.map_cons, List.count_cons, zif f k l, List.count_cons]
  obtain ⟨a, b⟩ := k
  by_cases h : f = a
  ·subst h
   by_cases h2 : x = b
   ·subst h2; simp
   ·simp [h2]
  ·simp [h]
theorem zeI (k : Ky) (d : Int) : ∀ es : List Ent, (placesE es k d).length ≤ (keysE es).count k
 | [] => Nat.le_refl _
 | e :: es => by
  have ih := zeI k d es
  rw [show placesE (e :: es) k d = partE (wordsOf e.text) e.doc e.field k d ++ placesE es k d from rfl, List.length_append, show keysE (e :: es) = ((wordsOf e.text).map fun w => ((e.field, w) : Ky)) ++ keysE es from rfl, List.count_append, zif]
  unfold partE
  split
  ·rename_i h
   rw [if_pos h.2.symm, zgv]; omega
  ·simp only [List.length_nil]; omega
theorem zrw (d : Int) (l : List Int) : cntP [⟨d, l⟩] = l.length + 2 := by rw [Mg.cnt_cons]; rfl
theorem zrA {doc : Int} {es : List Ent} (h : ∀ e ∈ es, e.doc = doc) : zS (buildE es) ≤ 4 * (keysE es).length := by
 have hd : ∀ d ∈ sortI (es.map (·.doc)), d = doc := fun d hd => by
  obtain ⟨e, he, rfl⟩ := List.mem_map.1 ((zbb stoI _ d).1 hd)
  exact h e he
 have hasc : AscB ltI (sortI (es.map (·.doc))) := zbs stoI _
 have hle : ∀ (l : List Int), AscB ltI l → (∀ d ∈ l, d = doc) → l.length ≤ 1 := fun l ha hl => by
  match l, ha, hl with
  | [], _, _ => exact Nat.zero_le _
  | [a], _, _ => exact Nat.le_refl _
  | a :: b :: l, ha, hl =>
   have h1 := (List.pairwise_cons.1 ha).1 b List.mem_cons_self
   have h2 := hl a List.mem_cons_self
   have h3 := hl b (List.mem_cons_of_mem _ List.mem_cons_self)
   rw [h2, h3] at h1
   simp [ltI] at h1
 have hK : (sortD ltK (keysE es)).Nodup := (zbs stoK (keysE es)).imp fun h => zdH h
 have hKl : (sortD ltK (keysE es)).length ≤ (keysE es).length := by
  refine zaX _ _ hK fun x hx => (zbb stoK _ x).1 hx
 have hterm : ∀ k, zT (tmOf (placesE es) (k, (sortI (es.map (·.doc))).filter fun d => !(placesE es k d).isEmpty)) ≤ 3 + (keysE es).count k := fun k => by
  unfold tmOf zT
  have h1 := zjO k.1 k.2 (postG (placesE es) (k, (sortI (es.map (·.doc))).filter fun d => !(placesE es k d).isEmpty))
  have h2 : cntP (postG (placesE es) (k, (sortI (es.map (·.doc))).filter fun d => !(placesE es k d).isEmpty)) ≤ 2 + (keysE es).count k := by
   unfold postG
   dsimp only
   have hs : (sortL ((sortI (es.map (·.doc))).filter fun d => !(placesE es k d).isEmpty)).length ≤ 1 := by
    rw [List.length_mergeSort]
    refine Nat.le_trans (List.length_filter_le _ _) (hle _ hasc hd)
   generalize sortL ((sortI (es.map (·.doc))).filter fun d => !(placesE es k d).isEmpty) = L at *
   match L, hs with
   | [], _ => exact Nat.zero_le _
   | [d], _ =>
    show cntP [⟨d, placesE es k d⟩] ≤ _
    rw [zrw]
    have := zeI k d es
    omega
  dsimp only at h1 ⊢
  omega
 have hsum : ∀ K : List Ky, ((K.map fun k => tmOf (placesE es) (k, (sortI (es.map (·.doc))).filter fun d => !(placesE es k d).isEmpty)).map zT).sum ≤ 3 * K.length + (K.map fun k => (keysE es).count k).sum := by
  intro K
  induction K with
  | nil => exact Nat.zero_le _
  | cons k K ih =>
   have := hterm k
   simp only [List.map_cons, List.sum_cons, List.length_cons] at ih ⊢
   omega
 have h1 := hsum (sortD ltK (keysE es))
 have h2 := ziY (keysE es) _ hK
 have e : (klE es).map (tmOf (placesE es)) = (sortD ltK (keysE es)).map fun k => tmOf (placesE es) (k, (sortI (es.map (·.doc))).filter fun d => !(placesE es k d).isEmpty) := by
  unfold klE
  rw [List.map_map]; rfl
 show (((klE es).map (tmOf (placesE es))).map zT).sum ≤ _
 rw [e]
 refine Nat.le_trans h1 ?_
 omega
theorem zoW (doc : Int) (tx : List (List UInt8)) : (keysE (entsX doc tx)).length ≤ 2 * ((tx.getD 1 []).length + (tx.getD 2 []).length + (tx.getD 3 []).length + (tx.getD 4 []).length + (tx.getD 5 []).length) + 5 := by
 have h1 := zbd (tx.getD 1 [])
 have h2 := zbd (tx.getD 2 [])
 have h3 := zbd (tx.getD 3 [])
 have h4 := zbd (tx.getD 4 [])
 have h5 := zbd (tx.getD 5 [])
 unfold keysE entsX
 simp only [List.flatMap_cons, List.flatMap_nil, List.length_append, List.length_map, List.length_nil]
 omega
theorem z_add (x : Ix) (doc : Int) (tx : List (List UInt8)) : zX (addX x doc tx).2.segs ≤ zX x.segs + (8 * ((tx.getD 1 []).length + (tx.getD 2 []).length + (tx.getD 3 []).length + (tx.getD 4 []).length + (tx.getD 5 []).length) + 20) := by
 unfold addX
 split
 ·exact Nat.le_add_right _ _
 ·split
  ·exact Nat.le_add_right _ _
  ·have h1 := ztt x doc
   have h2 := zrA (doc := doc) (es := entsX doc tx) (fun e he => zce he)
   have h3 := zoW doc tx
   dsimp only
   rw [zjY, zcQ]
   have h4 : zX [] = 0 := rfl
   omega
theorem word40 {docs : List Int} {t : Trm} (h : okTerm docs t = true) : t.word.length ≤ 40 := by
 unfold okTerm at h
 rw [Bool.and_eq_true, Bool.and_eq_true] at h
 have hw := of_decide_eq_true h.1.2
 have hm : t.word ∈ wordsOf t.word := by rw [hw]; exact List.mem_cons_self
 obtain ⟨x, hx, e⟩ := List.mem_map.1 hm
 have := zjZ (zfq _ x hx)
 rw [e] at this
 exact this
theorem zcs {u : List UInt8} (h : u.length < 2 ^ 63) : (textE u).length ≤ 9 + u.length := by
 have := zaC h
 unfold textE
 rw [List.length_append]; omega
theorem zmz {docs : List Int} {t : Trm} (h : okTerm docs t = true) (hc : cntP (plT t) ≤ 1000000000) : (termE t).length ≤ 85 * zT t := by
 have hw := word40 h
 have hl : t.list.length ≤ 9 + 9 * cntP (plT t) := by
  rw [(zcW h).2]
  exact zdr _
 unfold okTerm at h
 rw [Bool.and_eq_true, Bool.and_eq_true] at h
 have hf := of_decide_eq_true h.1.1
 have h1 := zaC (n := t.field.toNat) (by omega)
 have h2 := zcs (u := t.word) (by omega)
 have h3 := zcs (u := t.list) (by omega)
 unfold termE zT
 rw [List.length_append, List.length_append]
 omega
theorem zT_le {s : Sgm} : ∀ t ∈ s.terms, zT t ≤ zS s := by
 have : ∀ l : List Trm, ∀ t ∈ l, zT t ≤ (l.map zT).sum := by
  intro l
  induction l with
  | nil => intro t h; cases h
  | cons a l ih =>
   intro t h
   rw [List.map_cons, List.sum_cons]
   rcases List.mem_cons.1 h with rfl | h
   ·omega
   ·have := ih t h; omega
 exact this s.terms
theorem zqn {s : Sgm} (h : rightS s = true) (hz : zS s ≤ 1000000000) (hd : s.docs.length ≤ 1000000000) : (serS s).length ≤ 18 + 9 * s.docs.length + 85 * zS s := by
 obtain ⟨⟨_, r0⟩, r2, _⟩ := zan.1 h
 unfold serS
 rw [if_pos h]
 have h1 : (numsE (toN s.docs)).length ≤ 9 + 9 * s.docs.length := by
  unfold numsE
  have hl : (toN s.docs).length = s.docs.length := by unfold toN; exact List.length_map _
  have h2 := zaC (n := (toN s.docs).length) (by omega)
  have h3 := zbV (toN s.docs) fun n hn => by
   obtain ⟨d, hd, rfl⟩ := List.mem_map.1 hn
   have := r0 d hd
   omega
  rw [List.length_append]; omega
 have ht : s.terms.length ≤ zS s := by
  unfold zS
  generalize s.terms = l
  induction l with
  | nil => exact Nat.zero_le _
  | cons a l ih => rw [List.map_cons, List.sum_cons, List.length_cons]; unfold zT at *; omega
 have h2 := zaC (n := s.terms.length) (by omega)
 have h3 : ∀ l : List Trm, (∀ t ∈ l, t ∈ s.terms) → (l.flatMap termE).length ≤ 85 * (l.map zT).sum := by
  intro l
  induction l with
  | nil => intro _; exact Nat.zero_le _
  | cons a l ih =>
   intro hm
   have i1 := ih fun t ht => hm t (List.mem_cons_of_mem _ ht)
   have ha := hm a List.mem_cons_self
   have i2 := zT_le a ha
   have i3 := zmz (r2 a ha) (by unfold zT at i2; omega)
   rw [List.flatMap_cons, List.length_append, List.map_cons, List.sum_cons]; omega
 have h4 := h3 s.terms fun t h => h
 rw [List.length_append, List.length_append]
 unfold zS
 omega
theorem zpQ {x : Ix} (hx : IxOk x) (hz : zX x.segs ≤ 1000000000) (hn : docN x.segs ≤ 1000000) (hd : x.dead.length ≤ 1000000) : (serX x).length ≤ 18 + 36 * docN x.segs + 9 * x.dead.length + 85 * zX x.segs := by
 have hsd := ziH hx
 have h1 := zaC (n := x.segs.length) (by omega)
 have h2 : (numsE (toN x.dead)).length ≤ 9 + 9 * x.dead.length := by
  unfold numsE
  have hl : (toN x.dead).length = x.dead.length := by unfold toN; exact List.length_map _
  have h2 := zaC (n := (toN x.dead).length) (by omega)
  have h3 := zbV (toN x.dead) fun n hn => by
   obtain ⟨d, hd, rfl⟩ := List.mem_map.1 hn
   have := zgX hx d hd
   omega
  rw [List.length_append]; omega
 have h3 : ∀ l : List Sgm, (∀ s ∈ l, rightS s = true) → zX l ≤ 1000000000 → docN l ≤ 1000000 → (l.flatMap segE).length ≤ 27 * l.length + 9 * docN l + 85 * zX l := by
  intro l
  induction l with
  | nil => intro _ _ _; exact Nat.zero_le _
  | cons a l ih =>
   intro hm hz hd
   rw [zcQ] at hz ⊢
   rw [zaZ] at hd ⊢
   have i1 := ih (fun s hs => hm s (List.mem_cons_of_mem _ hs)) (by omega) (by omega)
   have i2 := zqn (hm a List.mem_cons_self) (by omega) (by omega)
   have i3 : (segE a).length ≤ 9 + (serS a).length := zcs (by omega)
   rw [List.flatMap_cons, List.length_append, List.length_cons]
   omega
 have h4 := h3 x.segs hx.rt hz hn
 unfold serX
 rw [List.length_append, List.length_append]
 omega
theorem zdR {α : Type} (f : α → List UInt8) (l : List α) (i : Nat) : ((l.take i).flatMap f).length ≤ (l.flatMap f).length := by
 conv => rhs; rw [← List.take_append_drop i l, List.flatMap_append, List.length_append]
 omega
section
variable {w : World}
theorem zlh (h : Sv) (s : Sgm) (hr : RdS w h s) (hs : SmS s) (hE : CEnv w) (hd : s.docs.length ≤ 100000000) (hl : (serS s).length ≤ 1000000000000) : Calls Tryz.prog 69 #[.agg (sgC h).toArray] w fun e w' => e = .returned (.string (str (serS s))) ∧ Kp w w' n_ := by
 obtain ⟨⟨at_, ct, et, hrt⟩, ⟨ad, cd, ed, hrd⟩, _, _⟩ := id hr
 obtain ⟨⟨ta, tn, tc⟩, ⟨da, dn, dc⟩⟩ := h
 injection et with q1 q2 q3
 injection ed with r1 r2 r3
 dsimp only at q1 q2 q3 r1 r2 r3
 subst q1 q2 q3 r1 r2 r3
 refine zaa (args := [.agg (sgC ⟨⟨ta, s.terms.length, tc⟩, ⟨da, s.docs.length, dc⟩⟩).toArray]) Tryz.func69 rfl NL ?_; refine GW ?_
 obtain ⟨a_b1, v_b1, k_w1, z_w1, r_w1⟩ := new5 w 65 (sgC ⟨⟨ta, s.terms.length, tc⟩, ⟨da, s.docs.length, dc⟩⟩)
 generalize w.alloc (.cells (List.toArray (sgC ⟨⟨ta, s.terms.length, tc⟩, ⟨da, s.docs.length, dc⟩⟩)) 65) = w1 at *
 generalize hs_b1 : w.heap.size = b1 at *
 refine KGO ?_
 refine CallS.of (Tryz.call116 _ _) (zfb (w := w1) ⟨⟨ta, s.terms.length, tc⟩, ⟨da, s.docs.length, dc⟩⟩ s (hr.keep k_w1) hs (hE.keep k_w1)) ?_
 rintro e w2 ⟨rfl, k2⟩
 have K2 := k_w1.trans0 k2
 have v2 := v_b1.keep0 k2
 unfold sgC at v2
 dsimp only at v2
 have a1 := v2.at
 have z2 := K2.size
 clear a_b1 v_b1
 refine RT ?_
 unfold serS at hl ⊢
 cases hq : rightS s with
 | false =>
  refine KGO ?_
  exact ⟨rfl, K2⟩
 | true =>
 rw [hq, if_pos rfl] at hl
 rw [if_pos rfl]
 obtain ⟨⟨_, r0⟩, r2, _⟩ := zan.1 hq
 have hdn := zkx hq
 have hNl : (toN s.docs).length = s.docs.length := by unfold toN; exact List.length_map _
 have hNb : ∀ n ∈ toN s.docs, n < 2 ^ 63 := fun n hn => by
  obtain ⟨d, hd, rfl⟩ := List.mem_map.1 hn
  have := r0 d hd
  omega
 refine KGO ?_
 have hb0 := zek w2 w2.heap.size (Nat.le_refl _)
 have K0 : Kp w2 (w2.alloc (.cells #[.pointer none, .slice none 0 0] 93)) n_ := (Kp.refl _ _).alloc _
 generalize w2.alloc (.cells #[.pointer none, .slice none 0 0] 93) = w3 at *
 obtain ⟨b2, hb2⟩ : ∃ b2, w2.heap.size = b2 := ⟨_, rfl⟩
 rw [hb2] at hb0 ⊢
 have a13 := zai a1 K0
 have K3 := K2.trans0 K0
 refine Draw.heldEnd (fun u => Kp w3 u n_) (fun _ => true) (by simp) (by decide +kernel) (by decide +kernel) (Kp.refl _ _).drew ?_
 refine KGO ?_
 have kd := (Kp.refl w3 n_).drew
 have hrow : RowI w3.drew (.slice da s.docs.length dc) (iL (toN s.docs)) := by rw [hdn]; exact hr.d.keep (K3.trans0 kd)
 refine CallS.of (Tryz.call70 _ _) (zov (w := w3.drew) (toN s.docs) hrow hNb (by omega)) ?_
 rintro e w4 ⟨rfl, k4⟩
 have k34 := kd.trans0 k4
 refine RT ?_
 refine ⟨k34, ?_⟩
 refine KGO ?_
 refine CallS.of (Tryz.call67 _ _) (zfK (w := w4) s.terms.length (by have := hs.t; omega)) ?_
 rintro e w5 ⟨rfl, k5⟩
 have k35 := k34.trans0 k5
 refine RT ?_
 refine ⟨k35, ?_⟩
 have KK : Kp w2 w5 n_ := K0.trans0 k35
 have hb5 := zba hb0 k35
 have hn1 := zaC (n := s.terms.length) (by have := hs.t; omega)
 have hn2 : (numsE (toN s.docs)).length ≤ 9 + 9 * s.docs.length := by
  unfold numsE
  have h2 := zaC (n := (toN s.docs).length) (by omega)
  have h3 := zbV (toN s.docs) hNb
  rw [List.length_append]; omega
 rw [← List.append_assoc] at hl ⊢
 rw [List.length_append, List.length_append] at hl
 refine KGO ?_
 refine RunV.cat (by show (numsE (toN s.docs)).length + (numE s.terms.length).length ≤ _; omega) ?_
 rw [zhv]
 have hpl : (numsE (toN s.docs) ++ numE s.terms.length).length ≤ 10000000000 := by rw [List.length_append]; omega
 generalize numsE (toN s.docs) ++ numE s.terms.length = PRE at *
 refine KGO ?_
 refine CallS.of (Tryz.call66 _ _) (zaR (str PRE) w5 hb5 (by rw [show (str PRE).size = PRE.length from rfl]; simp; omega) (by have := KK.size; omega)) ?_
 rintro e w6 ⟨rfl, hb6, hbe, _⟩
 have K6 : Kp w2 w6 n_ := KK.below' hbe (by omega)
 rw [List.nil_append, show L (str PRE) = PRE from rfl] at hb6
 have a16 := zai a1 K6
 have q6 := Kp.refl w6 n_
 clear hb0 hb5 hbe a13 K0 k34 k35 k4 k5 K3 KK kd hrow
 refine RT ?_
 refine KGO ?_
 have hstl := hs.t
 have hall : (s.terms.flatMap termE).length ≤ 1000000000000 := by omega
 refine Loop.intro (ι := Nat) (fun i => [(3, .pointer (some ⟨b2, 0, none⟩)), (19, .slice ta s.terms.length tc), (20, .int .i64 (s.terms.length : Nat)), (21, .int .i64 (i : Nat))])
  (fun i wr => Kp w2 wr n_ ∧ i ≤ s.terms.length ∧ Bld wr b2 b2 (PRE ++ (s.terms.take i).flatMap termE)) (fun i => s.terms.length - i) 0 ⟨rfl, rfl, rfl, rfl, trivial⟩ ⟨K6, Nat.zero_le _, by simpa using hb6⟩ ?_
 clear hb6 K6 a16 q6
 rintro i gg wr ⟨hK, hi, hb⟩
 have hKw := K2.trans0 hK
 have zr := hK.size
 refine GW ?_
 by_cases hlt : i < s.terms.length
 ·obtain ⟨gt, ot, rfl, hgt, hat⟩ := hrt (by omega)
  have hst : (s.terms.take (i + 1)).flatMap termE = (s.terms.take i).flatMap termE ++ termE s.terms[i] := by
   rw [List.take_succ_eq_append_getElem hlt, List.flatMap_append]; simp
  have hft := zdR termE s.terms (i + 1)
  rw [hst, List.length_append] at hft
  have hok := r2 s.terms[i] (List.getElem_mem hlt)
  have hsm := hs.x s.terms[i] (List.getElem_mem hlt)
  refine KGO ?_
  refine Store.fresh (vs := tmC s.terms[i]) (by rfl) rfl (zar (by rfl)) ?_
  obtain ⟨a_b5, k_w7, z_w7⟩ := new3 wr 141 (tmC s.terms[i])
  generalize wr.alloc (.cells (List.toArray (tmC s.terms[i])) 141) = w7 at *
  generalize hs_b5 : wr.heap.size = b5 at *
  have hb7 := zba hb k_w7
  have K7 := hK.trans0 k_w7
  clear hat hb
  generalize (s.terms.take i).flatMap termE = PT at *
  generalize s.terms[i] = t at *
  obtain ⟨f, wd, ls⟩ := t
  obtain ⟨n, rfl⟩ : ∃ n : Nat, f = n := by
   unfold okTerm at hok
   rw [Bool.and_eq_true, Bool.and_eq_true] at hok
   have := of_decide_eq_true hok.1.1
   exact ⟨f.toNat, by dsimp only at this; omega⟩
  have hn5 : n ≤ 5 := by
   unfold okTerm at hok
   rw [Bool.and_eq_true, Bool.and_eq_true] at hok
   have := of_decide_eq_true hok.1.1
   dsimp only at this; omega
  have hwl := hsm.w
  have hll := hsm.l
  dsimp only at hwl hll
  have hte : termE ⟨(n : Int), wd, ls⟩ = numE n ++ (textE wd ++ textE ls) := rfl
  have a5 : At w7 b5 0 [.int .i64 (n : Nat), .string (str wd), .string (str ls)] := a_b5
  rw [hte, List.length_append, List.length_append] at hft
  clear a_b5 hok hsm
  refine KGO ?_
  refine Draw.heldEnd (fun u => Kp w7 u n_) (fun _ => true) (by simp) (by decide +kernel) (by decide +kernel) (Kp.refl _ _).drew ?_
  refine KGO ?_
  have kd := (Kp.refl w7 n_).drew
  refine CallS.of (Tryz.call67 _ _) (zfK (w := w7.drew) n (by omega)) ?_
  rintro e w8 ⟨rfl, k8⟩
  have k78 := kd.trans0 k8
  refine RT ?_
  refine ⟨k78, ?_⟩
  refine KGO ?_
  refine CallS.of (Tryz.call68 _ _) (zhj (w := w8) wd (by omega)) ?_
  rintro e w9 ⟨rfl, k9⟩
  have k79 := k78.trans0 k9
  refine RT ?_
  refine ⟨k79, ?_⟩
  refine KGO ?_
  refine RunV.cat (by show (numE n).length + (textE wd).length ≤ _; omega) ?_
  rw [zhv]
  refine KGO ?_
  refine CallS.of (Tryz.call68 _ _) (zhj (w := w9) ls (by omega)) ?_
  rintro e w10 ⟨rfl, k10⟩
  have k710 := k79.trans0 k10
  have hb10 := zba hb7 k710
  have K10 := K7.trans0 k710
  refine RT ?_
  refine ⟨k710, ?_⟩
  refine KGO ?_
  refine RunV.cat (by show (numE n ++ textE wd).length + (textE ls).length ≤ _; rw [List.length_append]; omega) ?_
  rw [zhv]
  have hte2 : termE ⟨(n : Int), wd, ls⟩ = numE n ++ textE wd ++ textE ls := by rw [hte, List.append_assoc]
  rw [hte2] at hst
  have hXl : (numE n ++ textE wd ++ textE ls).length + PT.length ≤ 1000000000000 := by rw [List.length_append, List.length_append]; omega
  generalize numE n ++ textE wd ++ textE ls = X at *
  refine KGO ?_
  refine CallS.of (Tryz.call66 _ _) (zaR (str X) w10 hb10 (by rw [show (str X).size = X.length from rfl, List.length_append]; omega) (by have := K10.size; omega)) ?_
  rintro e w11 ⟨rfl, hb11, hbe11, _⟩
  have K11 : Kp w2 w11 n_ := K10.below' hbe11 (by omega)
  rw [show L (str X) = X from rfl] at hb11
  refine RT ?_
  refine KGO ?_
  exact ⟨i + 1, ⟨rfl, rfl, rfl, v_int (by simp), trivial⟩, ⟨K11, by omega, by rw [hst, ← List.append_assoc]; exact hb11⟩, by dsimp only; omega⟩
 obtain rfl : i = s.terms.length := by omega
 rw [List.take_length] at hb
 refine KGO ?_
 refine CallS.of (Tryz.call71 _ _) (zdh wr hb (by omega)) ?_
 rintro e w12 ⟨rfl, _, hbe, _⟩
 refine RT ?_
 refine KGO ?_
 exact ⟨rfl, (K2.trans0 hK).below' hbe (by omega)⟩
end
abbrev OwnSg (w : World) (B : Nat) (v : Value) (l : List (Sv × Sgm)) : Prop := w.ownsRow B 65 2 v l.length (l.flatMap sgP)
theorem lenSg (x : Sv × Sgm) : (sgP x).length = 2 := rfl
theorem infoSg : (Tryz.prog.info? 65).map (fun i => (i.zero, i.size, i.bytes)) = some (some (.agg #[.slice none 0 0, .slice none 0 0]), 2, 48) := by kernel_rfl
theorem tySg : RowTy 56 65 sgP 2 48 := ⟨Tryz.underlying56, ⟨_, infoSg, rfl⟩, by decide, lenSg, fun x => List.all_eq_true.1 (by rfl)⟩
theorem znm {w : World} {v : Value} (l : List (Sv × Sgm)) (g : Nat) (c0 : Value) (p : (Sv × Sgm) → Bool) (hv : RowO w v sgP l) (hl : l.length ≤ 1000000000) (hg : ∀ (args : Array Value) (w : World), (callFunc g args).run Tryz.prog w = .ok (.enter g args) w)
  (hp : ∀ x ∈ l, ∀ w', Kp w w' n_ → Calls Tryz.prog g #[.agg (sgP x).toArray, c0] w' fun e w'' => e = .returned (.bool (p x)) ∧ Kp w' w'' n_) :
  Calls Tryz.prog 95 #[v, .func (.func g) #[] #[c0]] w fun e w' => e = .returned (.int .i64 (idxP p l)) ∧ Kp w w' n_ := by
 obtain ⟨a, cap, rfl, hr⟩ := hv
 refine zaa (args := [.slice a l.length cap, .func (.func g) #[] #[c0]]) Tryz.func95 rfl NL ?_; refine GW ?_
 refine Loop.intro (ι := Nat) (fun i => [(0, .slice a l.length cap), (1, .func (.func g) #[] #[c0]), (7, .int .i64 (l.length : Nat)), (8, .int .i64 (i : Nat))])
  (fun i wr => Kp w wr n_ ∧ i ≤ l.length ∧ ∀ j (h : j < l.length), j < i → p l[j] = false) (fun i => l.length - i) 0 ⟨rfl, rfl, rfl, rfl, trivial⟩ ⟨Kp.refl _ _, Nat.zero_le _, fun _ _ h => by omega⟩ ?_
 rintro i gg wr ⟨hK, hi, he⟩
 refine GW ?_
 by_cases hlt : i < l.length
 ·obtain ⟨gb, o, rfl, hgb, hat⟩ := hr (by omega)
  have hpc := hp l[i] (List.getElem_mem hlt) wr hK
  obtain ⟨q, hq⟩ : ∃ q, p l[i] = q := ⟨_, rfl⟩
  rw [hq] at hpc
  refine KGO ?_
  refine CallS.of (hg _ _) hpc ?_
  rintro e w1 ⟨rfl, k1⟩
  refine RT ?_
  cases q with
  | true =>
   refine KGO ?_
   exact ⟨by rw [zdx hlt hq he], hK.trans0 k1⟩
  | false =>
   refine KGO ?_
   exact ⟨i + 1, ⟨rfl, rfl, rfl, v_int (by simp), trivial⟩, ⟨hK.trans0 k1, by omega, fun j h hj => by
    rcases Nat.lt_or_ge j i with h' | h'
    ·exact he j h h'
    ·obtain rfl : j = i := by omega
     exact hq⟩, by dsimp only; omega⟩
 ·refine KGO ?_
  exact ⟨by rw [zdQ fun j h => he j h (by omega)], hK⟩
theorem zsK {w : World} {v : Value} (l : List (Sv × Sgm)) (g : Nat) (p : (Sv × Sgm) → Bool) (hv : RowO w v sgP l) (hl : l.length ≤ 1000000000) (hg : ∀ (args : Array Value) (w : World), (callFunc g args).run Tryz.prog w = .ok (.enter g args) w)
  (hp : ∀ x ∈ l, ∀ w', Kp w w' n_ → Calls Tryz.prog g #[.agg (sgP x).toArray] w' fun e w'' => e = .returned (.bool (p x)) ∧ Kp w' w'' n_) :
  Calls Tryz.prog 95 #[v, .func (.func g) #[] #[]] w fun e w' => e = .returned (.int .i64 (idxP p l)) ∧ Kp w w' n_ := by
 obtain ⟨a, cap, rfl, hr⟩ := hv
 refine zaa (args := [.slice a l.length cap, .func (.func g) #[] #[]]) Tryz.func95 rfl NL ?_; refine GW ?_
 refine Loop.intro (ι := Nat) (fun i => [(0, .slice a l.length cap), (1, .func (.func g) #[] #[]), (7, .int .i64 (l.length : Nat)), (8, .int .i64 (i : Nat))])
  (fun i wr => Kp w wr n_ ∧ i ≤ l.length ∧ ∀ j (h : j < l.length), j < i → p l[j] = false) (fun i => l.length - i) 0 ⟨rfl, rfl, rfl, rfl, trivial⟩ ⟨Kp.refl _ _, Nat.zero_le _, fun _ _ h => by omega⟩ ?_
 rintro i gg wr ⟨hK, hi, he⟩
 refine GW ?_
 by_cases hlt : i < l.length
 ·obtain ⟨gb, o, rfl, hgb, hat⟩ := hr (by omega)
  have hpc := hp l[i] (List.getElem_mem hlt) wr hK
  obtain ⟨q, hq⟩ : ∃ q, p l[i] = q := ⟨_, rfl⟩
  rw [hq] at hpc
  refine KGO ?_
  refine CallS.of (hg _ _) hpc ?_
  rintro e w1 ⟨rfl, k1⟩
  refine RT ?_
  cases q with
  | true =>
   refine KGO ?_
   exact ⟨by rw [zdx hlt hq he], hK.trans0 k1⟩
  | false =>
   refine KGO ?_
   exact ⟨i + 1, ⟨rfl, rfl, rfl, v_int (by simp), trivial⟩, ⟨hK.trans0 k1, by omega, fun j h hj => by
    rcases Nat.lt_or_ge j i with h' | h'
    ·exact he j h h'
    ·obtain rfl : j = i := by omega
     exact hq⟩, by dsimp only; omega⟩
 ·refine KGO ?_
  exact ⟨by rw [zdQ fun j h => he j h (by omega)], hK⟩
theorem zrF {w : World} {v : Value} {B : Nat} (l : List (Sv × Sgm)) (g : Nat) (p : (Sv × Sgm) → Bool) (ho : OwnSg w B v l) (hl : l.length ≤ 1000000000) (hg : ∀ (args : Array Value) (w : World), (callFunc g args).run Tryz.prog w = .ok (.enter g args) w)
  (hp : ∀ x ∈ l, ∀ w', Kp w w' (own_ v) → Calls Tryz.prog g #[.agg (sgP x).toArray] w' fun e w'' => e = .returned (.bool (p x)) ∧ Kp w' w'' n_) :
  Calls Tryz.prog 199 #[v, .func (.func g) #[] #[]] w fun e w' => ∃ v', e = .returned v' ∧ OwnSg w' B v' (l.filter fun x => !p x) ∧ Kp w w' (own_ v) ∧ (v'.ownBlock = v.ownBlock) := by
 obtain ⟨a, cap0, rfl⟩ := zab ho
 refine zaa (args := [.slice a l.length cap0, .func (.func g) #[] #[]]) Tryz.func199 rfl NL ?_; refine GW ?_
 refine CallS.of (Tryz.call95 _ _) (zsK l g p (zao ho) hl hg (fun x hx w' k => hp x hx w' k.of_none)) ?_
 rintro e w1 ⟨rfl, k1⟩
 refine RT ?_
 rcases idxP_lt p l with hi | ⟨i0, hi0, he0, hp0, hb0⟩
 ·rw [hi]
  refine KGO ?_
  refine ⟨_, rfl, ?_, k1.of_none, rfl⟩
  have hf : (l.filter fun x => !p x) = l := List.filter_eq_self.2 fun x hx => by
   have h : ¬ l.any p = true := fun h => by have := (zeS p l).2 h; omega
   have := List.any_eq_false.1 (by simpa using h) x hx
   simpa using this
  rw [hf]
  exact zac ho k1
 rw [he0]
 rcases own_blockK ho with ⟨hnil, h0⟩ | ⟨gb, cap, cells0, hev, hBg, hv0, hnc, hcm, hcl0, htk0⟩
 ·omega
 injection hev with hev _ hcc
 subst hev; subst hcc
 have hgk : gb < w1.heap.size := Nat.lt_of_lt_of_le hv0.lt k1.size
 have ho1 := zac ho k1
 have hfl0 : ((l.take (i0 + 1)).filter fun x => !p x) = l.take i0 := by
  rw [zcx hi0, hp0]
  have : (l.take i0).filter (fun x => !p x) = l.take i0 := List.filter_eq_self.2 fun x hx => by
   obtain ⟨j, hj, rfl⟩ := List.mem_take_iff_getElem.1 hx
   rw [hb0 j (by omega)]; rfl
  rw [this]; simp
 refine KGO ?_
 refine Loop.intro (ι := Nat × Nat × List (Sv × Sgm)) (fun q => [(0, .slice (some ⟨gb, 0, none⟩) l.length cap0), (1, .func (.func g) #[] #[]), (5, .int .i64 (q.1 : Nat)), (6, .int .i64 (q.2.1 : Nat))])
  (fun q wr => Kp w wr (one_ gb) ∧ q.2.1 ≤ l.length ∧ q.1 < q.2.1 ∧ q.2.2.length = l.length ∧ q.2.2.take q.1 = ((l.take q.2.1).filter fun x => !p x) ∧ q.2.2.drop q.2.1 = l.drop q.2.1 ∧ OwnSg wr B (.slice (some ⟨gb, 0, none⟩) q.2.2.length cap0) q.2.2)
  (fun q => l.length - q.2.1) (i0, i0 + 1, l) ⟨rfl, rfl, rfl, v_int (by simp), trivial⟩ ⟨k1.of_none, by dsimp only; omega, by dsimp only; omega, rfl, by dsimp only; rw [hfl0], rfl, ho1⟩ ?_
 clear ho1 hfl0 hb0 hp0 he0 hi0 i0
 rintro ⟨i, j, cur⟩ gg wr ⟨hK, hj, hij, hcl2, htk2, hdr2, ho2⟩
 dsimp only at hj hij hcl2 htk2 hdr2 ho2 ⊢
 rcases own_blockK ho2 with ⟨h, h0⟩ | ⟨g2, cap, cells, hev, hBg2, hv, hnc2, hcm2, hcl, htk⟩
 ·cases h
 injection hev with hev _ hcc
 injection hev with hev
 injection hev with hev
 subst hev; subst hcc
 have hrow := zdD ho2
 have kr := Kp.refl wr n_
 refine GW ?_
 by_cases hlt : j < l.length
 ·have hcj : cur[j]'(by omega) = l[j] := by
   have h1 : (cur.drop j)[0]? = (l.drop j)[0]? := by rw [hdr2]
   rw [List.getElem?_drop, List.getElem?_drop, Nat.add_zero, List.getElem?_eq_getElem (by omega), List.getElem?_eq_getElem hlt] at h1
   exact Option.some.inj h1
  have hfs := zcx (p := fun x => !p x) hlt
  have hjc : j < cur.length := by omega
  obtain ⟨q, hq⟩ : ∃ q, p l[j] = q := ⟨_, rfl⟩
  have hmx := List.getElem_mem hlt
  rw [hq] at hfs
  refine KGO ?_
  rw [hcj]
  generalize hxj : l[j] = x at *
  refine Store.fresh (vs := sgP x) (by rfl) rfl (zar (by rfl)) ?_
  obtain ⟨a_b7, k_wv, z_wv⟩ := new3 wr 65 (sgP x)
  generalize wr.alloc (.cells (List.toArray (sgP x)) 65) = wv at *
  generalize hs_b7 : wr.heap.size = b7 at *
  refine KGO ?_
  have hpc := hp x hmx wv ((hK.trans0 k_wv).mono fun q _ hq => by have hq : q = gb := hq; rw [hq]; rfl)
  rw [hq] at hpc
  refine CallS.of (hg _ _) hpc ?_
  rintro e w1 ⟨rfl, k1⟩
  refine RT ?_
  cases q with
  | true =>
   refine KGO ?_
   refine ⟨(i, j + 1, cur), ⟨rfl, rfl, rfl, v_int (by simp), trivial⟩, ⟨(hK.trans0 k_wv).trans0 k1, by dsimp only; omega, by dsimp only; omega, hcl2, ?_, ?_, zac (zac ho2 k_wv) k1⟩, by dsimp only; omega⟩
   ·dsimp only
    rw [hfs, htk2]; simp
   ·dsimp only
    rw [← List.drop_drop, hdr2, List.drop_drop]
  | false =>
   refine KGO ?_
   have hv := (hv.keep0 k_wv).keep0 k1
   refine Store.elemK (l := cur) (k := i) (B := B) (cap := cap0) x lenSg (by rfl) (zar (by rfl)) hv hBg (by omega) hcm hcl htk (by omega) fun w2 o2 v2 k2 => ?_
   refine KGO ?_
   have hil : i < cur.length := by omega
   refine ⟨(i + 1, j + 1, cur.set i x), ⟨rfl, rfl, v_int (by simp), v_int (by simp), trivial⟩, ⟨(hK.trans0 k_wv).trans' (k1.of_none.trans' k2), by dsimp only; omega, by dsimp only; omega, by dsimp only; rw [List.length_set]; exact hcl2, ?_, ?_, ?_⟩, by dsimp only; omega⟩
   ·dsimp only
    rw [hfs, ← htk2, List.take_succ_eq_append_getElem (by rw [List.length_set]; exact hil), List.getElem_set_self, List.take_set_of_le (Nat.le_refl _)]
    simp
   ·dsimp only
    rw [List.drop_set_of_lt (by omega), ← List.drop_drop, hdr2, List.drop_drop]
   ·dsimp only
    unfold OwnSg
    rw [List.length_set]
    exact o2
 ·have hjl : j = l.length := by omega
  subst hjl
  rw [List.take_length] at htk2
  have hil : i < cur.length := by omega
  refine KGO ?_
  rw [if_neg (by omega : ¬ i = cap0)]
  refine RunN.clearK (s := 2) (n := l.length - i) Tryz.underlying56 infoSg rfl (by intro u hu; simp [Value.cells] at hu; first | (subst hu; rfl) | (rcases hu with rfl | rfl <;> rfl)) hv (by first | (rw [hcl]; omega) | omega) fun w3 zs hzl v3 k3 => ?_
  refine KGO ?_
  have hle : (l.filter fun x => !p x).length = i := by rw [← htk2, List.length_take]; omega
  rw [if_neg (by omega : ¬ 0 = cap0), Nat.sub_zero, Nat.sub_zero]
  refine ⟨_, rfl, ?_, ((hK.trans' k3).mono fun q _ hq => by have hq : q = gb := hq; rw [hq]; rfl), rfl⟩
  have htA : cells.take (0 + i * 2) = (l.filter fun x => !p x).flatMap sgP := by
   rw [Nat.zero_add, ← htk2, ← zbw sgP 2 lenSg, ← htk, List.take_take, Nat.min_eq_left (by omega)]
  have hlA : ((l.filter fun x => !p x).flatMap sgP).length = i * 2 := by rw [zaU sgP 2 lenSg, hle]
  first | rw [htA] at v3 | (rw [show 0 + i * 2 = 0 + i by omega] at htA; rw [htA] at v3)
  unfold OwnSg
  rw [hle]
  refine zbJ hBg v3 (by omega) hcm2 ?_ ?_ hlA
  ·rw [List.length_append, List.length_append, hlA, hzl, List.length_drop]; omega
  ·rw [List.append_assoc, ← hlA, List.take_left]
end Go.Proofs.YtennokckmjcefaaGreatDoor
namespace Go.Proofs.YtennokckmjcefaaGreatDoor
open Go.Shelf Go.RowKit Go.Pw Go.Vc Go.Cs Go.Lib
section
end
end Go.Proofs.YtennokckmjcefaaGreatDoor
