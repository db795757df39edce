/- Helper lemmas that the proved statement rests on; no conditions of their own. -/
import Derived.Test.YtennokckmjcefaaGreatDoorGMh7
set_option linter.unusedVariables false
namespace Go.Proofs.YtennokckmjcefaaGreatDoor
open Go.Shelf Go.RowKit Go.Pw Go.Vc Go.Cs Go.Lib Go.Cd Go.Mg
structure Ix where
 segs : List Sgm
 dead : List Int
deriving DecidableEq, Inhabited
structure IxOk (x : Ix) : Prop where
 rt : ∀ s ∈ x.segs, rightS s = true
 ne : ∀ s ∈ x.segs, s.docs ≠ []
 dj : x.segs.Pairwise fun s t => ∀ d, d ∈ s.docs → d ∉ t.docs
 da : AscB ltI x.dead
 di : ∀ d ∈ x.dead, ∃ s ∈ x.segs, d ∈ s.docs
def inX (l : List Sgm) (d : Int) : Prop := ∃ s ∈ l, d ∈ s.docs
def liveX (x : Ix) (d : Int) : Prop := inX x.segs d ∧ d ∉ x.dead
def pL : List Sgm → Ky → Int → List Int
 | [], _, _ => []
 | s :: l, k, d => unI (pS s k d) (pL l k d)
def pX (x : Ix) (k : Ky) (d : Int) : List Int := if d ∈ x.dead then [] else pL x.segs k d
theorem zki (l : List Sgm) (k : Ky) (d : Int) : AscB ltI (pL l k d) := by
 induction l with
 | nil => exact .nil
 | cons s l ih => exact zdq (zgC s k d) ih
theorem zhL {s : Sgm} (h : rightS s = true) {k : Ky} {d : Int} (hd : d ∉ s.docs) : pS s k d = [] := by
 unfold pS
 rw [zaV h]
 by_cases hz : atD (postsT s.terms k) d = []
 ·exact hz
 ·exact absurd (zet (zan.1 h).2.1 hz) hd
theorem zkp {l : List Sgm} (hr : ∀ s ∈ l, rightS s = true) {k : Ky} {d : Int} (hd : ¬ inX l d) : pL l k d = [] := by
 induction l with
 | nil => rfl
 | cons s l ih =>
  show unI _ _ = []
  rw [zhL (hr s List.mem_cons_self) (fun h => hd ⟨s, List.mem_cons_self, h⟩), ih (fun t ht => hr t (List.mem_cons_of_mem _ ht)) (fun ⟨t, ht, h⟩ => hd ⟨t, List.mem_cons_of_mem _ ht, h⟩)]
  rfl
theorem zkE (a b : List Sgm) (k : Ky) (d : Int) : pL (a ++ b) k d = unI (pL a k d) (pL b k d) := by
 induction a with
 | nil => show pL b k d = unI [] _; rw [zdt]
 | cons s a ih =>
  show unI _ (pL (a ++ b) k d) = unI (unI _ _) _
  rw [ih, zmx (zgC _ _ _) (zki _ _ _) (zki _ _ _)]
theorem zfU (a b : List Sgm) (d : Int) : inX (a ++ b) d ↔ inX a d ∨ inX b d := by
 unfold inX
 constructor
 ·rintro ⟨s, hs, h⟩
  rcases List.mem_append.1 hs with hs | hs
  ·exact .inl ⟨s, hs, h⟩
  ·exact .inr ⟨s, hs, h⟩
 ·rintro (⟨s, hs, h⟩ | ⟨s, hs, h⟩)
  ·exact ⟨s, List.mem_append_left _ hs, h⟩
  ·exact ⟨s, List.mem_append_right _ hs, h⟩
def lookX (x : Ix) (f : Int) (p : List UInt8 → Bool) : List Pst := liveP x.dead (x.segs.foldl (fun o s => orP o (lookS s f p)) [])
theorem zgB (f : Int) (p : List UInt8 → Bool) : ∀ (l : List Sgm) (o : List Pst), rightP o = true → rightP (l.foldl (fun o s => orP o (lookS s f p)) o) = true ∧ ∀ d z, z ∈ atD (l.foldl (fun o s => orP o (lookS s f p)) o) d ↔ z ∈ atD o d ∨ ∃ k, okK f p k = true ∧ z ∈ pL l k d
 | [], o, h => ⟨h, fun d z => ⟨fun h => .inl h, fun h => by
   rcases h with h | ⟨k, _, h⟩
   ·exact h
   ·cases h⟩⟩
 | s :: l, o, h => by
  obtain ⟨r1, s1⟩ := zfD s f p
  obtain ⟨h1, h2⟩ := zgB f p l (orP o (lookS s f p)) (zdI h r1)
  refine ⟨h1, fun d z => ?_⟩
  rw [List.foldl_cons, h2 d z, zhD h r1, zcj (zee h d).1 (zee r1 d).1, s1]
  have hm : ∀ k, z ∈ pL (s :: l) k d ↔ z ∈ pS s k d ∨ z ∈ pL l k d := fun k => zcj (zgC _ _ _) (zki _ _ _) z
  constructor
  ·rintro ((h | ⟨k, hk, h⟩) | ⟨k, hk, h⟩)
   ·exact .inl h
   ·exact .inr ⟨k, hk, (hm k).2 (.inl h)⟩
   ·exact .inr ⟨k, hk, (hm k).2 (.inr h)⟩
  ·rintro (h | ⟨k, hk, h⟩)
   ·exact .inl (.inl h)
   ·rcases (hm k).1 h with h | h
    ·exact .inl (.inr ⟨k, hk, h⟩)
    ·exact .inr ⟨k, hk, h⟩
theorem zbi (x : Ix) (f : Int) (p : List UInt8 → Bool) : rightP (lookX x f p) = true ∧ ∀ d z, z ∈ atD (lookX x f p) d ↔ ∃ k, okK f p k = true ∧ z ∈ pX x k d := by
 obtain ⟨h1, h2⟩ := zgB f p x.segs [] rfl
 refine ⟨zeB _ h1, fun d z => ?_⟩
 unfold lookX pX
 rw [zhR]
 by_cases hd : d ∈ x.dead
 ·rw [if_pos hd]
  exact ⟨(fun h => by cases h), (fun ⟨k, _, h⟩ => by rw [if_pos hd] at h; cases h)⟩
 ·rw [if_neg hd, h2]
  constructor
  ·rintro (h | ⟨k, hk, h⟩)
   ·cases h
   ·exact ⟨k, hk, by rw [if_neg hd]; exact h⟩
  ·rintro ⟨k, hk, h⟩
   rw [if_neg hd] at h
   exact .inr ⟨k, hk, h⟩
theorem znr {x : Ix} {s : Sgm} (hx : ∀ k d, pX x k d = pS s k d) (f : Int) (p : List UInt8 → Bool) : lookX x f p = lookS s f p := by
 obtain ⟨r1, s1⟩ := zbi x f p
 obtain ⟨r2, s2⟩ := zfD s f p
 refine zig r1 r2 fun d => zbu stoI _ _ (zee r1 d).1 (zee r2 d).1 fun z => ?_
 rw [s1, s2]
 simp only [hx]
def klE (es : List Ent) : List (Ky × List Int) := (sortD ltK (es.flatMap fun e => (wordsOf e.text).map fun w => (e.field, w))).map fun k => (k, (sortI (es.map (·.doc))).filter fun d => !(placesE es k d).isEmpty)
def buildE (es : List Ent) : Sgm := ⟨(klE es).map (tmOf (placesE es)), sortL (sortI (es.map (·.doc)))⟩
theorem zcv {l : List Int} (h : AscB ltI l) : l.Nodup := by
 unfold AscB at h
 exact h.imp fun h => by have := of_decide_eq_true h; omega
theorem zha {es : List Ent} (hk : Kept es) (htx : ∀ e ∈ es, e.text.length ≤ 1000000000) : Built (buildE es) es := by
 have hasc : AscB ltK (sortD ltK (es.flatMap fun e => (wordsOf e.text).map fun w => (e.field, w))) := zbs stoK _
 have hkeys : (klE es).map (·.1) = sortD ltK (es.flatMap fun e => (wordsOf e.text).map fun w => (e.field, w)) := by
  unfold klE; rw [List.map_map]; exact List.map_id _
 have hmem : ∀ k d, placesE es k d ≠ [] → k ∈ sortD ltK (es.flatMap fun e => (wordsOf e.text).map fun w => (e.field, w)) ∧ d ∈ sortI (es.map (·.doc)) := fun k d h => by
  obtain ⟨e, he, h1, h2, _, h4⟩ := zbm hk k d h
  exact ⟨(zbb stoK _ _).2 (List.mem_flatMap.2 ⟨e, he, List.mem_map.2 ⟨k.2, h4, by rw [h2]⟩⟩), (zbb stoI _ _).2 (List.mem_map.2 ⟨e, he, h1⟩)⟩
 refine zlz hk htx (klE es) ?_ (fun k hkk d => ?_) (fun p hp => ?_) (List.Perm.refl _) ?_ (zcv (zbs stoI _)) (fun d => (zbb stoI _ _).trans List.mem_map)
 ·rw [hkeys]
  unfold AscB at hasc
  exact hasc.imp fun h => zdH h
 ·rw [hkeys] at hkk
  by_cases hz : placesE es k d = []
  ·exact hz
  ·exact absurd (hmem k d hz).1 hkk
 ·unfold klE at hp
  obtain ⟨k, hk2, rfl⟩ := List.mem_map.1 hp
  dsimp only
  have hin : ∀ d, d ∈ (sortI (es.map (·.doc))).filter (fun d => !(placesE es k d).isEmpty) ↔ placesE es k d ≠ [] := fun d => by
   rw [List.mem_filter]
   constructor
   ·rintro ⟨_, h⟩ e
    rw [e] at h; simp at h
   ·intro h
    exact ⟨(hmem k d h).2, by cases hq : placesE es k d with | nil => exact absurd hq h | cons => rfl⟩
  refine ⟨(zcv (zbs stoI _)).sublist List.filter_sublist, fun e => ?_, hin⟩
  obtain ⟨e2, he2, h2⟩ := List.mem_flatMap.1 ((zbb stoK _ _).1 hk2)
  obtain ⟨w, hw, rfl⟩ := List.mem_map.1 h2
  have hne : placesE es (e2.field, w) e2.doc ≠ [] := by
   intro hz
   have h3 : partE (wordsOf e2.text) e2.doc e2.field (e2.field, w) e2.doc = [] := by
    unfold placesE at hz
    exact List.flatMap_eq_nil_iff.1 hz e2 he2
   unfold partE at h3
   rw [if_pos ⟨rfl, rfl⟩] at h3
   dsimp only at h3
   have : ∀ (i : Nat) (l : List (List UInt8)), w ∈ l → posF w i l ≠ [] := by
    intro i l
    induction l generalizing i with
    | nil => intro h; cases h
    | cons y l ih =>
     intro h
     unfold posF
     split
     ·intro h2; cases h2
     ·rcases List.mem_cons.1 h with h | h
      ·rename_i hne; exact absurd h.symm hne
      ·exact ih (i + 1) h
   exact this 0 _ hw h3
  have := (hin e2.doc).2 hne
  rw [e] at this; cases this
 ·rw [List.pairwise_map]
  refine List.pairwise_map.1 (?_ : ((klE es).map (·.1)).Pairwise fun a b => ltK b a = false)
  rw [hkeys]
  unfold AscB at hasc
  refine hasc.imp fun {a b} h => ?_
  cases hq : ltK b a with
  | false => rfl
  | true => exact absurd rfl (zdH (stoK.tr _ _ _ h hq))
def memB (l : List Sgm) (d : Int) : Bool := l.any fun s => decide (d ∈ s.docs)
theorem zeO {l : List Sgm} {d : Int} : memB l d = true ↔ inX l d := by
 unfold memB inX
 rw [List.any_eq_true]
 exact ⟨fun ⟨s, h1, h2⟩ => ⟨s, h1, of_decide_eq_true h2⟩, fun ⟨s, h1, h2⟩ => ⟨s, h1, decide_eq_true h2⟩⟩
def fullL (l : List Sgm) : List Sgm := l.filter fun s => !s.docs.isEmpty
def cleanX (x : Ix) : Ix := ⟨fullL x.segs, x.dead.filter fun d => memB (fullL x.segs) d⟩
def replX (x : Ix) (i n : Nat) (s : Sgm) : Ix := cleanX ⟨x.segs.take i ++ s :: x.segs.drop (i + n), x.dead⟩
theorem zeX (l : List Sgm) (d : Int) : inX (fullL l) d ↔ inX l d := by
 unfold inX fullL
 constructor
 ·rintro ⟨s, hs, h⟩
  exact ⟨s, (List.mem_filter.1 hs).1, h⟩
 ·rintro ⟨s, hs, h⟩
  exact ⟨s, List.mem_filter.2 ⟨hs, by cases hq : s.docs with | nil => rw [hq] at h; cases h | cons => rfl⟩, h⟩
theorem zsA {l : List Sgm} (hr : ∀ s ∈ l, rightS s = true) (k : Ky) (d : Int) : pL (fullL l) k d = pL l k d := by
 induction l with
 | nil => rfl
 | cons s l ih =>
  have ih := ih fun t ht => hr t (List.mem_cons_of_mem _ ht)
  unfold fullL at ih ⊢
  rw [List.filter_cons]
  split
  ·show unI _ _ = unI _ _
   rw [ih]
  ·rename_i h
   show _ = unI _ _
   have : pS s k d = [] := zhL (hr s List.mem_cons_self) fun hd => h (by cases hq : s.docs with | nil => rw [hq] at hd; cases hd | cons => rfl)
   rw [this, zdt, ih]
theorem zhk (s : Sgm) (l : List Sgm) (d : Int) : inX (s :: l) d ↔ d ∈ s.docs ∨ inX l d := by
 unfold inX
 constructor
 ·rintro ⟨t, ht, h⟩
  rcases List.mem_cons.1 ht with rfl | ht
  ·exact .inl h
  ·exact .inr ⟨t, ht, h⟩
 ·rintro (h | ⟨t, ht, h⟩)
  ·exact ⟨s, List.mem_cons_self, h⟩
  ·exact ⟨t, List.mem_cons_of_mem _ ht, h⟩
theorem zos {x : Ix} (hx : IxOk x) {pre mid post : List Sgm} (hs : x.segs = pre ++ (mid ++ post)) {s : Sgm} (hr : rightS s = true) {dl : List Int} (hdl : ∀ d ∈ dl, d ∈ x.dead)
  (hd : ∀ d, d ∈ s.docs ↔ inX mid d ∧ d ∉ dl) (hp : ∀ k d, pS s k d = if d ∈ dl then [] else pL mid k d) :
  IxOk (cleanX ⟨pre ++ s :: post, x.dead⟩) ∧ (∀ d, liveX (cleanX ⟨pre ++ s :: post, x.dead⟩) d ↔ liveX x d) ∧ ∀ k d, pX (cleanX ⟨pre ++ s :: post, x.dead⟩) k d = pX x k d := by
 have hrt : ∀ t ∈ pre ++ s :: post, rightS t = true := fun t ht => by
  rcases List.mem_append.1 ht with ht | ht
  ·exact hx.rt t (by rw [hs]; exact List.mem_append_left _ ht)
  ·rcases List.mem_cons.1 ht with rfl | ht
   ·exact hr
   ·exact hx.rt t (by rw [hs]; exact List.mem_append_right _ (List.mem_append_right _ ht))
 have hin : ∀ d, inX (pre ++ s :: post) d ↔ inX pre d ∨ (inX mid d ∧ d ∉ dl) ∨ inX post d := fun d => by
  rw [zfU, zhk, hd]
 have hin0 : ∀ d, inX x.segs d ↔ inX pre d ∨ inX mid d ∨ inX post d := fun d => by rw [hs, zfU, zfU]
 have hdj := hx.dj
 rw [hs] at hdj
 obtain ⟨d1, d2, d3⟩ := List.pairwise_append.1 hdj
 obtain ⟨d4, d5, d6⟩ := List.pairwise_append.1 d2
 have hpl : ∀ k d, d ∉ dl → pL (pre ++ s :: post) k d = pL x.segs k d := fun k d hdd => by
  rw [hs, zkE, zkE, zkE]
  show unI _ (unI (pS s k d) _) = _
  rw [hp, if_neg hdd]
 refine ⟨⟨fun t ht => hrt t (List.mem_filter.1 ht).1, fun t ht => ?_, ?_, ?_, fun d hd2 => ?_⟩, fun d => ?_, fun k d => ?_⟩
 ·have h := (List.mem_filter.1 ht).2
  intro e
  rw [e] at h; cases h
 ·refine List.Pairwise.sublist List.filter_sublist (List.pairwise_append.2 ⟨d1, List.pairwise_cons.2 ⟨fun t ht d h1 => ?_, d5⟩, fun a ha b hb d h1 => ?_⟩)
  ·obtain ⟨⟨u, hu, h2⟩, _⟩ := (hd d).1 h1
   exact d6 u hu t ht d h2
  ·rcases List.mem_cons.1 hb with rfl | hb
   ·intro h2
    obtain ⟨⟨u, hu, h3⟩, _⟩ := (hd d).1 h2
    exact d3 a ha u (List.mem_append_left _ hu) d h1 h3
   ·exact d3 a ha b (List.mem_append_right _ hb) d h1
 ·have := hx.da
  unfold AscB at this ⊢
  exact this.sublist List.filter_sublist
 ·exact zeO.1 (List.mem_filter.1 hd2).2
 ·unfold liveX cleanX
  dsimp only
  rw [zeX, List.mem_filter, zeO, zeX, hin, hin0]
  constructor
  ·rintro ⟨h1, h2⟩
   have hnd : d ∉ x.dead := fun h => h2 ⟨h, h1⟩
   rcases h1 with h1 | h1 | h1
   ·exact ⟨.inl h1, hnd⟩
   ·exact ⟨.inr (.inl h1.1), hnd⟩
   ·exact ⟨.inr (.inr h1), hnd⟩
  ·rintro ⟨h1, h2⟩
   have hndl : d ∉ dl := fun h => h2 (hdl d h)
   refine ⟨?_, fun h => h2 h.1⟩
   rcases h1 with h1 | h1 | h1
   ·exact .inl h1
   ·exact .inr (.inl ⟨h1, hndl⟩)
   ·exact .inr (.inr h1)
 ·unfold pX cleanX
  dsimp only
  rw [zsA hrt]
  by_cases hdd : d ∈ x.dead
  ·rw [if_pos hdd]
   split
   ·rfl
   ·rename_i h
    refine zkp hrt fun hi => h (List.mem_filter.2 ⟨hdd, zeO.2 ((zeX _ _).2 hi)⟩)
  ·rw [if_neg hdd, if_neg fun h => hdd (List.mem_filter.1 h).1]
   exact hpl k d fun h => hdd (hdl d h)
def entsX (doc : Int) (tx : List (List UInt8)) : List Ent := [⟨doc, 1, tx.getD 1 []⟩, ⟨doc, 2, tx.getD 2 []⟩, ⟨doc, 3, tx.getD 3 []⟩, ⟨doc, 4, tx.getD 4 []⟩, ⟨doc, 5, tx.getD 5 []⟩]
def findX (l : List Sgm) (d : Int) : Option Nat := l.findIdx? fun s => decide (d ∈ s.docs)
def aliveB (x : Ix) (d : Int) : Bool := memB x.segs d && !decide (d ∈ x.dead)
theorem zbC {x : Ix} {d : Int} : aliveB x d = true ↔ liveX x d := by
 unfold aliveB liveX
 rw [Bool.and_eq_true, zeO]
 simp
def readX (x : Ix) (doc : Int) : Ix := match findX x.segs doc with
 | some i => replX x i 1 (twoS (x.segs.getD i ⟨[], []⟩) ⟨[], []⟩ [doc])
 | none => x
def addX (x : Ix) (doc : Int) (tx : List (List UInt8)) : Int × Ix :=
 if doc < 1 ∨ 1099511627776 < doc then (1, x)
 else if aliveB x doc = true then (4, x)
 else (0, ⟨(readX x doc).segs ++ [buildE (entsX doc tx)], (readX x doc).dead⟩)
def dropX (x : Ix) (doc : Int) : Bool × Ix := if aliveB x doc = true then (true, ⟨x.segs, withL x.dead doc⟩) else (false, x)
def buriedX (x : Ix) (s : Sgm) : Nat := (x.dead.filter fun d => decide (d ∈ s.docs)).length
def dueX (x : Ix) (s : Sgm) : Bool := decide (s.docs.length ≤ 2 * buriedX x s)
def stepX (x : Ix) : Bool × Ix := match pickL (x.segs.map fun s => (s.docs.length : Int)) with
 | some i => (true, replX x i 2 (twoS (x.segs.getD i ⟨[], []⟩) (x.segs.getD (i + 1) ⟨[], []⟩) x.dead))
 | none => match x.segs.findIdx? (dueX x) with
  | some i => (true, replX x i 1 (twoS (x.segs.getD i ⟨[], []⟩) ⟨[], []⟩ x.dead))
  | none => (false, x)
theorem zbv {l : List Sgm} {i : Nat} (h : i < l.length) : l.getD i ⟨[], []⟩ = l[i] := by simp [List.getD, List.getElem?_eq_getElem h]
theorem split1 {l : List Sgm} {i : Nat} (h : i < l.length) : l = l.take i ++ ([l[i]] ++ l.drop (i + 1)) := by
 conv => lhs; rw [← List.take_append_drop i l, List.drop_eq_getElem_cons h]
 rfl
theorem splitP {l : List Sgm} {i : Nat} (h : i + 1 < l.length) : l = l.take i ++ ([l[i], l[i + 1]] ++ l.drop (i + 2)) := by
 conv => lhs; rw [← List.take_append_drop i l, List.drop_eq_getElem_cons (by omega), List.drop_eq_getElem_cons h]
 rfl
theorem zrb {x : Ix} (hx : IxOk x) {i : Nat} (hi : i < x.segs.length) {dl : List Int} (hdl : ∀ d ∈ dl, d ∈ x.dead) :
  IxOk (replX x i 1 (twoS (x.segs.getD i ⟨[], []⟩) ⟨[], []⟩ dl)) ∧ (∀ d, liveX (replX x i 1 (twoS (x.segs.getD i ⟨[], []⟩) ⟨[], []⟩ dl)) d ↔ liveX x d) ∧ ∀ k d, pX (replX x i 1 (twoS (x.segs.getD i ⟨[], []⟩) ⟨[], []⟩ dl)) k d = pX x k d := by
 rw [zbv hi]
 unfold replX
 have hri := hx.rt _ (List.getElem_mem hi)
 refine zos hx (mid := [x.segs[i]]) (split1 hi) (zcw _ _ _) hdl (fun d => ?_) (fun k d => ?_)
 ·rw [zeo, zaV hri, zaV zcX]
  constructor
  ·rintro ⟨h | h, h2⟩
   ·exact ⟨⟨_, List.mem_singleton.2 rfl, h⟩, h2⟩
   ·cases h
  ·rintro ⟨⟨t, ht, h⟩, h2⟩
   rw [List.mem_singleton.1 ht] at h
   exact ⟨.inl h, h2⟩
 ·rw [znb, zrm, zcK]
  show _ = if d ∈ dl then [] else unI (pS x.segs[i] k d) []
  rw [zcK]
theorem ztj {x : Ix} (hx : IxOk x) {i : Nat} (hi : i + 1 < x.segs.length) :
  IxOk (replX x i 2 (twoS (x.segs.getD i ⟨[], []⟩) (x.segs.getD (i + 1) ⟨[], []⟩) x.dead)) ∧ (∀ d, liveX (replX x i 2 (twoS (x.segs.getD i ⟨[], []⟩) (x.segs.getD (i + 1) ⟨[], []⟩) x.dead)) d ↔ liveX x d) ∧ ∀ k d, pX (replX x i 2 (twoS (x.segs.getD i ⟨[], []⟩) (x.segs.getD (i + 1) ⟨[], []⟩) x.dead)) k d = pX x k d := by
 rw [zbv (by omega), zbv hi]
 unfold replX
 have h1 := hx.rt _ (List.getElem_mem (show i < x.segs.length by omega))
 have h2 := hx.rt _ (List.getElem_mem hi)
 refine zos hx (mid := [x.segs[i], x.segs[i + 1]]) (splitP hi) (zcw _ _ _) (fun _ h => h) (fun d => ?_) (fun k d => ?_)
 ·rw [zeo, zaV h1, zaV h2, zhk]
  constructor
  ·rintro ⟨h | h, hn⟩
   ·exact ⟨.inl h, hn⟩
   ·exact ⟨.inr ⟨_, List.mem_singleton.2 rfl, h⟩, hn⟩
  ·rintro ⟨h | ⟨t, ht, h⟩, hn⟩
   ·exact ⟨.inl h, hn⟩
   ·rw [List.mem_singleton.1 ht] at h
    exact ⟨.inr h, hn⟩
 ·rw [znb]
  show _ = if d ∈ x.dead then [] else unI (pS x.segs[i] k d) (unI (pS x.segs[i + 1] k d) [])
  rw [zcK]
theorem zcu {l : List Sgm} {d : Int} {i : Nat} (h : findX l d = some i) : ∃ hi : i < l.length, d ∈ l[i].docs := by
 obtain ⟨hi, h1, _⟩ := List.findIdx?_eq_some_iff_getElem.1 h
 exact ⟨hi, of_decide_eq_true h1⟩
theorem zmM {l : List Sgm} {d : Int} (h : findX l d = none) : ¬ inX l d := by
 rintro ⟨s, hs, hd⟩
 have := List.findIdx?_eq_none_iff.1 h s hs
 rw [decide_eq_true hd] at this; cases this
theorem zsz {x : Ix} (hx : IxOk x) {doc : Int} (hn : ¬ liveX x doc) : IxOk (readX x doc) ∧ (∀ d, liveX (readX x doc) d ↔ liveX x d) ∧ (∀ k d, pX (readX x doc) k d = pX x k d) ∧ ¬ inX (readX x doc).segs doc := by
 unfold readX
 cases hf : findX x.segs doc with
 | none => exact ⟨hx, fun _ => Iff.rfl, fun _ _ => rfl, zmM hf⟩
 | some i =>
  obtain ⟨hi, hd⟩ := zcu hf
  have hdd : doc ∈ x.dead := by
   by_cases h : doc ∈ x.dead
   ·exact h
   ·exact absurd ⟨⟨_, List.getElem_mem hi, hd⟩, h⟩ hn
  obtain ⟨h1, h2, h3⟩ := zrb hx hi (dl := [doc]) (fun d h => by rw [List.mem_singleton.1 h]; exact hdd)
  refine ⟨h1, h2, h3, fun hin => ?_⟩
  dsimp only at hin
  unfold replX cleanX at hin
  dsimp only at hin
  rw [zeX, zfU, zhk, zbv hi, zeo] at hin
  have hdj := hx.dj
  rw [split1 hi] at hdj
  obtain ⟨d1, d2, d3⟩ := List.pairwise_append.1 hdj
  rcases hin with ⟨t, ht, h⟩ | h | ⟨t, ht, h⟩
  ·exact d3 t ht _ (List.mem_append_left _ (List.mem_singleton.2 rfl)) doc h hd
  ·exact h.2 (List.mem_singleton.2 rfl)
  ·exact (List.pairwise_cons.1 d2).1 t ht doc hd h
theorem zcY {doc : Int} (h1 : 1 ≤ doc) (h2 : doc ≤ 1099511627776) (tx : List (List UInt8)) : keptE (entsX doc tx) = entsX doc tx ∧ Kept (entsX doc tx) := by
 have e : keptE (entsX doc tx) = entsX doc tx := by
  have hc : ∀ f t, 1 ≤ f → f ≤ 5 → countsE ⟨doc, f, t⟩ = true := fun f t a b => by
   unfold countsE
   simp only [Bool.and_eq_true, decide_eq_true_eq]
   omega
  unfold keptE entsX
  simp [stepE, hc, hadE]
 exact ⟨e, e ▸ zjc _⟩
theorem zqL {x : Ix} (hx : IxOk x) {doc : Int} {tx : List (List UInt8)} (ht : ∀ t ∈ tx, t.length ≤ 1000000000) (h0 : (addX x doc tx).1 = 0) :
  IxOk (addX x doc tx).2 ∧ (∀ d, liveX (addX x doc tx).2 d ↔ liveX x d ∨ d = doc) ∧ ∀ k d, pX (addX x doc tx).2 k d = if d = doc then placesE (entsX doc tx) k d else pX x k d := by
 unfold addX at h0 ⊢
 split at h0
 ·cases h0
 rename_i hb
 rw [if_neg hb]
 split at h0
 ·cases h0
 rename_i hl
 rw [if_neg hl]
 have hl : ¬ liveX x doc := fun h => hl (zbC.2 h)
 obtain ⟨r1, r2, r3, r4⟩ := zsz hx hl
 generalize readX x doc = y at *
 have hB := zha (zcY (doc := doc) (by omega) (by omega) tx).2 (fun e he => by
  have : e.text ∈ tx ∨ e.text = [] := by
   have key : ∀ j, tx.getD j [] ∈ tx ∨ tx.getD j [] = [] := fun j => by
    by_cases h : j < tx.length
    ·left; simp [List.getD, List.getElem?_eq_getElem h]
    ·right; simp [List.getD, List.getElem?_eq_none (Nat.le_of_not_lt h)]
   unfold entsX at he
   simp only [List.mem_cons, List.not_mem_nil, or_false] at he
   rcases he with rfl | rfl | rfl | rfl | rfl <;> exact key _
  rcases this with h | h
  ·exact ht _ h
  ·rw [h]; exact Nat.zero_le _)
 generalize hS : buildE (entsX doc tx) = S at *
 have hSd : ∀ d, d ∈ S.docs ↔ d = doc := fun d => by
  rw [hB.docs]
  constructor
  ·rintro ⟨e, he, rfl⟩
   unfold entsX at he
   simp only [List.mem_cons, List.not_mem_nil, or_false] at he
   rcases he with rfl | rfl | rfl | rfl | rfl <;> rfl
  ·rintro rfl
   exact ⟨_, List.mem_cons_self, rfl⟩
 have hSp : ∀ k d, pS S k d = placesE (entsX doc tx) k d := fun k d => by unfold pS; rw [zaV hB.right, hB.posts]
 have hnd : doc ∉ y.dead := fun h => r4 (r1.di doc h)
 have hin : ∀ d, inX (y.segs ++ [S]) d ↔ inX y.segs d ∨ d = doc := fun d => by
  rw [zfU]
  constructor
  ·rintro (h | ⟨t, ht, h⟩)
   ·exact .inl h
   ·rw [List.mem_singleton.1 ht] at h
    exact .inr ((hSd d).1 h)
  ·rintro (h | h)
   ·exact .inl h
   ·exact .inr ⟨S, List.mem_singleton.2 rfl, (hSd d).2 h⟩
 refine ⟨⟨fun s hs => ?_, fun s hs => ?_, ?_, r1.da, fun d hd => ?_⟩, fun d => ?_, fun k d => ?_⟩
 ·rcases List.mem_append.1 hs with hs | hs
  ·exact r1.rt s hs
  ·rw [List.mem_singleton.1 hs]; exact hB.right
 ·rcases List.mem_append.1 hs with hs | hs
  ·exact r1.ne s hs
  ·rw [List.mem_singleton.1 hs]
   intro e
   have := (hSd doc).2 rfl
   rw [e] at this; cases this
 ·refine List.pairwise_append.2 ⟨r1.dj, List.pairwise_singleton _ _, fun a ha b hb d h1 h2 => ?_⟩
  rw [List.mem_singleton.1 hb] at h2
  rw [(hSd d).1 h2] at h1
  exact r4 ⟨a, ha, h1⟩
 ·obtain ⟨s, hs, h⟩ := r1.di d hd
  exact ⟨s, List.mem_append_left _ hs, h⟩
 ·rw [← r2]
  unfold liveX
  dsimp only
  rw [hin]
  constructor
  ·rintro ⟨h | h, h2⟩
   ·exact .inl ⟨h, h2⟩
   ·exact .inr h
  ·rintro (⟨h, h2⟩ | rfl)
   ·exact ⟨.inl h, h2⟩
   ·exact ⟨.inr rfl, hnd⟩
 ·have e1 : pL (y.segs ++ [S]) k d = unI (pL y.segs k d) (placesE (entsX doc tx) k d) := by
   rw [zkE]
   show unI _ (unI (pS S k d) []) = _
   rw [zcK, hSp]
  by_cases hdd : d = doc
  ·subst hdd
   rw [if_pos rfl]
   unfold pX
   dsimp only
   rw [if_neg hnd, e1, zkp r1.rt r4, zdt]
  ·rw [if_neg hdd, ← r3]
   unfold pX
   dsimp only
   have e2 : placesE (entsX doc tx) k d = [] := by
    rw [← hSp]
    exact zhL hB.right fun h => hdd ((hSd d).1 h)
   rw [e1, e2, zcK]
theorem zrc {x : Ix} {doc : Int} {tx : List (List UInt8)} (h0 : (addX x doc tx).1 ≠ 0) : (addX x doc tx).2 = x := by
 unfold addX at h0 ⊢
 split
 ·rfl
 ·split
  ·rfl
  ·rename_i h1 h2
   rw [if_neg h1, if_neg h2] at h0
   exact absurd rfl h0
theorem zmI {x : Ix} (hx : IxOk x) (doc : Int) : IxOk (dropX x doc).2 ∧ ((dropX x doc).1 = true ↔ liveX x doc) ∧ (∀ d, liveX (dropX x doc).2 d ↔ liveX x d ∧ d ≠ doc) ∧ ∀ k d, pX (dropX x doc).2 k d = if d = doc then [] else pX x k d := by
 unfold dropX
 by_cases hl : aliveB x doc = true
 ·rw [if_pos hl]
  have hlv := zbC.1 hl
  have hm := zdY doc x.dead (zjT.1 hx.da)
  refine ⟨⟨hx.rt, hx.ne, hx.dj, zjT.2 (zfI doc x.dead (zjT.1 hx.da)), fun d hd => ?_⟩, ⟨fun _ => hlv, fun _ => rfl⟩, fun d => ?_, fun k d => ?_⟩
  ·rcases (hm d).1 hd with rfl | hd
   ·exact hlv.1
   ·exact hx.di d hd
  ·unfold liveX
   dsimp only
   rw [hm]
   constructor
   ·rintro ⟨h1, h2⟩
    exact ⟨⟨h1, fun h => h2 (.inr h)⟩, fun h => h2 (.inl h)⟩
   ·rintro ⟨⟨h1, h2⟩, h3⟩
    exact ⟨h1, fun h => by rcases h with h | h; exact h3 h; exact h2 h⟩
  ·unfold pX
   dsimp only
   by_cases hd : d = doc
   ·rw [if_pos hd, if_pos ((hm d).2 (.inl hd))]
   ·rw [if_neg hd]
    by_cases h : d ∈ x.dead
    ·rw [if_pos h, if_pos ((hm d).2 (.inr h))]
    ·rw [if_neg h, if_neg fun h2 => by rcases (hm d).1 h2 with h2 | h2; exact hd h2; exact h h2]
 ·rw [if_neg hl]
  have hnl : ¬ liveX x doc := fun h => hl (zbC.2 h)
  refine ⟨hx, ⟨(fun h => by cases h), (fun h => absurd h hnl)⟩, fun d => ⟨fun h => ⟨h, fun e => hnl (e ▸ h)⟩, fun h => h.1⟩, fun k d => ?_⟩
  by_cases hd : d = doc
  ·rw [if_pos hd]
   subst hd
   dsimp only
   unfold pX
   by_cases h : d ∈ x.dead
   ·rw [if_pos h]
   ·rw [if_neg h]
    exact zkp hx.rt fun hi => hnl ⟨hi, h⟩
  ·rw [if_neg hd]
theorem znu {x : Ix} (hx : IxOk x) : IxOk (stepX x).2 ∧ (∀ d, liveX (stepX x).2 d ↔ liveX x d) ∧ ∀ k d, pX (stepX x).2 k d = pX x k d := by
 unfold stepX
 cases hp : pickL (x.segs.map fun s => (s.docs.length : Int)) with
 | some i =>
  have hi := zcS hp
  rw [List.length_map] at hi
  exact ztj hx hi
 | none =>
  dsimp only
  cases hf : x.segs.findIdx? (dueX x) with
  | some i =>
   obtain ⟨hi, _⟩ := List.findIdx?_eq_some_iff_getElem.1 hf
   exact zrb hx hi fun _ h => h
  | none => exact ⟨hx, fun _ => Iff.rfl, fun _ _ => rfl⟩
def emptyX : Ix := ⟨[], []⟩
theorem zhQ : IxOk emptyX ∧ (∀ d, ¬ liveX emptyX d) ∧ ∀ k d, pX emptyX k d = [] :=
 ⟨⟨(fun s h => by cases h), (fun s h => by cases h), .nil, .nil, (fun d h => by cases h)⟩, (fun d h => by obtain ⟨⟨s, hs, _⟩, _⟩ := h; cases hs), (fun k d => rfl)⟩
def docN (l : List Sgm) : Nat := (l.map fun s => s.docs.length).sum
theorem zcc (a b : List Sgm) : docN (a ++ b) = docN a + docN b := by unfold docN; rw [List.map_append, List.sum_append]
theorem zaZ (s : Sgm) (l : List Sgm) : docN (s :: l) = s.docs.length + docN l := rfl
theorem zfA (l : List Sgm) : docN (fullL l) = docN l := by
 induction l with
 | nil => rfl
 | cons s l ih =>
  unfold fullL at ih ⊢
  rw [List.filter_cons]
  split
  ·rw [zaZ, zaZ, ih]
  ·rename_i h
   rw [zaZ, ih]
   have : s.docs = [] := by cases hq : s.docs with | nil => rfl | cons => rw [hq] at h; exact absurd rfl h
   rw [this]; simp
theorem zhE (l : List Sgm) : (fullL l).length ≤ l.length := List.length_filter_le _ _
theorem zcI {a b : List Int} (ha : AscB ltI a) (h : ∀ d ∈ a, d ∈ b) : a.length ≤ b.length := zaX a b (zcv ha) h
theorem zmC {a b : Sgm} (ha : rightS a = true) (hb : rightS b = true) (dl : List Int) : (twoS a b dl).docs.length ≤ a.docs.length + b.docs.length := by
 have := zcI (b := a.docs ++ b.docs) (zoi a b dl) fun d hd => by
  have h := ((zeo a b dl d).1 hd).1
  rw [zaV ha, zaV hb] at h
  exact List.mem_append.2 h
 rwa [List.length_append] at this
theorem zry {x : Ix} {s : Sgm} (hs : rightS s = true) (hne : s.docs ≠ []) (hd : dueX x s = true) : (twoS s ⟨[], []⟩ x.dead).docs.length < s.docs.length := by
 have h1 : s.docs.length ≤ 2 * buriedX x s := of_decide_eq_true hd
 have hpos : 0 < s.docs.length := List.length_pos_iff.2 hne
 have hb : 0 < buriedX x s := by omega
 unfold buriedX at hb
 obtain ⟨d, hdm⟩ := List.exists_mem_of_ne_nil _ (List.length_pos_iff.1 hb)
 obtain ⟨d1, d2⟩ := List.mem_filter.1 hdm
 have d2 := of_decide_eq_true d2
 have := zcI (b := s.docs.erase d) (zoi s ⟨[], []⟩ x.dead) fun e he => by
  obtain ⟨h, hn⟩ := (zeo s ⟨[], []⟩ x.dead e).1 he
  rw [zaV hs, zaV zcX] at h
  rcases h with h | h
  ·exact (List.mem_erase_of_ne (fun e2 : e = d => hn (e2 ▸ d1))).2 h
  ·cases h
 rw [List.length_erase_of_mem d2] at this
 omega
def sizeX (x : Ix) : Nat := x.segs.length + docN x.segs
theorem znx {x : Ix} (hx : IxOk x) (h : (stepX x).1 = true) : sizeX (stepX x).2 < sizeX x ∧ docN (stepX x).2.segs ≤ docN x.segs := by
 unfold stepX at h ⊢
 cases hp : pickL (x.segs.map fun s => (s.docs.length : Int)) with
 | some i =>
  have hi := zcS hp
  rw [List.length_map] at hi
  dsimp only
  unfold sizeX replX cleanX
  dsimp only
  rw [zfA]
  have e1 : docN x.segs = docN (x.segs.take i) + (x.segs[i].docs.length + (x.segs[i + 1].docs.length + docN (x.segs.drop (i + 2)))) := by
   conv => lhs; rw [splitP hi, zcc]
   rfl
  have l1 := zhE (x.segs.take i ++ twoS (x.segs.getD i ⟨[], []⟩) (x.segs.getD (i + 1) ⟨[], []⟩) x.dead :: x.segs.drop (i + 2))
  rw [zcc, zaZ, e1]
  rw [zbv (by omega), zbv hi] at *
  have h2 := zmC (hx.rt _ (List.getElem_mem (show i < x.segs.length by omega))) (hx.rt _ (List.getElem_mem hi)) x.dead
  rw [List.length_append, List.length_cons, List.length_take, List.length_drop] at l1
  omega
 | none =>
  rw [hp] at h
  dsimp only at h ⊢
  cases hf : x.segs.findIdx? (dueX x) with
  | some i =>
   obtain ⟨hi, hd, _⟩ := List.findIdx?_eq_some_iff_getElem.1 hf
   dsimp only
   unfold sizeX replX cleanX
   dsimp only
   rw [zfA]
   have e1 : docN x.segs = docN (x.segs.take i) + (x.segs[i].docs.length + docN (x.segs.drop (i + 1))) := by
    conv => lhs; rw [split1 hi, zcc]
    rfl
   have l1 := zhE (x.segs.take i ++ twoS (x.segs.getD i ⟨[], []⟩) ⟨[], []⟩ x.dead :: x.segs.drop (i + 1))
   rw [zcc, zaZ, e1]
   rw [zbv hi] at *
   have h2 := zry (hx.rt _ (List.getElem_mem hi)) (hx.ne _ (List.getElem_mem hi)) hd
   rw [List.length_append, List.length_cons, List.length_take, List.length_drop] at l1
   omega
  | none => rw [hf] at h; cases h
def docsX (x : Ix) : List Int := sortL ((x.segs.flatMap fun s => s.docs).filter fun d => !decide (d ∈ x.dead))
theorem zey {l : List Sgm} (hr : ∀ s ∈ l, rightS s = true) (hdj : l.Pairwise fun s t => ∀ d, d ∈ s.docs → d ∉ t.docs) : (l.flatMap fun s => s.docs).Nodup := by
 induction l with
 | nil => exact .nil
 | cons s l ih =>
  obtain ⟨h1, h2⟩ := List.pairwise_cons.1 hdj
  rw [List.flatMap_cons]
  refine List.nodup_append.2 ⟨zcv (zan.1 (hr s List.mem_cons_self)).1.1, ih (fun t ht => hr t (List.mem_cons_of_mem _ ht)) h2, fun a ha b hb e => ?_⟩
  obtain ⟨t, ht, hb⟩ := List.mem_flatMap.1 hb
  exact h1 t ht a ha (e ▸ hb)
theorem zeR {l : List Sgm} {d : Int} : d ∈ l.flatMap (fun s => s.docs) ↔ inX l d := List.mem_flatMap
theorem zdA (x : Ix) (d : Int) : d ∈ docsX x ↔ liveX x d := by
 unfold docsX liveX
 rw [zbI, List.mem_filter, zeR]
 simp
theorem zoq {x : Ix} (hx : IxOk x) : AscB ltI (docsX x) := (zhJ ((zey hx.rt hx.dj).sublist List.filter_sublist)).imp fun h => decide_eq_true h
theorem znU (l : List Sgm) : (l.flatMap fun s => s.docs).length = docN l := by
 induction l with
 | nil => rfl
 | cons s l ih => rw [List.flatMap_cons, List.length_append, ih, zaZ]
theorem zin {x : Ix} (hx : IxOk x) : (docsX x).length + x.dead.length = docN x.segs := by
 unfold docsX
 rw [List.length_mergeSort, ← znU]
 have hn := zey hx.rt hx.dj
 have hd := zcv hx.da
 have hin : ∀ d ∈ x.dead, d ∈ x.segs.flatMap fun s => s.docs := fun d h => zeR.2 (hx.di d h)
 generalize (x.segs.flatMap fun s => s.docs) = F at *
 generalize x.dead = D at *
 have h1 : F.length = (F.filter fun d => !decide (d ∈ D)).length + (F.filter fun d => decide (d ∈ D)).length := by
  clear hn hin
  induction F with
  | nil => rfl
  | cons d r ihr => by_cases h : d ∈ D <;> simp [h] <;> omega
 have h2 : (F.filter fun d => decide (d ∈ D)).length = D.length := by
  refine Nat.le_antisymm (zaX _ _ (hn.sublist List.filter_sublist) fun d h => of_decide_eq_true (List.mem_filter.1 h).2) (zaX _ _ hd fun d h => List.mem_filter.2 ⟨hin d h, decide_eq_true h⟩)
 omega
abbrev LDoc := Int × List (List UInt8)
structure Ak where
 d7 : Int
 doc : Int
 tx : List (List UInt8)
 field : Int
 word : List UInt8
 words : List (List UInt8)
deriving DecidableEq, Inhabited
def runS (p : Ix × List LDoc) (a : Ak) : Ix × List LDoc :=
 if a.d7 = 0 ∨ a.d7 = 1 ∨ a.d7 = 4 then ((addX p.1 a.doc a.tx).2, if (addX p.1 a.doc a.tx).1 = 0 then p.2 ++ [(a.doc, a.tx)] else p.2)
 else if a.d7 = 2 ∨ a.d7 = 5 then ((dropX p.1 a.doc).2, if (dropX p.1 a.doc).1 = true then p.2.filter fun e => !decide (e.1 = a.doc) else p.2)
 else ((stepX p.1).2, p.2)
def runX (x : Ix) (l : List Ak) : Ix × List LDoc := l.foldl runS (x, [])
def entsL (l : List LDoc) : List Ent := l.flatMap fun e => entsX e.1 e.2
theorem zce {doc : Int} {tx : List (List UInt8)} {e : Ent} (h : e ∈ entsX doc tx) : e.doc = doc := by
 unfold entsX at h
 simp only [List.mem_cons, List.not_mem_nil, or_false] at h
 rcases h with rfl | rfl | rfl | rfl | rfl <;> rfl
theorem zbn {es : List Ent} {k : Ky} {d : Int} (h : ∀ e ∈ es, e.doc ≠ d) : placesE es k d = [] := by
 unfold placesE
 rw [List.flatMap_eq_nil_iff]
 intro e he
 unfold partE
 exact if_neg (fun hh : d = e.doc ∧ k.1 = e.field => h e he hh.1.symm)
theorem zoP (a b : List LDoc) : entsL (a ++ b) = entsL a ++ entsL b := by unfold entsL; rw [List.flatMap_append]
theorem zeb {l : List LDoc} {e : Ent} (h : e ∈ entsL l) : ∃ p ∈ l, p.1 = e.doc := by
 obtain ⟨p, hp, he⟩ := List.mem_flatMap.1 h
 exact ⟨p, hp, (zce he).symm⟩
structure RunOk (p : Ix × List LDoc) : Prop where
 ok : IxOk p.1
 nd : p.2.Pairwise fun a b => a.1 ≠ b.1
 lv : ∀ d, liveX p.1 d ↔ ∃ e ∈ p.2, e.1 = d
 rg : ∀ e ∈ p.2, 1 ≤ e.1 ∧ e.1 ≤ 1099511627776
 tx : ∀ e ∈ p.2, ∀ t ∈ e.2, t.length ≤ 1000000000
 pl : ∀ k d, pX p.1 k d = placesE (entsL p.2) k d
theorem ziR : RunOk (emptyX, []) := ⟨zhQ.1, .nil, (fun d => ⟨(fun h => absurd h (zhQ.2.1 d)), (fun ⟨e, he, _⟩ => by cases he)⟩), (fun e h => by cases h), (fun e h => by cases h), (fun k d => rfl)⟩
theorem zhU (l : List LDoc) (doc : Int) (k : Ky) (d : Int) : placesE (entsL (l.filter fun e => !decide (e.1 = doc))) k d = if d = doc then [] else placesE (entsL l) k d := by
 induction l with
 | nil => simp [entsL, placesE]
 | cons e l ih =>
  have hc : ∀ m, placesE (entsL (e :: m)) k d = placesE (entsX e.1 e.2) k d ++ placesE (entsL m) k d := fun m => by
   rw [show entsL (e :: m) = entsX e.1 e.2 ++ entsL m from by unfold entsL; rw [List.flatMap_cons], zcJ]
  rw [List.filter_cons]
  by_cases he : e.1 = doc
  ·rw [if_neg (by simp [he]), ih, hc]
   by_cases hd : d = doc
   ·rw [if_pos hd, if_pos hd]
   ·rw [if_neg hd, if_neg hd, zbn (es := entsX e.1 e.2) fun x hx => by rw [zce hx, he]; exact fun h => hd h.symm]; rfl
  ·rw [if_pos (by simp [he]), hc, ih, hc]
   by_cases hd : d = doc
   ·rw [if_pos hd, if_pos hd, zbn (es := entsX e.1 e.2) fun x hx => by rw [zce hx, hd]; exact he]; rfl
   ·rw [if_neg hd, if_neg hd]
theorem add_zero {x : Ix} {doc : Int} {tx : List (List UInt8)} (h : (addX x doc tx).1 = 0) : (1 ≤ doc ∧ doc ≤ 1099511627776) ∧ ¬ liveX x doc := by
 unfold addX at h
 split at h
 ·cases h
 ·split at h
  ·cases h
  ·rename_i h1 h2
   exact ⟨by omega, fun h => h2 (zbC.2 h)⟩
theorem zjy {p : Ix × List LDoc} (h : RunOk p) (a : Ak) (ht : ∀ t ∈ a.tx, t.length ≤ 1000000000) : RunOk (runS p a) := by
 unfold runS
 split
 ·by_cases h0 : (addX p.1 a.doc a.tx).1 = 0
  ·rw [if_pos h0]
   obtain ⟨k1, k2, k3⟩ := zqL h.ok ht h0
   obtain ⟨hr, hnl⟩ := add_zero h0
   have hno : ∀ e ∈ p.2, e.1 ≠ a.doc := fun e he e1 => hnl ((h.lv a.doc).2 ⟨e, he, e1⟩)
   refine ⟨k1, List.pairwise_append.2 ⟨h.nd, List.pairwise_singleton _ _, fun e he b hb => by rw [List.mem_singleton.1 hb]; exact hno e he⟩, fun d => ?_, fun e he => ?_, fun e he => ?_, fun k d => ?_⟩
   ·rw [k2, h.lv]
    constructor
    ·rintro (⟨e, he, e1⟩ | e1)
     ·exact ⟨e, List.mem_append_left _ he, e1⟩
     ·exact ⟨_, List.mem_append_right _ (List.mem_singleton.2 rfl), e1.symm⟩
    ·rintro ⟨e, he, e1⟩
     rcases List.mem_append.1 he with he | he
     ·exact .inl ⟨e, he, e1⟩
     ·rw [List.mem_singleton.1 he] at e1
      exact .inr e1.symm
   ·rcases List.mem_append.1 he with he | he
    ·exact h.rg e he
    ·rw [List.mem_singleton.1 he]; exact hr
   ·rcases List.mem_append.1 he with he | he
    ·exact h.tx e he
    ·rw [List.mem_singleton.1 he]; exact ht
   ·rw [k3]
    dsimp only
    rw [zoP, zcJ]
    have e1 : entsL [(a.doc, a.tx)] = entsX a.doc a.tx := by unfold entsL; simp
    rw [e1]
    by_cases hd : d = a.doc
    ·rw [if_pos hd, zbn (es := entsL p.2) fun e he => ?_]
     ·rfl
     ·obtain ⟨q, hq, e2⟩ := zeb he
      rw [← e2, hd]; exact hno q hq
    ·rw [if_neg hd, h.pl, zbn (es := entsX a.doc a.tx) fun e he => by rw [zce he]; exact fun e2 => hd e2.symm, List.append_nil]
  ·rw [if_neg h0, zrc h0]; exact h
 split
 ·obtain ⟨k1, k2, k3, k4⟩ := zmI h.ok a.doc
  by_cases hb : (dropX p.1 a.doc).1 = true
  ·rw [if_pos hb]
   refine ⟨k1, h.nd.sublist List.filter_sublist, fun d => ?_, fun e he => h.rg e (List.mem_filter.1 he).1, fun e he => h.tx e (List.mem_filter.1 he).1, fun k d => ?_⟩
   ·rw [k3, h.lv]
    constructor
    ·rintro ⟨⟨e, he, e1⟩, hne⟩
     exact ⟨e, List.mem_filter.2 ⟨he, by simp [e1, hne]⟩, e1⟩
    ·rintro ⟨e, he, e1⟩
     obtain ⟨h1, h2⟩ := List.mem_filter.1 he
     exact ⟨⟨e, h1, e1⟩, fun e2 => by rw [e1, e2] at h2; simp at h2⟩
   ·dsimp only
    rw [k4, zhU]
    by_cases hd : d = a.doc
    ·rw [if_pos hd, if_pos hd]
    ·rw [if_neg hd, if_neg hd, h.pl]
  ·rw [if_neg hb]
   have hnl : ¬ liveX p.1 a.doc := fun hl => hb (k2.2 hl)
   have e : (dropX p.1 a.doc).2 = p.1 := by
    unfold dropX
    rw [if_neg fun h => hnl (zbC.1 h)]
   rw [e]; exact h
 ·obtain ⟨k1, k2, k3⟩ := znu h.ok
  exact ⟨k1, h.nd, fun d => (k2 d).trans (h.lv d), h.rg, h.tx, fun k d => (k3 k d).trans (h.pl k d)⟩
theorem zic {es : List Ent} (h : Kept es) : keptE es = es := by
 have : ∀ (b a : List Ent), Kept (a ++ b) → b.foldl stepE a = a ++ b := by
  intro b
  induction b with
  | nil => intro a _; simp
  | cons e b ih =>
   intro a hk
   have hs : stepE a e = a ++ [e] := by
    refine if_pos ⟨hk.ok e (by simp), ?_⟩
    cases hq : hadE a e with
    | false => rfl
    | true =>
     obtain ⟨x, hx, h1⟩ := zeN.1 hq
     exact absurd h1 ((List.pairwise_append.1 hk.sp).2.2 x hx e List.mem_cons_self)
   rw [List.foldl_cons, hs, ih (a ++ [e]) (by rw [List.append_assoc]; exact hk), List.append_assoc]; rfl
 exact this es [] h
theorem zgz {p : Ix × List LDoc} (h : RunOk p) : Kept (entsL p.2) := by
 have hnd := h.nd
 have hrg := h.rg
 clear h
 generalize p.2 = l at *
 induction l with
 | nil => exact Kept.nil
 | cons e l ih =>
  obtain ⟨h1, h2⟩ := List.pairwise_cons.1 hnd
  have ih := ih h2 fun x hx => hrg x (List.mem_cons_of_mem _ hx)
  have hr := hrg e List.mem_cons_self
  have hk := (zcY hr.1 hr.2 e.2).2
  have e1 : entsL (e :: l) = entsX e.1 e.2 ++ entsL l := by unfold entsL; rw [List.flatMap_cons]
  rw [e1]
  refine ⟨fun x hx => ?_, List.pairwise_append.2 ⟨hk.sp, ih.sp, fun a ha b hb hab => ?_⟩⟩
  ·rcases List.mem_append.1 hx with hx | hx
   ·exact hk.ok x hx
   ·exact ih.ok x hx
  ·obtain ⟨q, hq, e2⟩ := zeb hb
   exact h1 q hq (by rw [e2, ← hab.1, zce ha])
theorem zjl {p : Ix × List LDoc} (h : RunOk p) {s : Sgm} (hs : Built s (keptE (entsL p.2))) : s.docs = docsX p.1 ∧ ∀ (f : Int) (q : List UInt8 → Bool), lookX p.1 f q = lookS s f q := by
 rw [zic (zgz h)] at hs
 refine ⟨zbu stoI _ _ (zan.1 hs.right).1.1 (zoq h.ok) fun d => ?_, fun f q => znr (fun k d => ?_) f q⟩
 ·rw [hs.docs, zdA, h.lv]
  constructor
  ·rintro ⟨e, he, rfl⟩
   obtain ⟨r, hr, e2⟩ := zeb he
   exact ⟨r, hr, e2⟩
  ·rintro ⟨e, he, rfl⟩
   exact ⟨⟨e.1, 1, e.2.getD 1 []⟩, List.mem_flatMap.2 ⟨e, he, List.mem_cons_self⟩, rfl⟩
 ·unfold pS
  rw [zaV hs.right, hs.posts, h.pl]
end Go.Proofs.YtennokckmjcefaaGreatDoor
