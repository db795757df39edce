/- Helper lemmas that the proved statement rests on; no conditions of their own. -/
import Derived.Test.YtennokckmjcefaaGreatDoorGMl2
set_option linter.unusedVariables false
namespace Go.Proofs.YtennokckmjcefaaGreatDoor
open Go.Shelf Go.RowKit Go.Pw Go.Vc Go.Cs Go.Lib Go.Cd Go.Mg
def entsX (doc : Int) (tx : List (List UInt8)) : List Ent := [⟨doc, 1, tx.getD 1 []⟩, ⟨doc, 2, tx.getD 2 []⟩, ⟨doc, 3, tx.getD 3 []⟩, ⟨doc, 4, tx.getD 4 []⟩, ⟨doc, 5, tx.getD 5 []⟩]
def findX (l : List Sgm) (d : Int) : Option Nat := l.findIdx? fun s => decide (d ∈ s.docs)
def aliveB (x : Ix) (d : Int) : Bool := memB x.segs d && !decide (d ∈ x.dead)
theorem zbO {x : Ix} {d : Int} : aliveB x d = true ↔ liveX x d := by
 unfold aliveB liveX
 rw [Bool.and_eq_true, zeu]
 simp
def readX (x : Ix) (doc : Int) : Ix := match findX x.segs doc with
 | some i => replX x i 1 (twoS (x.segs.getD i ⟨[], []⟩) ⟨[], []⟩ [doc])
 | none => x
def addX (x : Ix) (doc : Int) (tx : List (List UInt8)) : Int × Ix :=
 if doc < 1 ∨ 1099511627776 < doc then (1, x)
 else if aliveB x doc = true then (4, x)
 else (0, ⟨(readX x doc).segs ++ [buildE (entsX doc tx)], (readX x doc).dead⟩)
def dropX (x : Ix) (doc : Int) : Bool × Ix := if aliveB x doc = true then (true, ⟨x.segs, withL x.dead doc⟩) else (false, x)
def buriedX (x : Ix) (s : Sgm) : Nat := (x.dead.filter fun d => decide (d ∈ s.docs)).length
def dueX (x : Ix) (s : Sgm) : Bool := decide (s.docs.length ≤ 2 * buriedX x s)
def stepX (x : Ix) : Bool × Ix := match pickL (x.segs.map fun s => (s.docs.length : Int)) with
 | some i => (true, replX x i 2 (twoS (x.segs.getD i ⟨[], []⟩) (x.segs.getD (i + 1) ⟨[], []⟩) x.dead))
 | none => match x.segs.findIdx? (dueX x) with
  | some i => (true, replX x i 1 (twoS (x.segs.getD i ⟨[], []⟩) ⟨[], []⟩ x.dead))
  | none => (false, x)
theorem zcR {l : List Sgm} {i : Nat} (h : i < l.length) : l.getD i ⟨[], []⟩ = l[i] := by simp [List.getD, List.getElem?_eq_getElem h]
theorem split1 {l : List Sgm} {i : Nat} (h : i < l.length) : l = l.take i ++ ([l[i]] ++ l.drop (i + 1)) := by
 conv => lhs; rw [← List.take_append_drop i l, List.drop_eq_getElem_cons h]
 rfl
theorem splitP {l : List Sgm} {i : Nat} (h : i + 1 < l.length) : l = l.take i ++ ([l[i], l[i + 1]] ++ l.drop (i + 2)) := by
 conv => lhs; rw [← List.take_append_drop i l, List.drop_eq_getElem_cons (by omega), List.drop_eq_getElem_cons h]
 rfl
theorem zpp {x : Ix} (hx : IxOk x) {i : Nat} (hi : i < x.segs.length) {dl : List Int} (hdl : ∀ d ∈ dl, d ∈ x.dead) :
  IxOk (replX x i 1 (twoS (x.segs.getD i ⟨[], []⟩) ⟨[], []⟩ dl)) ∧ (∀ d, liveX (replX x i 1 (twoS (x.segs.getD i ⟨[], []⟩) ⟨[], []⟩ dl)) d ↔ liveX x d) ∧ ∀ k d, pX (replX x i 1 (twoS (x.segs.getD i ⟨[], []⟩) ⟨[], []⟩ dl)) k d = pX x k d := by
 rw [zcR hi]
 unfold replX
 have hri := hx.rt _ (List.getElem_mem hi)
 refine zmS hx (mid := [x.segs[i]]) (split1 hi) (zdL _ _ _) hdl (fun d => ?_) (fun k d => ?_)
 ·rw [ziu, zbz hri, zbz zeP]
  constructor
  ·rintro ⟨h | h, h2⟩
   ·exact ⟨⟨_, List.mem_singleton.2 rfl, h⟩, h2⟩
   ·cases h
  ·rintro ⟨⟨t, ht, h⟩, h2⟩
   rw [List.mem_singleton.1 ht] at h
   exact ⟨.inl h, h2⟩
 ·rw [zlP, zpB, zcA]
  show _ = if d ∈ dl then [] else unI (pS x.segs[i] k d) []
  rw [zcA]
theorem zrs {x : Ix} (hx : IxOk x) {i : Nat} (hi : i + 1 < x.segs.length) :
  IxOk (replX x i 2 (twoS (x.segs.getD i ⟨[], []⟩) (x.segs.getD (i + 1) ⟨[], []⟩) x.dead)) ∧ (∀ d, liveX (replX x i 2 (twoS (x.segs.getD i ⟨[], []⟩) (x.segs.getD (i + 1) ⟨[], []⟩) x.dead)) d ↔ liveX x d) ∧ ∀ k d, pX (replX x i 2 (twoS (x.segs.getD i ⟨[], []⟩) (x.segs.getD (i + 1) ⟨[], []⟩) x.dead)) k d = pX x k d := by
 rw [zcR (by omega), zcR hi]
 unfold replX
 have h1 := hx.rt _ (List.getElem_mem (show i < x.segs.length by omega))
 have h2 := hx.rt _ (List.getElem_mem hi)
 refine zmS hx (mid := [x.segs[i], x.segs[i + 1]]) (splitP hi) (zdL _ _ _) (fun _ h => h) (fun d => ?_) (fun k d => ?_)
 ·rw [ziu, zbz h1, zbz h2, zgz]
  constructor
  ·rintro ⟨h | h, hn⟩
   ·exact ⟨.inl h, hn⟩
   ·exact ⟨.inr ⟨_, List.mem_singleton.2 rfl, h⟩, hn⟩
  ·rintro ⟨h | ⟨t, ht, h⟩, hn⟩
   ·exact ⟨.inl h, hn⟩
   ·rw [List.mem_singleton.1 ht] at h
    exact ⟨.inr h, hn⟩
 ·rw [zlP]
  show _ = if d ∈ x.dead then [] else unI (pS x.segs[i] k d) (unI (pS x.segs[i + 1] k d) [])
  rw [zcA]
theorem zcQ {l : List Sgm} {d : Int} {i : Nat} (h : findX l d = some i) : ∃ hi : i < l.length, d ∈ l[i].docs := by
 obtain ⟨hi, h1, _⟩ := List.findIdx?_eq_some_iff_getElem.1 h
 exact ⟨hi, of_decide_eq_true h1⟩
theorem zlC {l : List Sgm} {d : Int} (h : findX l d = none) : ¬ inX l d := by
 rintro ⟨s, hs, hd⟩
 have := List.findIdx?_eq_none_iff.1 h s hs
 rw [decide_eq_true hd] at this; cases this
theorem zqG {x : Ix} (hx : IxOk x) {doc : Int} (hn : ¬ liveX x doc) : IxOk (readX x doc) ∧ (∀ d, liveX (readX x doc) d ↔ liveX x d) ∧ (∀ k d, pX (readX x doc) k d = pX x k d) ∧ ¬ inX (readX x doc).segs doc := by
 unfold readX
 cases hf : findX x.segs doc with
 | none => exact ⟨hx, fun _ => Iff.rfl, fun _ _ => rfl, zlC hf⟩
 | some i =>
  obtain ⟨hi, hd⟩ := zcQ hf
  have hdd : doc ∈ x.dead := by
   by_cases h : doc ∈ x.dead
   ·exact h
   ·exact absurd ⟨⟨_, List.getElem_mem hi, hd⟩, h⟩ hn
  obtain ⟨h1, h2, h3⟩ := zpp hx hi (dl := [doc]) (fun d h => by rw [List.mem_singleton.1 h]; exact hdd)
  refine ⟨h1, h2, h3, fun hin => ?_⟩
  dsimp only at hin
  unfold replX cleanX at hin
  dsimp only at hin
  rw [zez, zft, zgz, zcR hi, ziu] at hin
  have hdj := hx.dj
  rw [split1 hi] at hdj
  obtain ⟨d1, d2, d3⟩ := List.pairwise_append.1 hdj
  rcases hin with ⟨t, ht, h⟩ | h | ⟨t, ht, h⟩
  ·exact d3 t ht _ (List.mem_append_left _ (List.mem_singleton.2 rfl)) doc h hd
  ·exact h.2 (List.mem_singleton.2 rfl)
  ·exact (List.pairwise_cons.1 d2).1 t ht doc hd h
theorem zeS {doc : Int} (h1 : 1 ≤ doc) (h2 : doc ≤ 1099511627776) (tx : List (List UInt8)) : keptE (entsX doc tx) = entsX doc tx ∧ Kept (entsX doc tx) := by
 have e : keptE (entsX doc tx) = entsX doc tx := by
  have hc : ∀ f t, 1 ≤ f → f ≤ 5 → countsE ⟨doc, f, t⟩ = true := fun f t a b => by
   unfold countsE
   simp only [Bool.and_eq_true, decide_eq_true_eq]
   omega
  unfold keptE entsX
  simp [stepE, hc, hadE]
 exact ⟨e, e ▸ zid _⟩
theorem zpc {x : Ix} (hx : IxOk x) {doc : Int} {tx : List (List UInt8)} (ht : ∀ t ∈ tx, t.length ≤ 1000000000) (h0 : (addX x doc tx).1 = 0) :
  IxOk (addX x doc tx).2 ∧ (∀ d, liveX (addX x doc tx).2 d ↔ liveX x d ∨ d = doc) ∧ ∀ k d, pX (addX x doc tx).2 k d = if d = doc then placesE (entsX doc tx) k d else pX x k d := by
 unfold addX at h0 ⊢
 split at h0
 ·cases h0
 rename_i hb
 rw [if_neg hb]
 split at h0
 ·cases h0
 rename_i hl
 rw [if_neg hl]
 have hl : ¬ liveX x doc := fun h => hl (zbO.2 h)
 obtain ⟨r1, r2, r3, r4⟩ := zqG hx hl
 generalize readX x doc = y at *
 have hB := zim (zeS (doc := doc) (by omega) (by omega) tx).2 (fun e he => by
  have : e.text ∈ tx ∨ e.text = [] := by
   have key : ∀ j, tx.getD j [] ∈ tx ∨ tx.getD j [] = [] := fun j => by
    by_cases h : j < tx.length
    ·left; simp [List.getD, List.getElem?_eq_getElem h]
    ·right; simp [List.getD, List.getElem?_eq_none (Nat.le_of_not_lt h)]
   unfold entsX at he
   simp only [List.mem_cons, List.not_mem_nil, or_false] at he
   rcases he with rfl | rfl | rfl | rfl | rfl <;> exact key _
  rcases this with h | h
  ·exact ht _ h
  ·rw [h]; exact Nat.zero_le _)
 generalize hS : buildE (entsX doc tx) = S at *
 have hSd : ∀ d, d ∈ S.docs ↔ d = doc := fun d => by
  rw [hB.docs]
  constructor
  ·rintro ⟨e, he, rfl⟩
   unfold entsX at he
   simp only [List.mem_cons, List.not_mem_nil, or_false] at he
   rcases he with rfl | rfl | rfl | rfl | rfl <;> rfl
  ·rintro rfl
   exact ⟨_, List.mem_cons_self, rfl⟩
 have hSp : ∀ k d, pS S k d = placesE (entsX doc tx) k d := fun k d => by unfold pS; rw [zbz hB.right, hB.posts]
 have hnd : doc ∉ y.dead := fun h => r4 (r1.di doc h)
 have hin : ∀ d, inX (y.segs ++ [S]) d ↔ inX y.segs d ∨ d = doc := fun d => by
  rw [zft]
  constructor
  ·rintro (h | ⟨t, ht, h⟩)
   ·exact .inl h
   ·rw [List.mem_singleton.1 ht] at h
    exact .inr ((hSd d).1 h)
  ·rintro (h | h)
   ·exact .inl h
   ·exact .inr ⟨S, List.mem_singleton.2 rfl, (hSd d).2 h⟩
 refine ⟨⟨fun s hs => ?_, fun s hs => ?_, ?_, r1.da, fun d hd => ?_⟩, fun d => ?_, fun k d => ?_⟩
 ·rcases List.mem_append.1 hs with hs | hs
  ·exact r1.rt s hs
  ·rw [List.mem_singleton.1 hs]; exact hB.right
 ·rcases List.mem_append.1 hs with hs | hs
  ·exact r1.ne s hs
  ·rw [List.mem_singleton.1 hs]
   intro e
   have := (hSd doc).2 rfl
   rw [e] at this; cases this
 ·refine List.pairwise_append.2 ⟨r1.dj, List.pairwise_singleton _ _, fun a ha b hb d h1 h2 => ?_⟩
  rw [List.mem_singleton.1 hb] at h2
  rw [(hSd d).1 h2] at h1
  exact r4 ⟨a, ha, h1⟩
 ·obtain ⟨s, hs, h⟩ := r1.di d hd
  exact ⟨s, List.mem_append_left _ hs, h⟩
 ·rw [← r2]
  unfold liveX
  dsimp only
  rw [hin]
  constructor
  ·rintro ⟨h | h, h2⟩
   ·exact .inl ⟨h, h2⟩
   ·exact .inr h
  ·rintro (⟨h, h2⟩ | rfl)
   ·exact ⟨.inl h, h2⟩
   ·exact ⟨.inr rfl, hnd⟩
 ·have e1 : pL (y.segs ++ [S]) k d = unI (pL y.segs k d) (placesE (entsX doc tx) k d) := by
   rw [zjC]
   show unI _ (unI (pS S k d) []) = _
   rw [zcA, hSp]
  by_cases hdd : d = doc
  ·subst hdd
   rw [if_pos rfl]
   unfold pX
   dsimp only
   rw [if_neg hnd, e1, zjr r1.rt r4, zdm]
  ·rw [if_neg hdd, ← r3]
   unfold pX
   dsimp only
   have e2 : placesE (entsX doc tx) k d = [] := by
    rw [← hSp]
    exact zgT hB.right fun h => hdd ((hSd d).1 h)
   rw [e1, e2, zcA]
theorem zpq {x : Ix} {doc : Int} {tx : List (List UInt8)} (h0 : (addX x doc tx).1 ≠ 0) : (addX x doc tx).2 = x := by
 unfold addX at h0 ⊢
 split
 ·rfl
 ·split
  ·rfl
  ·rename_i h1 h2
   rw [if_neg h1, if_neg h2] at h0
   exact absurd rfl h0
theorem zlx {x : Ix} (hx : IxOk x) (doc : Int) : IxOk (dropX x doc).2 ∧ ((dropX x doc).1 = true ↔ liveX x doc) ∧ (∀ d, liveX (dropX x doc).2 d ↔ liveX x d ∧ d ≠ doc) ∧ ∀ k d, pX (dropX x doc).2 k d = if d = doc then [] else pX x k d := by
 unfold dropX
 by_cases hl : aliveB x doc = true
 ·rw [if_pos hl]
  have hlv := zbO.1 hl
  have hm := zfB doc x.dead (ziX.1 hx.da)
  refine ⟨⟨hx.rt, hx.ne, hx.dj, ziX.2 (zhK doc x.dead (ziX.1 hx.da)), fun d hd => ?_⟩, ⟨fun _ => hlv, fun _ => rfl⟩, fun d => ?_, fun k d => ?_⟩
  ·rcases (hm d).1 hd with rfl | hd
   ·exact hlv.1
   ·exact hx.di d hd
  ·unfold liveX
   dsimp only
   rw [hm]
   constructor
   ·rintro ⟨h1, h2⟩
    exact ⟨⟨h1, fun h => h2 (.inr h)⟩, fun h => h2 (.inl h)⟩
   ·rintro ⟨⟨h1, h2⟩, h3⟩
    exact ⟨h1, fun h => by rcases h with h | h; exact h3 h; exact h2 h⟩
  ·unfold pX
   dsimp only
   by_cases hd : d = doc
   ·rw [if_pos hd, if_pos ((hm d).2 (.inl hd))]
   ·rw [if_neg hd]
    by_cases h : d ∈ x.dead
    ·rw [if_pos h, if_pos ((hm d).2 (.inr h))]
    ·rw [if_neg h, if_neg fun h2 => by rcases (hm d).1 h2 with h2 | h2; exact hd h2; exact h h2]
 ·rw [if_neg hl]
  have hnl : ¬ liveX x doc := fun h => hl (zbO.2 h)
  refine ⟨hx, ⟨(fun h => by cases h), (fun h => absurd h hnl)⟩, fun d => ⟨fun h => ⟨h, fun e => hnl (e ▸ h)⟩, fun h => h.1⟩, fun k d => ?_⟩
  by_cases hd : d = doc
  ·rw [if_pos hd]
   subst hd
   dsimp only
   unfold pX
   by_cases h : d ∈ x.dead
   ·rw [if_pos h]
   ·rw [if_neg h]
    exact zjr hx.rt fun hi => hnl ⟨hi, h⟩
  ·rw [if_neg hd]
theorem zmi {x : Ix} (hx : IxOk x) : IxOk (stepX x).2 ∧ (∀ d, liveX (stepX x).2 d ↔ liveX x d) ∧ ∀ k d, pX (stepX x).2 k d = pX x k d := by
 unfold stepX
 cases hp : pickL (x.segs.map fun s => (s.docs.length : Int)) with
 | some i =>
  have hi := zeK hp
  rw [List.length_map] at hi
  exact zrs hx hi
 | none =>
  dsimp only
  cases hf : x.segs.findIdx? (dueX x) with
  | some i =>
   obtain ⟨hi, _⟩ := List.findIdx?_eq_some_iff_getElem.1 hf
   exact zpp hx hi fun _ h => h
  | none => exact ⟨hx, fun _ => Iff.rfl, fun _ _ => rfl⟩
def emptyX : Ix := ⟨[], []⟩
theorem zgY : IxOk emptyX ∧ (∀ d, ¬ liveX emptyX d) ∧ ∀ k d, pX emptyX k d = [] :=
 ⟨⟨(fun s h => by cases h), (fun s h => by cases h), .nil, .nil, (fun d h => by cases h)⟩, (fun d h => by obtain ⟨⟨s, hs, _⟩, _⟩ := h; cases hs), (fun k d => rfl)⟩
def docN (l : List Sgm) : Nat := (l.map fun s => s.docs.length).sum
theorem zdK (s : Sgm) (l : List Sgm) : docN (s :: l) = s.docs.length + docN l := rfl
theorem zoM (l : List Sgm) : (fullL l).length ≤ l.length := List.length_filter_le _ _
theorem ziy {a b : List Int} (ha : AscB ltI a) (h : ∀ d ∈ a, d ∈ b) : a.length ≤ b.length := zaI a b (zcp ha) h
def sizeX (x : Ix) : Nat := x.segs.length + docN x.segs
def docsX (x : Ix) : List Int := sortL ((x.segs.flatMap fun s => s.docs).filter fun d => !decide (d ∈ x.dead))
theorem zlb {l : List Sgm} (hr : ∀ s ∈ l, rightS s = true) (hdj : l.Pairwise fun s t => ∀ d, d ∈ s.docs → d ∉ t.docs) : (l.flatMap fun s => s.docs).Nodup := by
 induction l with
 | nil => exact .nil
 | cons s l ih =>
  obtain ⟨h1, h2⟩ := List.pairwise_cons.1 hdj
  rw [List.flatMap_cons]
  refine List.nodup_append.2 ⟨zcp (zao.1 (hr s List.mem_cons_self)).1.1, ih (fun t ht => hr t (List.mem_cons_of_mem _ ht)) h2, fun a ha b hb e => ?_⟩
  obtain ⟨t, ht, hb⟩ := List.mem_flatMap.1 hb
  exact h1 t ht a ha (e ▸ hb)
theorem zjp {l : List Sgm} {d : Int} : d ∈ l.flatMap (fun s => s.docs) ↔ inX l d := List.mem_flatMap
theorem zlA (x : Ix) (d : Int) : d ∈ docsX x ↔ liveX x d := by
 unfold docsX liveX
 rw [zbE, List.mem_filter, zjp]
 simp
theorem zmD (l : List Sgm) : (l.flatMap fun s => s.docs).length = docN l := by
 induction l with
 | nil => rfl
 | cons s l ih => rw [List.flatMap_cons, List.length_append, ih, zdK]
theorem zhs {x : Ix} (hx : IxOk x) : (docsX x).length + x.dead.length = docN x.segs := by
 unfold docsX
 rw [List.length_mergeSort, ← zmD]
 have hn := zlb hx.rt hx.dj
 have hd := zcp hx.da
 have hin : ∀ d ∈ x.dead, d ∈ x.segs.flatMap fun s => s.docs := fun d h => zjp.2 (hx.di d h)
 generalize (x.segs.flatMap fun s => s.docs) = F at *
 generalize x.dead = D at *
 have h1 : F.length = (F.filter fun d => !decide (d ∈ D)).length + (F.filter fun d => decide (d ∈ D)).length := by
  clear hn hin
  induction F with
  | nil => rfl
  | cons d r ihr => by_cases h : d ∈ D <;> simp [h] <;> omega
 have h2 : (F.filter fun d => decide (d ∈ D)).length = D.length := by
  refine Nat.le_antisymm (zaI _ _ (hn.sublist List.filter_sublist) fun d h => of_decide_eq_true (List.mem_filter.1 h).2) (zaI _ _ hd fun d h => List.mem_filter.2 ⟨hin d h, decide_eq_true h⟩)
 omega
abbrev LDoc := Int × List (List UInt8)
structure Ak where
 d7 : Int
 doc : Int
 tx : List (List UInt8)
 field : Int
 word : List UInt8
 words : List (List UInt8)
deriving DecidableEq, Inhabited
def runS (p : Ix × List LDoc) (a : Ak) : Ix × List LDoc :=
 if a.d7 = 0 ∨ a.d7 = 1 ∨ a.d7 = 4 then ((addX p.1 a.doc a.tx).2, if (addX p.1 a.doc a.tx).1 = 0 then p.2 ++ [(a.doc, a.tx)] else p.2)
 else if a.d7 = 2 ∨ a.d7 = 5 then ((dropX p.1 a.doc).2, if (dropX p.1 a.doc).1 = true then p.2.filter fun e => !decide (e.1 = a.doc) else p.2)
 else ((stepX p.1).2, p.2)
def entsL (l : List LDoc) : List Ent := l.flatMap fun e => entsX e.1 e.2
theorem zdI {doc : Int} {tx : List (List UInt8)} {e : Ent} (h : e ∈ entsX doc tx) : e.doc = doc := by
 unfold entsX at h
 simp only [List.mem_cons, List.not_mem_nil, or_false] at h
 rcases h with rfl | rfl | rfl | rfl | rfl <;> rfl
theorem zbW {es : List Ent} {k : Ky} {d : Int} (h : ∀ e ∈ es, e.doc ≠ d) : placesE es k d = [] := by
 unfold placesE
 rw [List.flatMap_eq_nil_iff]
 intro e he
 unfold partE
 exact if_neg (fun hh : d = e.doc ∧ k.1 = e.field => h e he hh.1.symm)
theorem znp (a b : List LDoc) : entsL (a ++ b) = entsL a ++ entsL b := by unfold entsL; rw [List.flatMap_append]
theorem znj {l : List LDoc} {e : Ent} (h : e ∈ entsL l) : ∃ p ∈ l, p.1 = e.doc := by
 obtain ⟨p, hp, he⟩ := List.mem_flatMap.1 h
 exact ⟨p, hp, (zdI he).symm⟩
structure RunOk (p : Ix × List LDoc) : Prop where
 ok : IxOk p.1
 nd : p.2.Pairwise fun a b => a.1 ≠ b.1
 lv : ∀ d, liveX p.1 d ↔ ∃ e ∈ p.2, e.1 = d
 rg : ∀ e ∈ p.2, 1 ≤ e.1 ∧ e.1 ≤ 1099511627776
 tx : ∀ e ∈ p.2, ∀ t ∈ e.2, t.length ≤ 1000000000
 pl : ∀ k d, pX p.1 k d = placesE (entsL p.2) k d
theorem zmX : RunOk (emptyX, []) := ⟨zgY.1, .nil, (fun d => ⟨(fun h => absurd h (zgY.2.1 d)), (fun ⟨e, he, _⟩ => by cases he)⟩), (fun e h => by cases h), (fun e h => by cases h), (fun k d => rfl)⟩
theorem zhc (l : List LDoc) (doc : Int) (k : Ky) (d : Int) : placesE (entsL (l.filter fun e => !decide (e.1 = doc))) k d = if d = doc then [] else placesE (entsL l) k d := by
 induction l with
 | nil => simp [entsL, placesE]
 | cons e l ih =>
  have hc : ∀ m, placesE (entsL (e :: m)) k d = placesE (entsX e.1 e.2) k d ++ placesE (entsL m) k d := fun m => by
   rw [show entsL (e :: m) = entsX e.1 e.2 ++ entsL m from by unfold entsL; rw [List.flatMap_cons], zdF]
  rw [List.filter_cons]
  by_cases he : e.1 = doc
  ·rw [if_neg (by simp [he]), ih, hc]
   by_cases hd : d = doc
   ·rw [if_pos hd, if_pos hd]
   ·rw [if_neg hd, if_neg hd, zbW (es := entsX e.1 e.2) fun x hx => by rw [zdI hx, he]; exact fun h => hd h.symm]; rfl
  ·rw [if_pos (by simp [he]), hc, ih, hc]
   by_cases hd : d = doc
   ·rw [if_pos hd, if_pos hd, zbW (es := entsX e.1 e.2) fun x hx => by rw [zdI hx, hd]; exact he]; rfl
   ·rw [if_neg hd, if_neg hd]
theorem add_zero {x : Ix} {doc : Int} {tx : List (List UInt8)} (h : (addX x doc tx).1 = 0) : (1 ≤ doc ∧ doc ≤ 1099511627776) ∧ ¬ liveX x doc := by
 unfold addX at h
 split at h
 ·cases h
 ·split at h
  ·cases h
  ·rename_i h1 h2
   exact ⟨by omega, fun h => h2 (zbO.2 h)⟩
theorem zqd {p : Ix × List LDoc} (h : RunOk p) (a : Ak) (ht : ∀ t ∈ a.tx, t.length ≤ 1000000000) : RunOk (runS p a) := by
 unfold runS
 split
 ·by_cases h0 : (addX p.1 a.doc a.tx).1 = 0
  ·rw [if_pos h0]
   obtain ⟨k1, k2, k3⟩ := zpc h.ok ht h0
   obtain ⟨hr, hnl⟩ := add_zero h0
   have hno : ∀ e ∈ p.2, e.1 ≠ a.doc := fun e he e1 => hnl ((h.lv a.doc).2 ⟨e, he, e1⟩)
   refine ⟨k1, List.pairwise_append.2 ⟨h.nd, List.pairwise_singleton _ _, fun e he b hb => by rw [List.mem_singleton.1 hb]; exact hno e he⟩, fun d => ?_, fun e he => ?_, fun e he => ?_, fun k d => ?_⟩
   ·rw [k2, h.lv]
    constructor
    ·rintro (⟨e, he, e1⟩ | e1)
     ·exact ⟨e, List.mem_append_left _ he, e1⟩
     ·exact ⟨_, List.mem_append_right _ (List.mem_singleton.2 rfl), e1.symm⟩
    ·rintro ⟨e, he, e1⟩
     rcases List.mem_append.1 he with he | he
     ·exact .inl ⟨e, he, e1⟩
     ·rw [List.mem_singleton.1 he] at e1
      exact .inr e1.symm
   ·rcases List.mem_append.1 he with he | he
    ·exact h.rg e he
    ·rw [List.mem_singleton.1 he]; exact hr
   ·rcases List.mem_append.1 he with he | he
    ·exact h.tx e he
    ·rw [List.mem_singleton.1 he]; exact ht
   ·rw [k3]
    dsimp only
    rw [znp, zdF]
    have e1 : entsL [(a.doc, a.tx)] = entsX a.doc a.tx := by unfold entsL; simp
    rw [e1]
    by_cases hd : d = a.doc
    ·rw [if_pos hd, zbW (es := entsL p.2) fun e he => ?_]
     ·rfl
     ·obtain ⟨q, hq, e2⟩ := znj he
      rw [← e2, hd]; exact hno q hq
    ·rw [if_neg hd, h.pl, zbW (es := entsX a.doc a.tx) fun e he => by rw [zdI he]; exact fun e2 => hd e2.symm, List.append_nil]
  ·rw [if_neg h0, zpq h0]; exact h
 split
 ·obtain ⟨k1, k2, k3, k4⟩ := zlx h.ok a.doc
  by_cases hb : (dropX p.1 a.doc).1 = true
  ·rw [if_pos hb]
   refine ⟨k1, h.nd.sublist List.filter_sublist, fun d => ?_, fun e he => h.rg e (List.mem_filter.1 he).1, fun e he => h.tx e (List.mem_filter.1 he).1, fun k d => ?_⟩
   ·rw [k3, h.lv]
    constructor
    ·rintro ⟨⟨e, he, e1⟩, hne⟩
     exact ⟨e, List.mem_filter.2 ⟨he, by simp [e1, hne]⟩, e1⟩
    ·rintro ⟨e, he, e1⟩
     obtain ⟨h1, h2⟩ := List.mem_filter.1 he
     exact ⟨⟨e, h1, e1⟩, fun e2 => by rw [e1, e2] at h2; simp at h2⟩
   ·dsimp only
    rw [k4, zhc]
    by_cases hd : d = a.doc
    ·rw [if_pos hd, if_pos hd]
    ·rw [if_neg hd, if_neg hd, h.pl]
  ·rw [if_neg hb]
   have hnl : ¬ liveX p.1 a.doc := fun hl => hb (k2.2 hl)
   have e : (dropX p.1 a.doc).2 = p.1 := by
    unfold dropX
    rw [if_neg fun h => hnl (zbO.1 h)]
   rw [e]; exact h
 ·obtain ⟨k1, k2, k3⟩ := zmi h.ok
  exact ⟨k1, h.nd, fun d => (k2 d).trans (h.lv d), h.rg, h.tx, fun k d => (k3 k d).trans (h.pl k d)⟩
def nextO (a : List Pst) (gap : Int) (y : Pst) : Option Pst :=
 if (y.places.filter fun n => decide (n - gap ∈ atD a y.doc)) = [] then none else some ⟨y.doc, y.places.filter fun n => decide (n - gap ∈ atD a y.doc)⟩
def nextP (a b : List Pst) (gap : Int) : List Pst := b.filterMap (nextO a gap)
theorem zhd (a : List Pst) (gap : Int) : ∀ b : List Pst, rightP b = true → rightP (nextP a b gap) = true ∧ ∀ d, atD (nextP a b gap) d = (atD b d).filter fun n => decide (n - gap ∈ atD a d) := by
 intro b hb
 obtain ⟨hasc, hall⟩ := zas.1 hb
 have key : ∀ b : List Pst, AscP b → AscP (nextP a b gap) ∧ (∀ p ∈ nextP a b gap, ∃ y ∈ b, nextO a gap y = some p) ∧ ∀ d, atD (nextP a b gap) d = (atD b d).filter fun n => decide (n - gap ∈ atD a d) := by
  intro b
  induction b with
  | nil => exact fun _ => ⟨.nil, (fun p h => by cases h), fun d => rfl⟩
  | cons y b ih =>
   intro h
   obtain ⟨h1, h2⟩ := List.pairwise_cons.1 h
   obtain ⟨i1, i2, i3⟩ := ih h2
   unfold nextP at i1 i2 i3 ⊢
   rw [List.filterMap_cons]
   cases hq : nextO a gap y with
   | none =>
    dsimp only
    refine ⟨i1, fun p hp => ?_, fun d => ?_⟩
    ·obtain ⟨z, hz, e⟩ := i2 p hp
     exact ⟨z, List.mem_cons_of_mem _ hz, e⟩
    ·rw [i3, zaJ]
     by_cases hd : y.doc = d
     ·rw [if_pos hd]
      have e0 : (y.places.filter fun n => decide (n - gap ∈ atD a d)) = [] := by
       unfold nextO at hq
       split at hq
       ·rename_i hz; rw [← hd]; exact hz
       ·cases hq
      have e1 : atD b d = [] := zjt fun p hp => by have := h1 p hp; omega
      rw [e0, e1]; rfl
     ·rw [if_neg hd]
   | some z =>
    dsimp only
    have hz : z = ⟨y.doc, y.places.filter fun n => decide (n - gap ∈ atD a y.doc)⟩ := by
     unfold nextO at hq
     split at hq
     ·cases hq
     ·injection hq with hq; exact hq.symm
    refine ⟨List.Pairwise.cons (fun p hp => ?_) i1, fun p hp => ?_, fun d => ?_⟩
    ·obtain ⟨u, hu, e⟩ := i2 p hp
     have : p.doc = u.doc := by
      unfold nextO at e
      split at e
      ·cases e
      ·injection e with e; rw [← e]
     rw [this, hz]; exact h1 u hu
    ·rcases List.mem_cons.1 hp with rfl | hp
     ·exact ⟨y, List.mem_cons_self, hq⟩
     ·obtain ⟨u, hu, e⟩ := i2 p hp
      exact ⟨u, List.mem_cons_of_mem _ hu, e⟩
    ·rw [zaJ, zaJ, i3, hz]
     dsimp only
     by_cases hd : y.doc = d
     ·rw [if_pos hd, if_pos hd, hd]
     ·rw [if_neg hd, if_neg hd]
 obtain ⟨k1, k2, k3⟩ := key b hasc
 refine ⟨zas.2 ⟨k1, fun p hp => ?_⟩, k3⟩
 obtain ⟨y, hy, e⟩ := k2 p hp
 obtain ⟨r1, r2, r3, r4, r5⟩ := hall y hy
 unfold nextO at e
 split at e
 ·cases e
 ·rename_i hne
  injection e with e
  subst e
  refine ⟨r1, r2, hne, ?_, fun n hn => r5 n (List.mem_filter.1 hn).1⟩
  unfold AscB at r4 ⊢
  exact r4.sublist List.filter_sublist
def eqW (w : List UInt8) : List UInt8 → Bool := fun x => decide (x = w)
def phraseL (x : Ix) (f : Int) : List (List UInt8) → List Pst
 | [] => []
 | w :: ws => ws.foldl (fun l v => nextP l (lookX x f (eqW v)) 1) (lookX x f (eqW w))
def phraseX (x : Ix) (field : Int) (ws : List (List UInt8)) : List Int :=
 if ws = [] then [] else sortI ([1, 2, 3, 4, 5].flatMap fun f => if field ≠ 0 ∧ f ≠ field then [] else (phraseL x f ws).map (·.doc))
theorem zfu {x : Ix} {f : Int} (hf : f ≠ 0) (w : List UInt8) (d z : Int) : z ∈ atD (lookX x f (eqW w)) d ↔ z ∈ pX x (f, w) d := by
 rw [(zbl x f (eqW w)).2]
 constructor
 ·rintro ⟨⟨k1, k2⟩, hk, h⟩
  unfold okK eqW at hk
  simp only [Bool.and_eq_true, Bool.or_eq_true, decide_eq_true_eq] at hk
  obtain ⟨h1 | h1, h2⟩ := hk
  ·exact absurd h1 hf
  ·rw [h1, ← h2]; exact h
 ·intro h
  exact ⟨(f, w), by unfold okK eqW; simp, h⟩
theorem zfw {x : Ix} {f : Int} (hf : f ≠ 0) : ∀ (ws : List (List UInt8)) (l : List Pst), rightP l = true → rightP (ws.foldl (fun l v => nextP l (lookX x f (eqW v)) 1) l) = true ∧
  ∀ d z, z ∈ atD (ws.foldl (fun l v => nextP l (lookX x f (eqW v)) 1) l) d ↔ (z - ws.length ∈ atD l d) ∧ ∀ i (h : i < ws.length), z - ws.length + 1 + i ∈ pX x (f, ws[i]) d
 | [], l, h => ⟨h, fun d z => by simp⟩
 | w :: ws, l, h => by
  have hr := (zbl x f (eqW w)).1
  obtain ⟨n1, n2⟩ := zhd l 1 (lookX x f (eqW w)) hr
  obtain ⟨i1, i2⟩ := zfw hf ws (nextP l (lookX x f (eqW w)) 1) n1
  refine ⟨i1, fun d z => ?_⟩
  have hL : (w :: ws).length = ws.length + 1 := List.length_cons
  rw [List.foldl_cons, i2 d z, n2, List.mem_filter, zfu hf]
  have e1 : z - (ws.length : Int) - 1 = z - ((w :: ws).length : Int) := by omega
  rw [decide_eq_true_eq, e1]
  constructor
  ·rintro ⟨⟨h1, h2⟩, h3⟩
   refine ⟨h2, fun i hi => ?_⟩
   cases i with
   | zero =>
    have e2 : z - ((w :: ws).length : Int) + 1 + ((0 : Nat) : Int) = z - (ws.length : Int) := by omega
    rw [e2]; exact h1
   | succ i =>
    have := h3 i (by omega)
    have e2 : z - ((w :: ws).length : Int) + 1 + ((i + 1 : Nat) : Int) = z - (ws.length : Int) + 1 + (i : Int) := by omega
    rw [e2]; exact this
  ·rintro ⟨h1, h2⟩
   refine ⟨⟨?_, h1⟩, fun i hi => ?_⟩
   ·have := h2 0 (by simp)
    have e2 : z - ((w :: ws).length : Int) + 1 + ((0 : Nat) : Int) = z - (ws.length : Int) := by omega
    rw [e2] at this; exact this
   ·have := h2 (i + 1) (by omega)
    have e2 : z - ((w :: ws).length : Int) + 1 + ((i + 1 : Nat) : Int) = z - (ws.length : Int) + 1 + (i : Int) := by omega
    rw [e2] at this; exact this
theorem zen {x : Ix} {f : Int} (hf : f ≠ 0) {ws : List (List UInt8)} (hw : ws ≠ []) : rightP (phraseL x f ws) = true ∧ ∀ d z, z ∈ atD (phraseL x f ws) d ↔ ∀ i (h : i < ws.length), z - ws.length + 1 + i ∈ pX x (f, ws[i]) d := by
 cases ws with
 | nil => exact absurd rfl hw
 | cons w ws =>
  obtain ⟨h1, h2⟩ := zfw hf ws (lookX x f (eqW w)) (zbl x f (eqW w)).1
  refine ⟨h1, fun d z => (h2 d z).trans ?_⟩
  have hL : (w :: ws).length = ws.length + 1 := List.length_cons
  rw [zfu hf]
  constructor
  ·rintro ⟨h3, h4⟩ i hi
   cases i with
   | zero =>
    have e2 : z - ((w :: ws).length : Int) + 1 + ((0 : Nat) : Int) = z - (ws.length : Int) := by omega
    rw [e2]; exact h3
   | succ i =>
    have := h4 i (by omega)
    have e2 : z - ((w :: ws).length : Int) + 1 + ((i + 1 : Nat) : Int) = z - (ws.length : Int) + 1 + (i : Int) := by omega
    rw [e2]; exact this
  ·intro h
   refine ⟨?_, fun i hi => ?_⟩
   ·have := h 0 (by simp)
    have e2 : z - ((w :: ws).length : Int) + 1 + ((0 : Nat) : Int) = z - (ws.length : Int) := by omega
    rw [e2] at this; exact this
   ·have := h (i + 1) (by omega)
    have e2 : z - ((w :: ws).length : Int) + 1 + ((i + 1 : Nat) : Int) = z - (ws.length : Int) + 1 + (i : Int) := by omega
    rw [e2] at this; exact this
theorem zer {l : List Pst} (h : rightP l = true) (d : Int) : d ∈ l.map (·.doc) ↔ ∃ z, z ∈ atD l d := by
 rw [zgI h]
 constructor
 ·intro h; exact List.exists_mem_of_ne_nil _ h
 ·rintro ⟨z, hz⟩ e
  rw [e] at hz; cases hz
theorem zhm (x : Ix) (field : Int) {ws : List (List UInt8)} (hw : ws ≠ []) (d : Int) : d ∈ phraseX x field ws ↔ ∃ f : Int, (1 ≤ f ∧ f ≤ 5) ∧ (field = 0 ∨ f = field) ∧ ∃ z : Int, ∀ (i : Nat) (h : i < ws.length), z + (i : Int) ∈ pX x (f, ws[i]) d := by
 unfold phraseX
 rw [if_neg hw, show d ∈ sortI _ ↔ _ from zaZ stoI _ _, List.mem_flatMap]
 have hf : ∀ f : Int, f ∈ [1, 2, 3, 4, 5] ↔ 1 ≤ f ∧ f ≤ 5 := fun f => by
  simp only [List.mem_cons, List.not_mem_nil, or_false]; omega
 constructor
 ·rintro ⟨f, h1, h2⟩
  rw [hf] at h1
  split at h2
  ·cases h2
  ·rename_i hn
   obtain ⟨p1, p2⟩ := zen (x := x) (f := f) (by omega) hw
   obtain ⟨z, hz⟩ := (zer p1 d).1 h2
   refine ⟨f, h1, ?_, z - ws.length + 1, (p2 d z).1 hz⟩
   by_cases h0 : field = 0
   ·exact .inl h0
   ·by_cases h3 : f = field
    ·exact .inr h3
    ·exact absurd ⟨h0, h3⟩ hn
 ·rintro ⟨f, h1, h2, z, hz⟩
  refine ⟨f, (hf f).2 h1, ?_⟩
  rw [if_neg (by rintro ⟨h3, h4⟩; rcases h2 with h2 | h2; exact h3 h2; exact h4 h2)]
  obtain ⟨p1, p2⟩ := zen (x := x) (f := f) (by omega) hw
  refine (zer p1 d).2 ⟨z + ws.length - 1, (p2 d _).2 fun i hi => ?_⟩
  have e2 : z + (ws.length : Int) - 1 - (ws.length : Int) + 1 + (i : Int) = z + i := by omega
  rw [e2]; exact hz i hi
theorem ziH (x : Ix) (field : Int) (ws : List (List UInt8)) : AscB ltI (phraseX x field ws) := by
 unfold phraseX
 split
 ·exact .nil
 ·exact zbB stoI _
theorem zlQ (w : List UInt8) : ∀ (i : Nat) (l : List (List UInt8)) (n : Int), n ∈ posF w i l ↔ ∃ (j : Nat) (h : j < l.length), n = ((i + j : Nat) : Int) ∧ l[j] = w
 | i, [], n => ⟨(fun h => by cases h), (fun ⟨j, h, _⟩ => absurd h (Nat.not_lt_zero _))⟩
 | i, y :: l, n => by
  have ih := zlQ w (i + 1) l n
  unfold posF
  constructor
  ·intro h
   split at h
   ·rename_i e
    rcases List.mem_cons.1 h with h | h
    ·exact ⟨0, by simp, by omega, e⟩
    ·obtain ⟨j, hj, e1, e2⟩ := ih.1 h
     exact ⟨j + 1, by simpa using hj, by omega, e2⟩
   ·obtain ⟨j, hj, e1, e2⟩ := ih.1 h
    exact ⟨j + 1, by simpa using hj, by omega, e2⟩
  ·rintro ⟨j, hj, e1, e2⟩
   cases j with
   | zero =>
    have e2 : y = w := e2
    rw [if_pos e2]
    exact List.mem_cons.2 (.inl (by omega))
   | succ j =>
    have := ih.2 ⟨j, by simpa using hj, by omega, e2⟩
    split
    ·exact List.mem_cons_of_mem _ this
    ·exact this
theorem zli (doc : Int) (tx : List (List UInt8)) (f : Int) (w : List UInt8) (d : Int) : placesE (entsX doc tx) (f, w) d = if d = doc ∧ 1 ≤ f ∧ f ≤ 5 then posF w 0 (wordsOf (tx.getD f.toNat [])) else [] := by
 unfold placesE entsX
 simp only [List.flatMap_cons, List.flatMap_nil, List.append_nil]
 unfold partE
 dsimp only
 by_cases hd : d = doc
 ·by_cases h1 : f = 1
  ·subst h1; simp [hd]
  by_cases h2 : f = 2
  ·subst h2; simp [hd]
  by_cases h3 : f = 3
  ·subst h3; simp [hd]
  by_cases h4 : f = 4
  ·subst h4; simp [hd]
  by_cases h5 : f = 5
  ·subst h5; simp [hd]
  rw [if_neg (fun h => h1 h.2), if_neg (fun h => h2 h.2), if_neg (fun h => h3 h.2), if_neg (fun h => h4 h.2), if_neg (fun h => h5 h.2), if_neg (by omega)]
  rfl
 ·rw [if_neg (fun h => hd h.1), if_neg (fun h => hd h.1), if_neg (fun h => hd h.1), if_neg (fun h => hd h.1), if_neg (fun h => hd h.1), if_neg (fun h => hd h.1)]
  rfl
theorem zqK {x : Ix} (hx : IxOk x) {k : Ky} {d z : Int} (h : z ∈ pX x k d) : liveX x d := by
 unfold pX at h
 split at h
 ·cases h
 ·rename_i hd
  refine ⟨?_, hd⟩
  by_cases hi : inX x.segs d
  ·exact hi
  ·rw [zjr hx.rt hi] at h; cases h
end Go.Proofs.YtennokckmjcefaaGreatDoor
namespace Go.Cs
open Go.Lib
theorem zrt (l : List UInt8) : ∀ q ∈ us l, 1 ≤ q.2 := by
 induction l using zcO with
 | nil => intro q hq; cases hq
 | step l hne ih =>
  intro q hq
  rw [zcc l hne] at hq
  rcases List.mem_cons.1 hq with rfl | hq
  ·exact decodeL_width l
  ·exact ih q hq
theorem W_pos {u : List (Nat × Nat)} (h : ∀ q ∈ u, 1 ≤ q.2) (hne : u ≠ []) : 1 ≤ W u := by
 obtain ⟨q, r, rfl⟩ := List.exists_cons_of_ne_nil hne
 rw [W_cons]
 have := h q (by simp); omega
theorem zrm {u : List (Nat × Nat)} (h : Seg u) : u ≠ [] := by
 rcases h with h | ⟨n, rfl⟩
 ·exact h.1
 ·simp
theorem zhS (u0 : List (Nat × Nat)) (h0 : ∀ q ∈ u0, 1 ≤ q.2) : ∀ (ps : List (Nat × Nat)) (e : Nat), Chain u0 e ps → (∀ p ∈ ps, e ≤ p.1 ∧ p.1 < p.2 ∧ p.2 ≤ W u0) ∧ ps.Pairwise (fun p q => p.2 ≤ q.1)
 | [], e, _ => ⟨by simp, .nil⟩
 | p :: ps, e, h => by
  obtain ⟨a, z, s, c, hu, ha, hz, hp, hs, hc⟩ := h
  obtain ⟨i1, i2⟩ := zhS u0 h0 ps p.2 hc
  have hsp : 1 ≤ W s := W_pos (fun q hq => h0 q (by rw [hu]; simp [hq])) (zrm hs)
  have hw : W u0 = W a + W z + W s + W c := by rw [hu]; simp only [W_app]
  have hp1 : p.1 = W a + W z := by rw [hp]
  have hp2 : p.2 = W a + W z + W s := by rw [hp]
  refine ⟨fun q hq => ?_, List.pairwise_cons.2 ⟨fun q hq => (i1 q hq).1, i2⟩⟩
  rcases List.mem_cons.1 hq with rfl | hq
  ·omega
  ·have := i1 q hq; omega
theorem zhe (l : List UInt8) : Chain (us l) 0 (wd (us l) 0 none) := by
 have := zbU (us l) (us l) [] [] [] none rfl (by simp [Zeros]) (zgJ l) (.inl ⟨rfl, rfl⟩)
 simpa [W_nil] using this
structure InOrder (l : List Wd3) (n : Nat) : Prop where
 each : ∀ i, i < l.length → fromOf l i < toOf l i ∧ toOf l i ≤ n
 next : ∀ i j, i < j → j < l.length → toOf l i ≤ fromOf l j
theorem zdj (l : List UInt8) (ps : List (Nat × Nat)) (i : Nat) (hi : i < ps.length) : (ps.map (mk l)).getD i ([], 0, 0) = mk l ps[i] := by
 rw [List.getD_eq_getElem?_getD, List.getElem?_map, List.getElem?_eq_getElem hi]; rfl
theorem zeX (l : List UInt8) : InOrder (wordsL l) l.length := by
 obtain ⟨h1, h2⟩ := zhS (us l) (zrt l) _ 0 (zhe l)
 rw [us_W] at h1
 rw [zik]
 generalize wd (us l) 0 none = ps at *
 refine ⟨fun i hi => ?_, fun i j hij hj => ?_⟩
 ·rw [List.length_map] at hi
  unfold fromOf toOf
  rw [zdj l ps i hi]
  have := h1 ps[i] (List.getElem_mem hi)
  exact ⟨this.2.1, this.2.2⟩
 ·rw [List.length_map] at hj
  unfold fromOf toOf
  rw [zdj l ps i (by omega), zdj l ps j hj]
  exact List.pairwise_iff_getElem.1 h2 i j (by omega) hj hij
theorem InOrder.mono {l : List Wd3} {n : Nat} (h : InOrder l n) {i j : Nat} (hij : i ≤ j) (hj : j < l.length) : fromOf l i ≤ fromOf l j := by
 rcases Nat.lt_or_ge i j with h1 | h1
 ·have := (h.each i (by omega)).1
  have := h.next i j h1 hj
  omega
 ·have : i = j := by omega
  subst this; exact Nat.le_refl _
def cnt (ks : List (List UInt8)) (ws : List Wd3) (t : List UInt8) : Nat := if t ∈ ks then (ws.filter fun x => decide (x.1 = t)).length else 0
theorem zqr (ks : List (List UInt8)) (t : List UInt8) : cnt ks [] t = 0 := by unfold cnt; split <;> rfl
theorem cnt_cons (ks : List (List UInt8)) (x : Wd3) (ws : List Wd3) (t : List UInt8) : cnt ks (x :: ws) t = (if x.1 = t ∧ t ∈ ks then 1 else 0) + cnt ks ws t := by
 unfold cnt
 by_cases h : t ∈ ks
 ·rw [if_pos h, if_pos h]
  by_cases h2 : x.1 = t
  ·rw [if_pos ⟨h2, h⟩]; simp [h2]; omega
  ·rw [if_neg (fun e => h2 e.1)]; simp [h2]
 ·rw [if_neg h, if_neg h, if_neg (fun e => h e.2)]
theorem zkm (ks : List (List UInt8)) (x : Wd3) (ws : List Wd3) (t : List UInt8) : cnt ks (ws ++ [x]) t = cnt ks ws t + (if x.1 = t ∧ t ∈ ks then 1 else 0) := by
 unfold cnt
 by_cases h : t ∈ ks
 ·rw [if_pos h, if_pos h, List.filter_append, List.length_append]
  by_cases h2 : x.1 = t
  ·rw [if_pos ⟨h2, h⟩]; simp [h2]
  ·rw [if_neg (fun e => h2 e.1)]; simp [h2]
 ·rw [if_neg h, if_neg h, if_neg (fun e => h e.2)]
theorem zmK (ks : List (List UInt8)) (ws : List Wd3) (t : List UInt8) : cnt ks ws t ≠ 0 ↔ t ∈ ks ∧ ∃ x ∈ ws, x.1 = t := by
 unfold cnt
 by_cases h : t ∈ ks
 ·rw [if_pos h]
  constructor
  ·intro h1
   obtain ⟨x, hx⟩ := List.exists_mem_of_length_pos (Nat.pos_of_ne_zero h1)
   rw [List.mem_filter] at hx
   exact ⟨h, x, hx.1, of_decide_eq_true hx.2⟩
  ·rintro ⟨_, x, hx, he⟩ h0
   have : x ∈ ws.filter fun x => decide (x.1 = t) := List.mem_filter.2 ⟨hx, decide_eq_true he⟩
   rw [List.length_eq_zero_iff.1 h0] at this
   cases this
 ·rw [if_neg h]
  exact ⟨fun h => (h rfl).elim, fun e => (h e.1).elim⟩
theorem ziA (ks : List (List UInt8)) (ws : List Wd3) (t : List UInt8) : cnt ks ws t ≤ ws.length := by
 unfold cnt
 split
 ·exact List.length_filter_le _ _
 ·exact Nat.zero_le _
def cutW (l : List Wd3) (i j : Nat) : List Wd3 := (l.take j).drop i
theorem zjx (l : List Wd3) (i : Nat) : cutW l i i = [] := by unfold cutW; rw [List.drop_eq_nil_iff, List.length_take]; omega
theorem znd (l : List Wd3) (i j : Nat) (hij : i ≤ j) (hj : j < l.length) : cutW l i (j + 1) = cutW l i j ++ [l[j]] := by
 unfold cutW
 rw [List.take_succ_eq_append_getElem hj, List.drop_append_of_le_length (by rw [List.length_take]; omega)]
theorem zhn (l : List Wd3) (i j : Nat) (hij : i < j) (hj : j ≤ l.length) : cutW l i j = (l[i]'(by omega)) :: cutW l (i + 1) j := by
 unfold cutW
 rw [List.drop_eq_getElem_cons (by rw [List.length_take]; omega), List.getElem_take]
theorem zcV (l : List Wd3) (i j : Nat) (hj : j ≤ l.length) : (cutW l i j).length = j - i := by
 unfold cutW; rw [List.length_drop, List.length_take]; omega
def Fits (l : List Wd3) (width : Int) (i j : Nat) : Prop := ∀ k, i ≤ k → k < j → ((toOf l k : Nat) : Int) - ((fromOf l i : Nat) : Int) ≤ width
theorem zgA (l : List Wd3) (width : Int) (i j : Nat) (hij : i ≤ j) (hj : j ≤ l.length) (hf : Fits l width i j) (hn : j < l.length → ¬ ((toOf l j : Nat) : Int) - ((fromOf l i : Nat) : Int) ≤ width) : winE l width i = j := by
 unfold winE
 rw [zcJ _ (l.drop i) (j - i)]
 ·omega
 ·intro x hx
  obtain ⟨k, hk⟩ := List.mem_iff_getElem?.1 hx
  rw [List.getElem?_take] at hk
  split at hk
  ·rename_i hlt
   rw [List.getElem?_drop] at hk
   have h := hf (i + k) (by omega) (by omega)
   unfold fitB
   refine decide_eq_true ?_
   unfold toOf at h
   rw [List.getD_eq_getElem?_getD, hk] at h
   exact h
  ·cases hk
 ·rw [List.length_drop]; omega
 ·intro x hx
  rw [List.getElem?_drop, show i + (j - i) = j by omega] at hx
  have hlt : j < l.length := (List.getElem?_eq_some_iff.1 hx).1
  have h := hn hlt
  unfold fitB
  refine decide_eq_false ?_
  unfold toOf at h
  rw [List.getD_eq_getElem?_getD, hx] at h
  exact h
theorem zaX {l : List Wd3} {n : Nat} (ho : InOrder l n) {width : Int} {i j : Nat} (hi : i + 1 < l.length ∨ j ≤ i + 1) (h : Fits l width i j) : Fits l width (i + 1) j := fun k h1 h2 => by
 have := h k (by omega) h2
 rcases hi with hi | hi
 ·have h3 := ho.mono (Nat.le_succ i) hi
  show ((toOf l k : Nat) : Int) - ((fromOf l (i + 1) : Nat) : Int) ≤ width
  have h4 : fromOf l i ≤ fromOf l (i + 1) := h3
  omega
 ·omega
theorem zmv (l : List Wd3) (width : Int) (i : Nat) : ∀ (n j : Nat), l.length - j = n → i ≤ j → j ≤ l.length → Fits l width i j → j ≤ winE l width i
 | 0, j, hj, h4, h5, h6 => Nat.le_of_eq (zgA l width i j h4 h5 h6 (fun h => by omega)).symm
 | n + 1, j, hj, h4, h5, h6 => by
  by_cases hn : ((toOf l j : Nat) : Int) - ((fromOf l i : Nat) : Int) ≤ width
  ·have := zmv l width i n (j + 1) (by omega) (by omega) (by omega) (fun k hk1 hk2 => by
    rcases (show k < j ∨ k = j by omega) with h7 | h7
    ·exact h6 k hk1 h7
    ·subst h7; exact hn)
   omega
  ·exact Nat.le_of_eq (zgA l width i j h4 h5 h6 (fun _ => hn)).symm
end Go.Cs
namespace Go.Cs

end Go.Cs
namespace Go.Cs
open Go.Lib
def hits (ks : List (List UInt8)) (ws : List Wd3) : Nat := (ws.filter fun x => decide (x.1 ∈ ks)).length
theorem zok (ks : List (List UInt8)) (l : List UInt8) (width : Int) (h : (l.length : Int) ≤ width) : (snipL ks l width).2.length = hits ks (wordsL l) := by
 have hord := zeX l
 unfold snipL
 rcases Nat.eq_zero_or_pos (wordsL l).length with h0 | h0
 ·have he : wordsL l = [] := List.eq_nil_of_length_eq_zero h0
  rw [he]
  rfl
 have hfit : Fits (wordsL l) width 0 (wordsL l).length := fun k h1 h2 => by
  have := (hord.each k h2).2
  omega
 have hE : winE (wordsL l) width 0 = (wordsL l).length := by
  have h1 := zmv (wordsL l) width 0 _ (wordsL l).length rfl (Nat.zero_le _) (Nat.le_refl _) hfit
  have h2 := (zmf (wordsL l) width 0 (Nat.zero_le _)).2
  omega
 have hb : ∀ n, 0 < n → n ≤ (wordsL l).length → bestN ks (wordsL l) width n = some 0 := by
  intro n
  induction n with
  | zero => intro h; omega
  | succ n ih =>
   intro _ hn
   rw [bestN]
   rcases Nat.eq_zero_or_pos n with hz | hz
   ·subst hz
    rw [bestN]
    dsimp only
    rw [if_pos (by rw [hE]; exact h0)]
   ·rw [ih hz (by omega)]
    dsimp only
    rw [if_neg]
    rintro ⟨_, h2⟩
    have : showsL ks (winW (wordsL l) width n) ≤ showsL ks (winW (wordsL l) width 0) := by
     refine zkE ks _ _ fun x hx => ⟨x, ?_, rfl⟩
     have e : winW (wordsL l) width 0 = wordsL l := by unfold winW; rw [hE, List.take_length, List.drop_zero]
     rw [e]
     unfold winW at hx
     exact List.mem_of_mem_take (List.mem_of_mem_drop hx)
    omega
 rw [hb _ h0 (Nat.le_refl _)]
 dsimp only
 unfold marksL hits winW
 rw [hE, List.take_length, List.drop_zero, List.length_map]
end Go.Cs
namespace Go.Proofs.YtennokckmjcefaaGreatDoor
open Go.Shelf Go.RowKit Go.Pw Go.Vc Go.Cs Go.Lib Go.Cd Go.Mg
theorem zpJ {p : Ix × List LDoc} (h : RunOk p) {doc : Int} {tx : List (List UInt8)} (ht : ∀ t ∈ tx, t.length ≤ 1000000000) (hr : 1 ≤ doc ∧ doc ≤ 1099511627776) (hn : ∀ e ∈ p.2, e.1 ≠ doc) :
  (addX p.1 doc tx).1 = 0 ∧ RunOk ((addX p.1 doc tx).2, p.2 ++ [(doc, tx)]) := by
 have h0 : (addX p.1 doc tx).1 = 0 := by
  unfold addX
  rw [if_neg (by omega), if_neg fun e => ?_]
  obtain ⟨e, he, e1⟩ := (h.lv doc).1 (zbO.1 e)
  exact hn e he e1
 refine ⟨h0, ?_⟩
 have := zqd h ⟨0, doc, tx, 0, [], []⟩ ht
 unfold runS at this
 rw [if_pos (.inl rfl)] at this
 dsimp only at this
 rw [if_pos h0] at this
 exact this
end Go.Proofs.YtennokckmjcefaaGreatDoor
