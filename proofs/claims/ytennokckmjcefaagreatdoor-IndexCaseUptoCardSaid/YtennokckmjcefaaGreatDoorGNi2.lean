/- Helper lemmas that the proved statement rests on; no conditions of their own. -/
import Derived.Test.YtennokckmjcefaaGreatDoorGMh8
set_option linter.unusedVariables false
namespace Go.Proofs.YtennokckmjcefaaGreatDoor
open Go.Shelf Go.RowKit Go.Pw Go.Vc Go.Cs Go.Lib Go.Cd Go.Mg
def entsX (doc : Int) (tx : List (List UInt8)) : List Ent := [⟨doc, 1, tx.getD 1 []⟩, ⟨doc, 2, tx.getD 2 []⟩, ⟨doc, 3, tx.getD 3 []⟩, ⟨doc, 4, tx.getD 4 []⟩, ⟨doc, 5, tx.getD 5 []⟩]
def findX (l : List Sgm) (d : Int) : Option Nat := l.findIdx? fun s => decide (d ∈ s.docs)
def aliveB (x : Ix) (d : Int) : Bool := memB x.segs d && !decide (d ∈ x.dead)
theorem zby {x : Ix} {d : Int} : aliveB x d = true ↔ liveX x d := by
 unfold aliveB liveX
 rw [Bool.and_eq_true, zeC]
 simp
def readX (x : Ix) (doc : Int) : Ix := match findX x.segs doc with
 | some i => replX x i 1 (twoS (x.segs.getD i ⟨[], []⟩) ⟨[], []⟩ [doc])
 | none => x
def addX (x : Ix) (doc : Int) (tx : List (List UInt8)) : Int × Ix :=
 if doc < 1 ∨ 1099511627776 < doc then (1, x)
 else if aliveB x doc = true then (4, x)
 else (0, ⟨(readX x doc).segs ++ [buildE (entsX doc tx)], (readX x doc).dead⟩)
def dropX (x : Ix) (doc : Int) : Bool × Ix := if aliveB x doc = true then (true, ⟨x.segs, withL x.dead doc⟩) else (false, x)
def buriedX (x : Ix) (s : Sgm) : Nat := (x.dead.filter fun d => decide (d ∈ s.docs)).length
def dueX (x : Ix) (s : Sgm) : Bool := decide (s.docs.length ≤ 2 * buriedX x s)
def stepX (x : Ix) : Bool × Ix := match pickL (x.segs.map fun s => (s.docs.length : Int)) with
 | some i => (true, replX x i 2 (twoS (x.segs.getD i ⟨[], []⟩) (x.segs.getD (i + 1) ⟨[], []⟩) x.dead))
 | none => match x.segs.findIdx? (dueX x) with
  | some i => (true, replX x i 1 (twoS (x.segs.getD i ⟨[], []⟩) ⟨[], []⟩ x.dead))
  | none => (false, x)
theorem zcb {l : List Sgm} {i : Nat} (h : i < l.length) : l.getD i ⟨[], []⟩ = l[i] := by simp [List.getD, List.getElem?_eq_getElem h]
theorem split1 {l : List Sgm} {i : Nat} (h : i < l.length) : l = l.take i ++ ([l[i]] ++ l.drop (i + 1)) := by
 conv => lhs; rw [← List.take_append_drop i l, List.drop_eq_getElem_cons h]
 rfl
theorem splitP {l : List Sgm} {i : Nat} (h : i + 1 < l.length) : l = l.take i ++ ([l[i], l[i + 1]] ++ l.drop (i + 2)) := by
 conv => lhs; rw [← List.take_append_drop i l, List.drop_eq_getElem_cons (by omega), List.drop_eq_getElem_cons h]
 rfl
theorem zqN {x : Ix} (hx : IxOk x) {i : Nat} (hi : i < x.segs.length) {dl : List Int} (hdl : ∀ d ∈ dl, d ∈ x.dead) :
  IxOk (replX x i 1 (twoS (x.segs.getD i ⟨[], []⟩) ⟨[], []⟩ dl)) ∧ (∀ d, liveX (replX x i 1 (twoS (x.segs.getD i ⟨[], []⟩) ⟨[], []⟩ dl)) d ↔ liveX x d) ∧ ∀ k d, pX (replX x i 1 (twoS (x.segs.getD i ⟨[], []⟩) ⟨[], []⟩ dl)) k d = pX x k d := by
 rw [zcb hi]
 unfold replX
 have hri := hx.rt _ (List.getElem_mem hi)
 refine znR hx (mid := [x.segs[i]]) (split1 hi) (zct _ _ _) hdl (fun d => ?_) (fun k d => ?_)
 ·rw [zgV, zbr hri, zbr zfa]
  constructor
  ·rintro ⟨h | h, h2⟩
   ·exact ⟨⟨_, List.mem_singleton.2 rfl, h⟩, h2⟩
   ·cases h
  ·rintro ⟨⟨t, ht, h⟩, h2⟩
   rw [List.mem_singleton.1 ht] at h
   exact ⟨.inl h, h2⟩
 ·rw [zmG, zra, zcE]
  show _ = if d ∈ dl then [] else unI (pS x.segs[i] k d) []
  rw [zcE]
theorem ztb {x : Ix} (hx : IxOk x) {i : Nat} (hi : i + 1 < x.segs.length) :
  IxOk (replX x i 2 (twoS (x.segs.getD i ⟨[], []⟩) (x.segs.getD (i + 1) ⟨[], []⟩) x.dead)) ∧ (∀ d, liveX (replX x i 2 (twoS (x.segs.getD i ⟨[], []⟩) (x.segs.getD (i + 1) ⟨[], []⟩) x.dead)) d ↔ liveX x d) ∧ ∀ k d, pX (replX x i 2 (twoS (x.segs.getD i ⟨[], []⟩) (x.segs.getD (i + 1) ⟨[], []⟩) x.dead)) k d = pX x k d := by
 rw [zcb (by omega), zcb hi]
 unfold replX
 have h1 := hx.rt _ (List.getElem_mem (show i < x.segs.length by omega))
 have h2 := hx.rt _ (List.getElem_mem hi)
 refine znR hx (mid := [x.segs[i], x.segs[i + 1]]) (splitP hi) (zct _ _ _) (fun _ h => h) (fun d => ?_) (fun k d => ?_)
 ·rw [zgV, zbr h1, zbr h2, zgY]
  constructor
  ·rintro ⟨h | h, hn⟩
   ·exact ⟨.inl h, hn⟩
   ·exact ⟨.inr ⟨_, List.mem_singleton.2 rfl, h⟩, hn⟩
  ·rintro ⟨h | ⟨t, ht, h⟩, hn⟩
   ·exact ⟨.inl h, hn⟩
   ·rw [List.mem_singleton.1 ht] at h
    exact ⟨.inr h, hn⟩
 ·rw [zmG]
  show _ = if d ∈ x.dead then [] else unI (pS x.segs[i] k d) (unI (pS x.segs[i + 1] k d) [])
  rw [zcE]
theorem zcT {l : List Sgm} {d : Int} {i : Nat} (h : findX l d = some i) : ∃ hi : i < l.length, d ∈ l[i].docs := by
 obtain ⟨hi, h1, _⟩ := List.findIdx?_eq_some_iff_getElem.1 h
 exact ⟨hi, of_decide_eq_true h1⟩
theorem zms {l : List Sgm} {d : Int} (h : findX l d = none) : ¬ inX l d := by
 rintro ⟨s, hs, hd⟩
 have := List.findIdx?_eq_none_iff.1 h s hs
 rw [decide_eq_true hd] at this; cases this
theorem zsr {x : Ix} (hx : IxOk x) {doc : Int} (hn : ¬ liveX x doc) : IxOk (readX x doc) ∧ (∀ d, liveX (readX x doc) d ↔ liveX x d) ∧ (∀ k d, pX (readX x doc) k d = pX x k d) ∧ ¬ inX (readX x doc).segs doc := by
 unfold readX
 cases hf : findX x.segs doc with
 | none => exact ⟨hx, fun _ => Iff.rfl, fun _ _ => rfl, zms hf⟩
 | some i =>
  obtain ⟨hi, hd⟩ := zcT hf
  have hdd : doc ∈ x.dead := by
   by_cases h : doc ∈ x.dead
   ·exact h
   ·exact absurd ⟨⟨_, List.getElem_mem hi, hd⟩, h⟩ hn
  obtain ⟨h1, h2, h3⟩ := zqN hx hi (dl := [doc]) (fun d h => by rw [List.mem_singleton.1 h]; exact hdd)
  refine ⟨h1, h2, h3, fun hin => ?_⟩
  dsimp only at hin
  unfold replX cleanX at hin
  dsimp only at hin
  rw [zeJ, zfC, zgY, zcb hi, zgV] at hin
  have hdj := hx.dj
  rw [split1 hi] at hdj
  obtain ⟨d1, d2, d3⟩ := List.pairwise_append.1 hdj
  rcases hin with ⟨t, ht, h⟩ | h | ⟨t, ht, h⟩
  ·exact d3 t ht _ (List.mem_append_left _ (List.mem_singleton.2 rfl)) doc h hd
  ·exact h.2 (List.mem_singleton.2 rfl)
  ·exact (List.pairwise_cons.1 d2).1 t ht doc hd h
theorem zdu {doc : Int} (h1 : 1 ≤ doc) (h2 : doc ≤ 1099511627776) (tx : List (List UInt8)) : keptE (entsX doc tx) = entsX doc tx ∧ Kept (entsX doc tx) := by
 have e : keptE (entsX doc tx) = entsX doc tx := by
  have hc : ∀ f t, 1 ≤ f → f ≤ 5 → countsE ⟨doc, f, t⟩ = true := fun f t a b => by
   unfold countsE
   simp only [Bool.and_eq_true, decide_eq_true_eq]
   omega
  unfold keptE entsX
  simp [stepE, hc, hadE]
 exact ⟨e, e ▸ ziF _⟩
theorem zqw {x : Ix} (hx : IxOk x) {doc : Int} {tx : List (List UInt8)} (ht : ∀ t ∈ tx, t.length ≤ 1000000000) (h0 : (addX x doc tx).1 = 0) :
  IxOk (addX x doc tx).2 ∧ (∀ d, liveX (addX x doc tx).2 d ↔ liveX x d ∨ d = doc) ∧ ∀ k d, pX (addX x doc tx).2 k d = if d = doc then placesE (entsX doc tx) k d else pX x k d := by
 unfold addX at h0 ⊢
 split at h0
 ·cases h0
 rename_i hb
 rw [if_neg hb]
 split at h0
 ·cases h0
 rename_i hl
 rw [if_neg hl]
 have hl : ¬ liveX x doc := fun h => hl (zby.2 h)
 obtain ⟨r1, r2, r3, r4⟩ := zsr hx hl
 generalize readX x doc = y at *
 have hB := zgM (zdu (doc := doc) (by omega) (by omega) tx).2 (fun e he => by
  have : e.text ∈ tx ∨ e.text = [] := by
   have key : ∀ j, tx.getD j [] ∈ tx ∨ tx.getD j [] = [] := fun j => by
    by_cases h : j < tx.length
    ·left; simp [List.getD, List.getElem?_eq_getElem h]
    ·right; simp [List.getD, List.getElem?_eq_none (Nat.le_of_not_lt h)]
   unfold entsX at he
   simp only [List.mem_cons, List.not_mem_nil, or_false] at he
   rcases he with rfl | rfl | rfl | rfl | rfl <;> exact key _
  rcases this with h | h
  ·exact ht _ h
  ·rw [h]; exact Nat.zero_le _)
 generalize hS : buildE (entsX doc tx) = S at *
 have hSd : ∀ d, d ∈ S.docs ↔ d = doc := fun d => by
  rw [hB.docs]
  constructor
  ·rintro ⟨e, he, rfl⟩
   unfold entsX at he
   simp only [List.mem_cons, List.not_mem_nil, or_false] at he
   rcases he with rfl | rfl | rfl | rfl | rfl <;> rfl
  ·rintro rfl
   exact ⟨_, List.mem_cons_self, rfl⟩
 have hSp : ∀ k d, pS S k d = placesE (entsX doc tx) k d := fun k d => by unfold pS; rw [zbr hB.right, hB.posts]
 have hnd : doc ∉ y.dead := fun h => r4 (r1.di doc h)
 have hin : ∀ d, inX (y.segs ++ [S]) d ↔ inX y.segs d ∨ d = doc := fun d => by
  rw [zfC]
  constructor
  ·rintro (h | ⟨t, ht, h⟩)
   ·exact .inl h
   ·rw [List.mem_singleton.1 ht] at h
    exact .inr ((hSd d).1 h)
  ·rintro (h | h)
   ·exact .inl h
   ·exact .inr ⟨S, List.mem_singleton.2 rfl, (hSd d).2 h⟩
 refine ⟨⟨fun s hs => ?_, fun s hs => ?_, ?_, r1.da, fun d hd => ?_⟩, fun d => ?_, fun k d => ?_⟩
 ·rcases List.mem_append.1 hs with hs | hs
  ·exact r1.rt s hs
  ·rw [List.mem_singleton.1 hs]; exact hB.right
 ·rcases List.mem_append.1 hs with hs | hs
  ·exact r1.ne s hs
  ·rw [List.mem_singleton.1 hs]
   intro e
   have := (hSd doc).2 rfl
   rw [e] at this; cases this
 ·refine List.pairwise_append.2 ⟨r1.dj, List.pairwise_singleton _ _, fun a ha b hb d h1 h2 => ?_⟩
  rw [List.mem_singleton.1 hb] at h2
  rw [(hSd d).1 h2] at h1
  exact r4 ⟨a, ha, h1⟩
 ·obtain ⟨s, hs, h⟩ := r1.di d hd
  exact ⟨s, List.mem_append_left _ hs, h⟩
 ·rw [← r2]
  unfold liveX
  dsimp only
  rw [hin]
  constructor
  ·rintro ⟨h | h, h2⟩
   ·exact .inl ⟨h, h2⟩
   ·exact .inr h
  ·rintro (⟨h, h2⟩ | rfl)
   ·exact ⟨.inl h, h2⟩
   ·exact ⟨.inr rfl, hnd⟩
 ·have e1 : pL (y.segs ++ [S]) k d = unI (pL y.segs k d) (placesE (entsX doc tx) k d) := by
   rw [zks]
   show unI _ (unI (pS S k d) []) = _
   rw [zcE, hSp]
  by_cases hdd : d = doc
  ·subst hdd
   rw [if_pos rfl]
   unfold pX
   dsimp only
   rw [if_neg hnd, e1, zkd r1.rt r4, zdm]
  ·rw [if_neg hdd, ← r3]
   unfold pX
   dsimp only
   have e2 : placesE (entsX doc tx) k d = [] := by
    rw [← hSp]
    exact zhu hB.right fun h => hdd ((hSd d).1 h)
   rw [e1, e2, zcE]
theorem zqO {x : Ix} {doc : Int} {tx : List (List UInt8)} (h0 : (addX x doc tx).1 ≠ 0) : (addX x doc tx).2 = x := by
 unfold addX at h0 ⊢
 split
 ·rfl
 ·split
  ·rfl
  ·rename_i h1 h2
   rw [if_neg h1, if_neg h2] at h0
   exact absurd rfl h0
theorem zmo {x : Ix} (hx : IxOk x) (doc : Int) : IxOk (dropX x doc).2 ∧ ((dropX x doc).1 = true ↔ liveX x doc) ∧ (∀ d, liveX (dropX x doc).2 d ↔ liveX x d ∧ d ≠ doc) ∧ ∀ k d, pX (dropX x doc).2 k d = if d = doc then [] else pX x k d := by
 unfold dropX
 by_cases hl : aliveB x doc = true
 ·rw [if_pos hl]
  have hlv := zby.1 hl
  have hm := zdR doc x.dead (zjF.1 hx.da)
  refine ⟨⟨hx.rt, hx.ne, hx.dj, zjF.2 (zfr doc x.dead (zjF.1 hx.da)), fun d hd => ?_⟩, ⟨fun _ => hlv, fun _ => rfl⟩, fun d => ?_, fun k d => ?_⟩
  ·rcases (hm d).1 hd with rfl | hd
   ·exact hlv.1
   ·exact hx.di d hd
  ·unfold liveX
   dsimp only
   rw [hm]
   constructor
   ·rintro ⟨h1, h2⟩
    exact ⟨⟨h1, fun h => h2 (.inr h)⟩, fun h => h2 (.inl h)⟩
   ·rintro ⟨⟨h1, h2⟩, h3⟩
    exact ⟨h1, fun h => by rcases h with h | h; exact h3 h; exact h2 h⟩
  ·unfold pX
   dsimp only
   by_cases hd : d = doc
   ·rw [if_pos hd, if_pos ((hm d).2 (.inl hd))]
   ·rw [if_neg hd]
    by_cases h : d ∈ x.dead
    ·rw [if_pos h, if_pos ((hm d).2 (.inr h))]
    ·rw [if_neg h, if_neg fun h2 => by rcases (hm d).1 h2 with h2 | h2; exact hd h2; exact h h2]
 ·rw [if_neg hl]
  have hnl : ¬ liveX x doc := fun h => hl (zby.2 h)
  refine ⟨hx, ⟨(fun h => by cases h), (fun h => absurd h hnl)⟩, fun d => ⟨fun h => ⟨h, fun e => hnl (e ▸ h)⟩, fun h => h.1⟩, fun k d => ?_⟩
  by_cases hd : d = doc
  ·rw [if_pos hd]
   subst hd
   dsimp only
   unfold pX
   by_cases h : d ∈ x.dead
   ·rw [if_pos h]
   ·rw [if_neg h]
    exact zkd hx.rt fun hi => hnl ⟨hi, h⟩
  ·rw [if_neg hd]
theorem zmX {x : Ix} (hx : IxOk x) : IxOk (stepX x).2 ∧ (∀ d, liveX (stepX x).2 d ↔ liveX x d) ∧ ∀ k d, pX (stepX x).2 k d = pX x k d := by
 unfold stepX
 cases hp : pickL (x.segs.map fun s => (s.docs.length : Int)) with
 | some i =>
  have hi := zdn hp
  rw [List.length_map] at hi
  exact ztb hx hi
 | none =>
  dsimp only
  cases hf : x.segs.findIdx? (dueX x) with
  | some i =>
   obtain ⟨hi, _⟩ := List.findIdx?_eq_some_iff_getElem.1 hf
   exact zqN hx hi fun _ h => h
  | none => exact ⟨hx, fun _ => Iff.rfl, fun _ _ => rfl⟩
def emptyX : Ix := ⟨[], []⟩
theorem zhA : IxOk emptyX ∧ (∀ d, ¬ liveX emptyX d) ∧ ∀ k d, pX emptyX k d = [] :=
 ⟨⟨(fun s h => by cases h), (fun s h => by cases h), .nil, .nil, (fun d h => by cases h)⟩, (fun d h => by obtain ⟨⟨s, hs, _⟩, _⟩ := h; cases hs), (fun k d => rfl)⟩
def docN (l : List Sgm) : Nat := (l.map fun s => s.docs.length).sum
theorem zdI (s : Sgm) (l : List Sgm) : docN (s :: l) = s.docs.length + docN l := rfl
theorem zqe (l : List Sgm) : (fullL l).length ≤ l.length := List.length_filter_le _ _
theorem zje {a b : List Int} (ha : AscB ltI a) (h : ∀ d ∈ a, d ∈ b) : a.length ≤ b.length := zaX a b (zcs ha) h
def sizeX (x : Ix) : Nat := x.segs.length + docN x.segs
def docsX (x : Ix) : List Int := sortL ((x.segs.flatMap fun s => s.docs).filter fun d => !decide (d ∈ x.dead))
theorem zgG {l : List Sgm} (hr : ∀ s ∈ l, rightS s = true) (hdj : l.Pairwise fun s t => ∀ d, d ∈ s.docs → d ∉ t.docs) : (l.flatMap fun s => s.docs).Nodup := by
 induction l with
 | nil => exact .nil
 | cons s l ih =>
  obtain ⟨h1, h2⟩ := List.pairwise_cons.1 hdj
  rw [List.flatMap_cons]
  refine List.nodup_append.2 ⟨zcs (zam.1 (hr s List.mem_cons_self)).1.1, ih (fun t ht => hr t (List.mem_cons_of_mem _ ht)) h2, fun a ha b hb e => ?_⟩
  obtain ⟨t, ht, hb⟩ := List.mem_flatMap.1 hb
  exact h1 t ht a ha (e ▸ hb)
theorem zeE {l : List Sgm} {d : Int} : d ∈ l.flatMap (fun s => s.docs) ↔ inX l d := List.mem_flatMap
theorem zeW (x : Ix) (d : Int) : d ∈ docsX x ↔ liveX x d := by
 unfold docsX liveX
 rw [zbF, List.mem_filter, zeE]
 simp
theorem znv (l : List Sgm) : (l.flatMap fun s => s.docs).length = docN l := by
 induction l with
 | nil => rfl
 | cons s l ih => rw [List.flatMap_cons, List.length_append, ih, zdI]
theorem zhU {x : Ix} (hx : IxOk x) : (docsX x).length + x.dead.length = docN x.segs := by
 unfold docsX
 rw [List.length_mergeSort, ← znv]
 have hn := zgG hx.rt hx.dj
 have hd := zcs hx.da
 have hin : ∀ d ∈ x.dead, d ∈ x.segs.flatMap fun s => s.docs := fun d h => zeE.2 (hx.di d h)
 generalize (x.segs.flatMap fun s => s.docs) = F at *
 generalize x.dead = D at *
 have h1 : F.length = (F.filter fun d => !decide (d ∈ D)).length + (F.filter fun d => decide (d ∈ D)).length := by
  clear hn hin
  induction F with
  | nil => rfl
  | cons d r ihr => by_cases h : d ∈ D <;> simp [h] <;> omega
 have h2 : (F.filter fun d => decide (d ∈ D)).length = D.length := by
  refine Nat.le_antisymm (zaX _ _ (hn.sublist List.filter_sublist) fun d h => of_decide_eq_true (List.mem_filter.1 h).2) (zaX _ _ hd fun d h => List.mem_filter.2 ⟨hin d h, decide_eq_true h⟩)
 omega
abbrev LDoc := Int × List (List UInt8)
structure Ak where
 d7 : Int
 doc : Int
 tx : List (List UInt8)
 field : Int
 word : List UInt8
 words : List (List UInt8)
deriving DecidableEq, Inhabited
def runS (p : Ix × List LDoc) (a : Ak) : Ix × List LDoc :=
 if a.d7 = 0 ∨ a.d7 = 1 ∨ a.d7 = 4 then ((addX p.1 a.doc a.tx).2, if (addX p.1 a.doc a.tx).1 = 0 then p.2 ++ [(a.doc, a.tx)] else p.2)
 else if a.d7 = 2 ∨ a.d7 = 5 then ((dropX p.1 a.doc).2, if (dropX p.1 a.doc).1 = true then p.2.filter fun e => !decide (e.1 = a.doc) else p.2)
 else ((stepX p.1).2, p.2)
def runX (x : Ix) (l : List Ak) : Ix × List LDoc := l.foldl runS (x, [])
def entsL (l : List LDoc) : List Ent := l.flatMap fun e => entsX e.1 e.2
theorem zcF {doc : Int} {tx : List (List UInt8)} {e : Ent} (h : e ∈ entsX doc tx) : e.doc = doc := by
 unfold entsX at h
 simp only [List.mem_cons, List.not_mem_nil, or_false] at h
 rcases h with rfl | rfl | rfl | rfl | rfl <;> rfl
theorem zbl {es : List Ent} {k : Ky} {d : Int} (h : ∀ e ∈ es, e.doc ≠ d) : placesE es k d = [] := by
 unfold placesE
 rw [List.flatMap_eq_nil_iff]
 intro e he
 unfold partE
 exact if_neg (fun hh : d = e.doc ∧ k.1 = e.field => h e he hh.1.symm)
theorem zon (a b : List LDoc) : entsL (a ++ b) = entsL a ++ entsL b := by unfold entsL; rw [List.flatMap_append]
theorem ziC {l : List LDoc} {e : Ent} (h : e ∈ entsL l) : ∃ p ∈ l, p.1 = e.doc := by
 obtain ⟨p, hp, he⟩ := List.mem_flatMap.1 h
 exact ⟨p, hp, (zcF he).symm⟩
structure RunOk (p : Ix × List LDoc) : Prop where
 ok : IxOk p.1
 nd : p.2.Pairwise fun a b => a.1 ≠ b.1
 lv : ∀ d, liveX p.1 d ↔ ∃ e ∈ p.2, e.1 = d
 rg : ∀ e ∈ p.2, 1 ≤ e.1 ∧ e.1 ≤ 1099511627776
 tx : ∀ e ∈ p.2, ∀ t ∈ e.2, t.length ≤ 1000000000
 pl : ∀ k d, pX p.1 k d = placesE (entsL p.2) k d
theorem ziv : RunOk (emptyX, []) := ⟨zhA.1, .nil, (fun d => ⟨(fun h => absurd h (zhA.2.1 d)), (fun ⟨e, he, _⟩ => by cases he)⟩), (fun e h => by cases h), (fun e h => by cases h), (fun k d => rfl)⟩
theorem zhE (l : List LDoc) (doc : Int) (k : Ky) (d : Int) : placesE (entsL (l.filter fun e => !decide (e.1 = doc))) k d = if d = doc then [] else placesE (entsL l) k d := by
 induction l with
 | nil => simp [entsL, placesE]
 | cons e l ih =>
  have hc : ∀ m, placesE (entsL (e :: m)) k d = placesE (entsX e.1 e.2) k d ++ placesE (entsL m) k d := fun m => by
   rw [show entsL (e :: m) = entsX e.1 e.2 ++ entsL m from by unfold entsL; rw [List.flatMap_cons], zcD]
  rw [List.filter_cons]
  by_cases he : e.1 = doc
  ·rw [if_neg (by simp [he]), ih, hc]
   by_cases hd : d = doc
   ·rw [if_pos hd, if_pos hd]
   ·rw [if_neg hd, if_neg hd, zbl (es := entsX e.1 e.2) fun x hx => by rw [zcF hx, he]; exact fun h => hd h.symm]; rfl
  ·rw [if_pos (by simp [he]), hc, ih, hc]
   by_cases hd : d = doc
   ·rw [if_pos hd, if_pos hd, zbl (es := entsX e.1 e.2) fun x hx => by rw [zcF hx, hd]; exact he]; rfl
   ·rw [if_neg hd, if_neg hd]
theorem add_zero {x : Ix} {doc : Int} {tx : List (List UInt8)} (h : (addX x doc tx).1 = 0) : (1 ≤ doc ∧ doc ≤ 1099511627776) ∧ ¬ liveX x doc := by
 unfold addX at h
 split at h
 ·cases h
 ·split at h
  ·cases h
  ·rename_i h1 h2
   exact ⟨by omega, fun h => h2 (zby.2 h)⟩
theorem zjg {p : Ix × List LDoc} (h : RunOk p) (a : Ak) (ht : ∀ t ∈ a.tx, t.length ≤ 1000000000) : RunOk (runS p a) := by
 unfold runS
 split
 ·by_cases h0 : (addX p.1 a.doc a.tx).1 = 0
  ·rw [if_pos h0]
   obtain ⟨k1, k2, k3⟩ := zqw h.ok ht h0
   obtain ⟨hr, hnl⟩ := add_zero h0
   have hno : ∀ e ∈ p.2, e.1 ≠ a.doc := fun e he e1 => hnl ((h.lv a.doc).2 ⟨e, he, e1⟩)
   refine ⟨k1, List.pairwise_append.2 ⟨h.nd, List.pairwise_singleton _ _, fun e he b hb => by rw [List.mem_singleton.1 hb]; exact hno e he⟩, fun d => ?_, fun e he => ?_, fun e he => ?_, fun k d => ?_⟩
   ·rw [k2, h.lv]
    constructor
    ·rintro (⟨e, he, e1⟩ | e1)
     ·exact ⟨e, List.mem_append_left _ he, e1⟩
     ·exact ⟨_, List.mem_append_right _ (List.mem_singleton.2 rfl), e1.symm⟩
    ·rintro ⟨e, he, e1⟩
     rcases List.mem_append.1 he with he | he
     ·exact .inl ⟨e, he, e1⟩
     ·rw [List.mem_singleton.1 he] at e1
      exact .inr e1.symm
   ·rcases List.mem_append.1 he with he | he
    ·exact h.rg e he
    ·rw [List.mem_singleton.1 he]; exact hr
   ·rcases List.mem_append.1 he with he | he
    ·exact h.tx e he
    ·rw [List.mem_singleton.1 he]; exact ht
   ·rw [k3]
    dsimp only
    rw [zon, zcD]
    have e1 : entsL [(a.doc, a.tx)] = entsX a.doc a.tx := by unfold entsL; simp
    rw [e1]
    by_cases hd : d = a.doc
    ·rw [if_pos hd, zbl (es := entsL p.2) fun e he => ?_]
     ·rfl
     ·obtain ⟨q, hq, e2⟩ := ziC he
      rw [← e2, hd]; exact hno q hq
    ·rw [if_neg hd, h.pl, zbl (es := entsX a.doc a.tx) fun e he => by rw [zcF he]; exact fun e2 => hd e2.symm, List.append_nil]
  ·rw [if_neg h0, zqO h0]; exact h
 split
 ·obtain ⟨k1, k2, k3, k4⟩ := zmo h.ok a.doc
  by_cases hb : (dropX p.1 a.doc).1 = true
  ·rw [if_pos hb]
   refine ⟨k1, h.nd.sublist List.filter_sublist, fun d => ?_, fun e he => h.rg e (List.mem_filter.1 he).1, fun e he => h.tx e (List.mem_filter.1 he).1, fun k d => ?_⟩
   ·rw [k3, h.lv]
    constructor
    ·rintro ⟨⟨e, he, e1⟩, hne⟩
     exact ⟨e, List.mem_filter.2 ⟨he, by simp [e1, hne]⟩, e1⟩
    ·rintro ⟨e, he, e1⟩
     obtain ⟨h1, h2⟩ := List.mem_filter.1 he
     exact ⟨⟨e, h1, e1⟩, fun e2 => by rw [e1, e2] at h2; simp at h2⟩
   ·dsimp only
    rw [k4, zhE]
    by_cases hd : d = a.doc
    ·rw [if_pos hd, if_pos hd]
    ·rw [if_neg hd, if_neg hd, h.pl]
  ·rw [if_neg hb]
   have hnl : ¬ liveX p.1 a.doc := fun hl => hb (k2.2 hl)
   have e : (dropX p.1 a.doc).2 = p.1 := by
    unfold dropX
    rw [if_neg fun h => hnl (zby.1 h)]
   rw [e]; exact h
 ·obtain ⟨k1, k2, k3⟩ := zmX h.ok
  exact ⟨k1, h.nd, fun d => (k2 d).trans (h.lv d), h.rg, h.tx, fun k d => (k3 k d).trans (h.pl k d)⟩
def nextO (a : List Pst) (gap : Int) (y : Pst) : Option Pst :=
 if (y.places.filter fun n => decide (n - gap ∈ atD a y.doc)) = [] then none else some ⟨y.doc, y.places.filter fun n => decide (n - gap ∈ atD a y.doc)⟩
def nextP (a b : List Pst) (gap : Int) : List Pst := b.filterMap (nextO a gap)
theorem zhG (a : List Pst) (gap : Int) : ∀ b : List Pst, rightP b = true → rightP (nextP a b gap) = true ∧ ∀ d, atD (nextP a b gap) d = (atD b d).filter fun n => decide (n - gap ∈ atD a d) := by
 intro b hb
 obtain ⟨hasc, hall⟩ := zaz.1 hb
 have key : ∀ b : List Pst, AscP b → AscP (nextP a b gap) ∧ (∀ p ∈ nextP a b gap, ∃ y ∈ b, nextO a gap y = some p) ∧ ∀ d, atD (nextP a b gap) d = (atD b d).filter fun n => decide (n - gap ∈ atD a d) := by
  intro b
  induction b with
  | nil => exact fun _ => ⟨.nil, (fun p h => by cases h), fun d => rfl⟩
  | cons y b ih =>
   intro h
   obtain ⟨h1, h2⟩ := List.pairwise_cons.1 h
   obtain ⟨i1, i2, i3⟩ := ih h2
   unfold nextP at i1 i2 i3 ⊢
   rw [List.filterMap_cons]
   cases hq : nextO a gap y with
   | none =>
    dsimp only
    refine ⟨i1, fun p hp => ?_, fun d => ?_⟩
    ·obtain ⟨z, hz, e⟩ := i2 p hp
     exact ⟨z, List.mem_cons_of_mem _ hz, e⟩
    ·rw [i3, zaN]
     by_cases hd : y.doc = d
     ·rw [if_pos hd]
      have e0 : (y.places.filter fun n => decide (n - gap ∈ atD a d)) = [] := by
       unfold nextO at hq
       split at hq
       ·rename_i hz; rw [← hd]; exact hz
       ·cases hq
      have e1 : atD b d = [] := zkh fun p hp => by have := h1 p hp; omega
      rw [e0, e1]; rfl
     ·rw [if_neg hd]
   | some z =>
    dsimp only
    have hz : z = ⟨y.doc, y.places.filter fun n => decide (n - gap ∈ atD a y.doc)⟩ := by
     unfold nextO at hq
     split at hq
     ·cases hq
     ·injection hq with hq; exact hq.symm
    refine ⟨List.Pairwise.cons (fun p hp => ?_) i1, fun p hp => ?_, fun d => ?_⟩
    ·obtain ⟨u, hu, e⟩ := i2 p hp
     have : p.doc = u.doc := by
      unfold nextO at e
      split at e
      ·cases e
      ·injection e with e; rw [← e]
     rw [this, hz]; exact h1 u hu
    ·rcases List.mem_cons.1 hp with rfl | hp
     ·exact ⟨y, List.mem_cons_self, hq⟩
     ·obtain ⟨u, hu, e⟩ := i2 p hp
      exact ⟨u, List.mem_cons_of_mem _ hu, e⟩
    ·rw [zaN, zaN, i3, hz]
     dsimp only
     by_cases hd : y.doc = d
     ·rw [if_pos hd, if_pos hd, hd]
     ·rw [if_neg hd, if_neg hd]
 obtain ⟨k1, k2, k3⟩ := key b hasc
 refine ⟨zaz.2 ⟨k1, fun p hp => ?_⟩, k3⟩
 obtain ⟨y, hy, e⟩ := k2 p hp
 obtain ⟨r1, r2, r3, r4, r5⟩ := hall y hy
 unfold nextO at e
 split at e
 ·cases e
 ·rename_i hne
  injection e with e
  subst e
  refine ⟨r1, r2, hne, ?_, fun n hn => r5 n (List.mem_filter.1 hn).1⟩
  unfold AscB at r4 ⊢
  exact r4.sublist List.filter_sublist
def eqW (w : List UInt8) : List UInt8 → Bool := fun x => decide (x = w)
def phraseL (x : Ix) (f : Int) : List (List UInt8) → List Pst
 | [] => []
 | w :: ws => ws.foldl (fun l v => nextP l (lookX x f (eqW v)) 1) (lookX x f (eqW w))
def phraseX (x : Ix) (field : Int) (ws : List (List UInt8)) : List Int :=
 if ws = [] then [] else sortI ([1, 2, 3, 4, 5].flatMap fun f => if field ≠ 0 ∧ f ≠ field then [] else (phraseL x f ws).map (·.doc))
theorem ziw {x : Ix} {f : Int} (hf : f ≠ 0) (w : List UInt8) (d z : Int) : z ∈ atD (lookX x f (eqW w)) d ↔ z ∈ pX x (f, w) d := by
 rw [(zbk x f (eqW w)).2]
 constructor
 ·rintro ⟨⟨k1, k2⟩, hk, h⟩
  unfold okK eqW at hk
  simp only [Bool.and_eq_true, Bool.or_eq_true, decide_eq_true_eq] at hk
  obtain ⟨h1 | h1, h2⟩ := hk
  ·exact absurd h1 hf
  ·rw [h1, ← h2]; exact h
 ·intro h
  exact ⟨(f, w), by unfold okK eqW; simp, h⟩
theorem zfD {x : Ix} {f : Int} (hf : f ≠ 0) : ∀ (ws : List (List UInt8)) (l : List Pst), rightP l = true → rightP (ws.foldl (fun l v => nextP l (lookX x f (eqW v)) 1) l) = true ∧
  ∀ d z, z ∈ atD (ws.foldl (fun l v => nextP l (lookX x f (eqW v)) 1) l) d ↔ (z - ws.length ∈ atD l d) ∧ ∀ i (h : i < ws.length), z - ws.length + 1 + i ∈ pX x (f, ws[i]) d
 | [], l, h => ⟨h, fun d z => by simp⟩
 | w :: ws, l, h => by
  have hr := (zbk x f (eqW w)).1
  obtain ⟨n1, n2⟩ := zhG l 1 (lookX x f (eqW w)) hr
  obtain ⟨i1, i2⟩ := zfD hf ws (nextP l (lookX x f (eqW w)) 1) n1
  refine ⟨i1, fun d z => ?_⟩
  have hL : (w :: ws).length = ws.length + 1 := List.length_cons
  rw [List.foldl_cons, i2 d z, n2, List.mem_filter, ziw hf]
  have e1 : z - (ws.length : Int) - 1 = z - ((w :: ws).length : Int) := by omega
  rw [decide_eq_true_eq, e1]
  constructor
  ·rintro ⟨⟨h1, h2⟩, h3⟩
   refine ⟨h2, fun i hi => ?_⟩
   cases i with
   | zero =>
    have e2 : z - ((w :: ws).length : Int) + 1 + ((0 : Nat) : Int) = z - (ws.length : Int) := by omega
    rw [e2]; exact h1
   | succ i =>
    have := h3 i (by omega)
    have e2 : z - ((w :: ws).length : Int) + 1 + ((i + 1 : Nat) : Int) = z - (ws.length : Int) + 1 + (i : Int) := by omega
    rw [e2]; exact this
  ·rintro ⟨h1, h2⟩
   refine ⟨⟨?_, h1⟩, fun i hi => ?_⟩
   ·have := h2 0 (by simp)
    have e2 : z - ((w :: ws).length : Int) + 1 + ((0 : Nat) : Int) = z - (ws.length : Int) := by omega
    rw [e2] at this; exact this
   ·have := h2 (i + 1) (by omega)
    have e2 : z - ((w :: ws).length : Int) + 1 + ((i + 1 : Nat) : Int) = z - (ws.length : Int) + 1 + (i : Int) := by omega
    rw [e2] at this; exact this
theorem zev {x : Ix} {f : Int} (hf : f ≠ 0) {ws : List (List UInt8)} (hw : ws ≠ []) : rightP (phraseL x f ws) = true ∧ ∀ d z, z ∈ atD (phraseL x f ws) d ↔ ∀ i (h : i < ws.length), z - ws.length + 1 + i ∈ pX x (f, ws[i]) d := by
 cases ws with
 | nil => exact absurd rfl hw
 | cons w ws =>
  obtain ⟨h1, h2⟩ := zfD hf ws (lookX x f (eqW w)) (zbk x f (eqW w)).1
  refine ⟨h1, fun d z => (h2 d z).trans ?_⟩
  have hL : (w :: ws).length = ws.length + 1 := List.length_cons
  rw [ziw hf]
  constructor
  ·rintro ⟨h3, h4⟩ i hi
   cases i with
   | zero =>
    have e2 : z - ((w :: ws).length : Int) + 1 + ((0 : Nat) : Int) = z - (ws.length : Int) := by omega
    rw [e2]; exact h3
   | succ i =>
    have := h4 i (by omega)
    have e2 : z - ((w :: ws).length : Int) + 1 + ((i + 1 : Nat) : Int) = z - (ws.length : Int) + 1 + (i : Int) := by omega
    rw [e2]; exact this
  ·intro h
   refine ⟨?_, fun i hi => ?_⟩
   ·have := h 0 (by simp)
    have e2 : z - ((w :: ws).length : Int) + 1 + ((0 : Nat) : Int) = z - (ws.length : Int) := by omega
    rw [e2] at this; exact this
   ·have := h (i + 1) (by omega)
    have e2 : z - ((w :: ws).length : Int) + 1 + ((i + 1 : Nat) : Int) = z - (ws.length : Int) + 1 + (i : Int) := by omega
    rw [e2] at this; exact this
theorem zdp {l : List Pst} (h : rightP l = true) (d : Int) : d ∈ l.map (·.doc) ↔ ∃ z, z ∈ atD l d := by
 rw [zhg h]
 constructor
 ·intro h; exact List.exists_mem_of_ne_nil _ h
 ·rintro ⟨z, hz⟩ e
  rw [e] at hz; cases hz
theorem zes (x : Ix) (field : Int) {ws : List (List UInt8)} (hw : ws ≠ []) (d : Int) : d ∈ phraseX x field ws ↔ ∃ f : Int, (1 ≤ f ∧ f ≤ 5) ∧ (field = 0 ∨ f = field) ∧ ∃ z : Int, ∀ (i : Nat) (h : i < ws.length), z + (i : Int) ∈ pX x (f, ws[i]) d := by
 unfold phraseX
 rw [if_neg hw, show d ∈ sortI _ ↔ _ from zaZ stoI _ _, List.mem_flatMap]
 have hf : ∀ f : Int, f ∈ [1, 2, 3, 4, 5] ↔ 1 ≤ f ∧ f ≤ 5 := fun f => by
  simp only [List.mem_cons, List.not_mem_nil, or_false]; omega
 constructor
 ·rintro ⟨f, h1, h2⟩
  rw [hf] at h1
  split at h2
  ·cases h2
  ·rename_i hn
   obtain ⟨p1, p2⟩ := zev (x := x) (f := f) (by omega) hw
   obtain ⟨z, hz⟩ := (zdp p1 d).1 h2
   refine ⟨f, h1, ?_, z - ws.length + 1, (p2 d z).1 hz⟩
   by_cases h0 : field = 0
   ·exact .inl h0
   ·by_cases h3 : f = field
    ·exact .inr h3
    ·exact absurd ⟨h0, h3⟩ hn
 ·rintro ⟨f, h1, h2, z, hz⟩
  refine ⟨f, (hf f).2 h1, ?_⟩
  rw [if_neg (by rintro ⟨h3, h4⟩; rcases h2 with h2 | h2; exact h3 h2; exact h4 h2)]
  obtain ⟨p1, p2⟩ := zev (x := x) (f := f) (by omega) hw
  refine (zdp p1 d).2 ⟨z + ws.length - 1, (p2 d _).2 fun i hi => ?_⟩
  have e2 : z + (ws.length : Int) - 1 - (ws.length : Int) + 1 + (i : Int) = z + i := by omega
  rw [e2]; exact hz i hi
theorem zjq (x : Ix) (field : Int) (ws : List (List UInt8)) : AscB ltI (phraseX x field ws) := by
 unfold phraseX
 split
 ·exact .nil
 ·exact zbC stoI _
theorem ziZ (w : List UInt8) : ∀ (i : Nat) (l : List (List UInt8)) (n : Int), n ∈ posF w i l ↔ ∃ (j : Nat) (h : j < l.length), n = ((i + j : Nat) : Int) ∧ l[j] = w
 | i, [], n => ⟨(fun h => by cases h), (fun ⟨j, h, _⟩ => absurd h (Nat.not_lt_zero _))⟩
 | i, y :: l, n => by
  have ih := ziZ w (i + 1) l n
  unfold posF
  constructor
  ·intro h
   split at h
   ·rename_i e
    rcases List.mem_cons.1 h with h | h
    ·exact ⟨0, by simp, by omega, e⟩
    ·obtain ⟨j, hj, e1, e2⟩ := ih.1 h
     exact ⟨j + 1, by simpa using hj, by omega, e2⟩
   ·obtain ⟨j, hj, e1, e2⟩ := ih.1 h
    exact ⟨j + 1, by simpa using hj, by omega, e2⟩
  ·rintro ⟨j, hj, e1, e2⟩
   cases j with
   | zero =>
    have e2 : y = w := e2
    rw [if_pos e2]
    exact List.mem_cons.2 (.inl (by omega))
   | succ j =>
    have := ih.2 ⟨j, by simpa using hj, by omega, e2⟩
    split
    ·exact List.mem_cons_of_mem _ this
    ·exact this
theorem zhF (doc : Int) (tx : List (List UInt8)) (f : Int) (w : List UInt8) (d : Int) : placesE (entsX doc tx) (f, w) d = if d = doc ∧ 1 ≤ f ∧ f ≤ 5 then posF w 0 (wordsOf (tx.getD f.toNat [])) else [] := by
 unfold placesE entsX
 simp only [List.flatMap_cons, List.flatMap_nil, List.append_nil]
 unfold partE
 dsimp only
 by_cases hd : d = doc
 ·by_cases h1 : f = 1
  ·subst h1; simp [hd]
  by_cases h2 : f = 2
  ·subst h2; simp [hd]
  by_cases h3 : f = 3
  ·subst h3; simp [hd]
  by_cases h4 : f = 4
  ·subst h4; simp [hd]
  by_cases h5 : f = 5
  ·subst h5; simp [hd]
  rw [if_neg (fun h => h1 h.2), if_neg (fun h => h2 h.2), if_neg (fun h => h3 h.2), if_neg (fun h => h4 h.2), if_neg (fun h => h5 h.2), if_neg (by omega)]
  rfl
 ·rw [if_neg (fun h => hd h.1), if_neg (fun h => hd h.1), if_neg (fun h => hd h.1), if_neg (fun h => hd h.1), if_neg (fun h => hd h.1), if_neg (fun h => hd h.1)]
  rfl
theorem zgz : ∀ {l : List LDoc}, (l.Pairwise fun a b => a.1 ≠ b.1) → ∀ {e : LDoc}, e ∈ l → ∀ k, placesE (entsL l) k e.1 = placesE (entsX e.1 e.2) k e.1
 | [], _, e, h, _ => by cases h
 | a :: l, hp, e, h, k => by
  obtain ⟨h1, h2⟩ := List.pairwise_cons.1 hp
  rw [show entsL (a :: l) = entsX a.1 a.2 ++ entsL l from by unfold entsL; rw [List.flatMap_cons], zcD]
  rcases List.mem_cons.1 h with rfl | h
  ·rw [zbl (es := entsL l) fun x hx => by
    obtain ⟨q, hq, e2⟩ := ziC hx
    rw [← e2]; exact fun e3 => h1 q hq e3.symm]
   exact List.append_nil _
  ·rw [zbl (es := entsX a.1 a.2) fun x hx => by rw [zcF hx]; exact h1 e h, zgz h2 h k]
   rfl
theorem zjv {x : Ix} (hx : IxOk x) {k : Ky} {d z : Int} (h : z ∈ pX x k d) : liveX x d := by
 unfold pX at h
 split at h
 ·cases h
 ·rename_i hd
  refine ⟨?_, hd⟩
  by_cases hi : inX x.segs d
  ·exact hi
  ·rw [zkd hx.rt hi] at h; cases h
def hasPh (tx : List (List UInt8)) (field : Int) (ws : List (List UInt8)) : Prop := ∃ f : Int, (1 ≤ f ∧ f ≤ 5) ∧ (field = 0 ∨ f = field) ∧ ∃ p : Nat, ∀ (i : Nat) (h : i < ws.length), (wordsOf (tx.getD f.toNat []))[p + i]? = some ws[i]
theorem zgI {p : Ix × List LDoc} (h : RunOk p) (field : Int) {ws : List (List UInt8)} (hw : ws ≠ []) {e : LDoc} (he : e ∈ p.2) : e.1 ∈ phraseX p.1 field ws ↔ hasPh e.2 field ws := by
 have h0 : 0 < ws.length := List.length_pos_iff.2 hw
 rw [zes p.1 field hw]
 have hp : ∀ (f : Int) (hf : 1 ≤ f ∧ f ≤ 5) (w : List UInt8) (z : Int), z ∈ pX p.1 (f, w) e.1 ↔ ∃ (j : Nat), z = (j : Int) ∧ (wordsOf (e.2.getD f.toNat []))[j]? = some w := fun f hf w z => by
  rw [h.pl, zgz h.nd he, zhF, if_pos ⟨rfl, hf.1, hf.2⟩, ziZ]
  constructor
  ·rintro ⟨j, hj, e1, e2⟩
   exact ⟨j, by omega, by rw [List.getElem?_eq_getElem hj, e2]⟩
  ·rintro ⟨j, e1, e2⟩
   obtain ⟨hj, e3⟩ := List.getElem?_eq_some_iff.1 e2
   exact ⟨j, hj, by omega, e3⟩
 constructor
 ·rintro ⟨f, hf, hq, z, hz⟩
  obtain ⟨j, e1, e2⟩ := (hp f hf _ _).1 (hz 0 h0)
  refine ⟨f, hf, hq, j, fun i hi => ?_⟩
  obtain ⟨j2, e3, e4⟩ := (hp f hf _ _).1 (hz i hi)
  rw [show j + i = j2 from by omega]
  exact e4
 ·rintro ⟨f, hf, hq, j, hj⟩
  exact ⟨f, hf, hq, j, fun i hi => (hp f hf _ _).2 ⟨j + i, by omega, hj i hi⟩⟩
theorem zjj (tx : List (List UInt8)) (x : Ix) (field : Int) : phraseX x field [] = [] := by unfold phraseX; exact if_pos rfl
theorem zjr {x : Ix} (hx : IxOk x) {field : Int} {ws : List (List UInt8)} {d : Int} (h : d ∈ phraseX x field ws) : d ∈ docsX x := by
 rw [zeW]
 by_cases hw : ws = []
 ·rw [hw, zjj []] at h; cases h
 obtain ⟨f, _, _, z, hz⟩ := (zes x field hw d).1 h
 exact zjv hx (hz 0 (List.length_pos_iff.2 hw))
end Go.Proofs.YtennokckmjcefaaGreatDoor
namespace Go.Cs
open Go.Lib
structure InOrder (l : List Wd3) (n : Nat) : Prop where
 each : ∀ i, i < l.length → fromOf l i < toOf l i ∧ toOf l i ≤ n
 next : ∀ i j, i < j → j < l.length → toOf l i ≤ fromOf l j
theorem InOrder.mono {l : List Wd3} {n : Nat} (h : InOrder l n) {i j : Nat} (hij : i ≤ j) (hj : j < l.length) : fromOf l i ≤ fromOf l j := by
 rcases Nat.lt_or_ge i j with h1 | h1
 ·have := (h.each i (by omega)).1
  have := h.next i j h1 hj
  omega
 ·have : i = j := by omega
  subst this; exact Nat.le_refl _
def cnt (ks : List (List UInt8)) (ws : List Wd3) (t : List UInt8) : Nat := if t ∈ ks then (ws.filter fun x => decide (x.1 = t)).length else 0
theorem cnt_cons (ks : List (List UInt8)) (x : Wd3) (ws : List Wd3) (t : List UInt8) : cnt ks (x :: ws) t = (if x.1 = t ∧ t ∈ ks then 1 else 0) + cnt ks ws t := by
 unfold cnt
 by_cases h : t ∈ ks
 ·rw [if_pos h, if_pos h]
  by_cases h2 : x.1 = t
  ·rw [if_pos ⟨h2, h⟩]; simp [h2]; omega
  ·rw [if_neg (fun e => h2 e.1)]; simp [h2]
 ·rw [if_neg h, if_neg h, if_neg (fun e => h e.2)]
theorem zkg (ks : List (List UInt8)) (ws : List Wd3) (t : List UInt8) : cnt ks ws t ≤ ws.length := by
 unfold cnt
 split
 ·exact List.length_filter_le _ _
 ·exact Nat.zero_le _
end Go.Cs
namespace Go.Cs

end Go.Cs
namespace Go.Cs
open Go.Lib
def upB (b : UInt8) : UInt8 := if 97 ≤ b.toNat ∧ b.toNat ≤ 122 then b - 32 else b
def upL (l : List UInt8) : List UInt8 := l.map upB
theorem zmm : ∀ n : Fin 128, (upB (UInt8.ofNat n.val)).toNat < 128 ∧ lowC (upB (UInt8.ofNat n.val)).toNat = lowC n.val := by decide +kernel
theorem zqY (b : UInt8) (h : b.toNat < 128) : (upB b).toNat < 128 ∧ lowC (upB b).toNat = lowC b.toNat := by
 have := zmm ⟨b.toNat, h⟩
 simpa using this
theorem zlf (b : UInt8) (h : 128 ≤ b.toNat) : upB b = b := by unfold upB; rw [if_neg (by omega)]
theorem zqR (l : List UInt8) : (upL l).length = l.length := by unfold upL; simp
theorem zoP (t : List UInt8) : Alike t (upL t) := by
 induction t with
 | nil => exact ⟨[], [], [], rfl, rfl, by simp, by simp, by simp⟩
 | cons b t ih =>
  by_cases hc : cont b
  ·obtain ⟨p, q, q', h1, h2, h3, h4, h5⟩ := ih
   have hb : upB b = b := zlf b (by unfold cont at hc; omega)
   refine ⟨b :: p, q, q', by rw [h1]; rfl, ?_, fun x hx => ?_, h4, h5⟩
   ·show upB b :: upL t = _
    rw [hb, h2]; rfl
   ·rcases List.mem_cons.1 hx with rfl | hx
    ·exact hc
    ·exact h3 x hx
  ·refine ⟨[], b :: t, upL (b :: t), rfl, rfl, by simp, fun x hx => by simp at hx; subst hx; exact hc, fun x hx => ?_⟩
   have hx : upB b = x := by simpa [upL] using hx
   subst hx
   by_cases h : b.toNat < 128
   ·have := (zqY b h).1
    unfold cont; omega
   ·rw [zlf b (by omega)]; exact hc
theorem ziL (b : UInt8) (t : List UInt8) (h : b.toNat < 128) : decodeL (b :: t) = (b.toNat, 1) := by
 rw [decodeL_N]; unfold decodeN; rw [List.getD_cons_zero, if_pos h]
theorem zrV (l : List UInt8) : foldL (upL l) = foldL l ∧ (units (upL l)).map (·.length) = (units l).map (·.length) := by
 induction l using zec with
 | nil => exact ⟨rfl, rfl⟩
 | step l hne ih =>
  have hne2 : upL l ≠ [] := fun e => hne (by have := congrArg List.length e; rw [zqR] at this; exact List.eq_nil_of_length_eq_zero this)
  have hle := decodeL_le l hne
  have hd : upL (l.drop (decodeL l).2) = (upL l).drop (decodeL l).2 := by unfold upL; rw [List.map_drop]
  rw [hd] at ih
  have key : (decodeL (upL l)).2 = (decodeL l).2 ∧ head1 (upL l) = head1 l := by
   obtain ⟨b, t, rfl⟩ := List.exists_cons_of_ne_nil hne
   by_cases hb : b.toNat < 128
   ·obtain ⟨h1, h2⟩ := zqY b hb
    have e1 := ziL b t hb
    have e2 : decodeL (upL (b :: t)) = ((upB b).toNat, 1) := ziL (upB b) (upL t) h1
    refine ⟨by rw [e1, e2], ?_⟩
    unfold head1
    rw [e1, e2, if_neg (by dsimp only; omega), if_neg (by dsimp only; omega)]
    dsimp only
    rw [h2]
   ·have hub := zlf b (by omega)
    have hul : upL (b :: t) = b :: upL t := by show upB b :: upL t = _; rw [hub]
    rcases dec_whole (b :: t) hne with h | ⟨h1, h2, h3, h4⟩
    ·have e2 := zii b (zoP t) h
     rw [hul]
     refine ⟨by rw [e2, h], ?_⟩
     unfold head1
     rw [e2, h]; rfl
    ·-- a whole rune of several bytes: none of them changes
     obtain ⟨x, r, hx, _, hr⟩ := zdK _ h1
     have hkeep : (upL (b :: t)).take (decodeL (b :: t)).2 = enc (decodeL (b :: t)).1 := by
      have : upL ((b :: t).take (decodeL (b :: t)).2) = (b :: t).take (decodeL (b :: t)).2 := by
       rw [h2, hx]
       have hxb : x = b := by
        have := congrArg (fun y => y.getD 0 0) h2
        rw [hx] at this
        have hk : (decodeL (b :: t)).2 ≠ 0 := by have := decodeL_width (b :: t); omega
        obtain ⟨k, hk2⟩ : ∃ k, (decodeL (b :: t)).2 = k + 1 := ⟨(decodeL (b :: t)).2 - 1, by omega⟩
        rw [hk2] at this
        simpa using this.symm
       show upB x :: upL r = x :: r
       rw [hxb, hub]
       congr 1
       have : ∀ (r : List UInt8), (∀ y ∈ r, cont y) → upL r = r := by
        intro r
        induction r with
        | nil => intro _; rfl
        | cons y r ih =>
         intro h
         have hy := h y (by simp)
         show upB y :: upL r = _
         rw [zlf y (by unfold cont at hy; omega), ih fun z hz => h z (by simp [hz])]
       exact this r hr
      rw [← h2, ← this]
      unfold upL; rw [List.map_take]
     have e2 := zcW (upL (b :: t)) _ h1 (by rw [← h3]; exact hkeep)
     rw [← h3] at e2
     refine ⟨by rw [e2], ?_⟩
     unfold head1
     rw [e2, if_neg h4, if_neg (by exact h4)]
  rw [zaK _ hne2, zaK l hne, zge _ hne2, zge l hne, key.1, key.2, ih.1, List.map_cons, List.map_cons, ih.2, List.length_take, List.length_take, zqR]
  exact ⟨rfl, rfl⟩
theorem zoC (l : List UInt8) : wordsL (upL l) = wordsL l := by rw [← zgj (upL l), (zrV l).1, zgj]
end Go.Cs
namespace Go.Proofs.YtennokckmjcefaaGreatDoor
open Go.Shelf Go.RowKit Go.Pw Go.Vc Go.Cs Go.Lib Go.Cd Go.Mg
theorem zmy {p : Ix × List LDoc} (h : RunOk p) {doc : Int} {tx : List (List UInt8)} (ht : ∀ t ∈ tx, t.length ≤ 1000000000) (hr : 1 ≤ doc ∧ doc ≤ 1099511627776) (hn : ∀ e ∈ p.2, e.1 ≠ doc) :
  (addX p.1 doc tx).1 = 0 ∧ RunOk ((addX p.1 doc tx).2, p.2 ++ [(doc, tx)]) := by
 have h0 : (addX p.1 doc tx).1 = 0 := by
  unfold addX
  rw [if_neg (by omega), if_neg fun e => ?_]
  obtain ⟨e, he, e1⟩ := (h.lv doc).1 (zby.1 e)
  exact hn e he e1
 refine ⟨h0, ?_⟩
 have := zjg h ⟨0, doc, tx, 0, [], []⟩ ht
 unfold runS at this
 rw [if_pos (.inl rfl)] at this
 dsimp only at this
 rw [if_pos h0] at this
 exact this
theorem up_of (t : List UInt8) : wordsOf (upL t) = wordsOf t := by unfold wordsOf; rw [zoC]
theorem ziU {es es' : List Ent} (h : es'.map (fun e => (e.doc, e.field, wordsOf e.text)) = es.map fun e => (e.doc, e.field, wordsOf e.text)) : buildE es' = buildE es := by
 have hf : ∀ {β : Type} (g : Int × Int × List (List UInt8) → β), es'.map (fun e => g (e.doc, e.field, wordsOf e.text)) = es.map fun e => g (e.doc, e.field, wordsOf e.text) := fun g => by
  have := congrArg (List.map g) h
  rw [List.map_map, List.map_map] at this
  exact this
 have h1 : es'.map (·.doc) = es.map (·.doc) := hf fun z => z.1
 have h2 : (es'.flatMap fun e => (wordsOf e.text).map fun w => (e.field, w)) = es.flatMap fun e => (wordsOf e.text).map fun w => (e.field, w) := by
  rw [List.flatMap_def, List.flatMap_def, hf fun z => z.2.2.map fun w => (z.2.1, w)]
 have h3 : placesE es' = placesE es := by
  funext k d
  unfold placesE
  rw [List.flatMap_def, List.flatMap_def, hf fun z => partE z.2.2 z.1 z.2.1 k d]
 unfold buildE klE
 rw [h1, h2, h3]
theorem zoK (doc : Int) (tx : List (List UInt8)) : buildE (entsX doc (tx.map upL)) = buildE (entsX doc tx) := by
 have hg : ∀ i, wordsOf ((tx.map upL).getD i []) = wordsOf (tx.getD i []) := fun i => by
  have : (tx.map upL).getD i [] = upL (tx.getD i []) := by
   rw [List.getD_eq_getElem?_getD, List.getD_eq_getElem?_getD, List.getElem?_map]
   cases tx[i]? <;> rfl
  rw [this, up_of]
 refine ziU ?_
 unfold entsX
 simp only [List.map_cons, List.map_nil, hg]
theorem ztc (x : Ix) (doc : Int) (tx : List (List UInt8)) : addX x doc (tx.map upL) = addX x doc tx := by
 unfold addX
 rw [zoK]
theorem zjR : ∀ (l m : List Ak), m = l.map (fun a => { a with tx := a.tx.map upL }) → ∀ (x : Ix) (u v : List LDoc), (l.foldl runS (x, u)).1 = (m.foldl runS (x, v)).1
 | [], m, h, x, u, v => by subst h; rfl
 | a :: l, m, h, x, u, v => by
  subst h
  rw [List.map_cons, List.foldl_cons, List.foldl_cons]
  have e : (runS (x, u) a).1 = (runS (x, v) { a with tx := a.tx.map upL }).1 := by
   unfold runS
   dsimp only
   rw [ztc]
   split
   ·rfl
   split
   ·rfl
   ·rfl
  have := zjR l _ rfl (runS (x, u) a).1 (runS (x, u) a).2 (runS (x, v) { a with tx := a.tx.map upL }).2
  rw [show runS (x, u) a = ((runS (x, u) a).1, (runS (x, u) a).2) from rfl, this, e]
end Go.Proofs.YtennokckmjcefaaGreatDoor
