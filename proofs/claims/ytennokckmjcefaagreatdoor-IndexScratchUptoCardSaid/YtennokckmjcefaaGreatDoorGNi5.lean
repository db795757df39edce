/- Helper lemmas that the proved statement rests on; no conditions of their own. -/
import Derived.Test.YtennokckmjcefaaGreatDoorGNi0
set_option linter.unusedVariables false
set_option maxRecDepth 100000
namespace Go.Proofs.YtennokckmjcefaaGreatDoor
open Go.Shelf Go.RowKit Go.Pw Go.Vc Go.Cs Go.Lib Go.Cd Go.Mg
def nextO (a : List Pst) (gap : Int) (y : Pst) : Option Pst :=
 if (y.places.filter fun n => decide (n - gap ∈ atD a y.doc)) = [] then none else some ⟨y.doc, y.places.filter fun n => decide (n - gap ∈ atD a y.doc)⟩
def nextP (a b : List Pst) (gap : Int) : List Pst := b.filterMap (nextO a gap)
theorem zhW (a : List Pst) (gap : Int) : ∀ b : List Pst, rightP b = true → rightP (nextP a b gap) = true ∧ ∀ d, atD (nextP a b gap) d = (atD b d).filter fun n => decide (n - gap ∈ atD a d) := by
 intro b hb
 obtain ⟨hasc, hall⟩ := zaA.1 hb
 have key : ∀ b : List Pst, AscP b → AscP (nextP a b gap) ∧ (∀ p ∈ nextP a b gap, ∃ y ∈ b, nextO a gap y = some p) ∧ ∀ d, atD (nextP a b gap) d = (atD b d).filter fun n => decide (n - gap ∈ atD a d) := by
  intro b
  induction b with
  | nil => exact fun _ => ⟨.nil, (fun p h => by cases h), fun d => rfl⟩
  | cons y b ih =>
   intro h
   obtain ⟨h1, h2⟩ := List.pairwise_cons.1 h
   obtain ⟨i1, i2, i3⟩ := ih h2
   unfold nextP at i1 i2 i3 ⊢
   rw [List.filterMap_cons]
   cases hq : nextO a gap y with
   | none =>
    dsimp only
    refine ⟨i1, fun p hp => ?_, fun d => ?_⟩
    ·obtain ⟨z, hz, e⟩ := i2 p hp
     exact ⟨z, List.mem_cons_of_mem _ hz, e⟩
    ·rw [i3, zaM]
     by_cases hd : y.doc = d
     ·rw [if_pos hd]
      have e0 : (y.places.filter fun n => decide (n - gap ∈ atD a d)) = [] := by
       unfold nextO at hq
       split at hq
       ·rename_i hz; rw [← hd]; exact hz
       ·cases hq
      have e1 : atD b d = [] := zkt fun p hp => by have := h1 p hp; omega
      rw [e0, e1]; rfl
     ·rw [if_neg hd]
   | some z =>
    dsimp only
    have hz : z = ⟨y.doc, y.places.filter fun n => decide (n - gap ∈ atD a y.doc)⟩ := by
     unfold nextO at hq
     split at hq
     ·cases hq
     ·injection hq with hq; exact hq.symm
    refine ⟨List.Pairwise.cons (fun p hp => ?_) i1, fun p hp => ?_, fun d => ?_⟩
    ·obtain ⟨u, hu, e⟩ := i2 p hp
     have : p.doc = u.doc := by
      unfold nextO at e
      split at e
      ·cases e
      ·injection e with e; rw [← e]
     rw [this, hz]; exact h1 u hu
    ·rcases List.mem_cons.1 hp with rfl | hp
     ·exact ⟨y, List.mem_cons_self, hq⟩
     ·obtain ⟨u, hu, e⟩ := i2 p hp
      exact ⟨u, List.mem_cons_of_mem _ hu, e⟩
    ·rw [zaM, zaM, i3, hz]
     dsimp only
     by_cases hd : y.doc = d
     ·rw [if_pos hd, if_pos hd, hd]
     ·rw [if_neg hd, if_neg hd]
 obtain ⟨k1, k2, k3⟩ := key b hasc
 refine ⟨zaA.2 ⟨k1, fun p hp => ?_⟩, k3⟩
 obtain ⟨y, hy, e⟩ := k2 p hp
 obtain ⟨r1, r2, r3, r4, r5⟩ := hall y hy
 unfold nextO at e
 split at e
 ·cases e
 ·rename_i hne
  injection e with e
  subst e
  refine ⟨r1, r2, hne, ?_, fun n hn => r5 n (List.mem_filter.1 hn).1⟩
  unfold AscB at r4 ⊢
  exact r4.sublist List.filter_sublist
def eqW (w : List UInt8) : List UInt8 → Bool := fun x => decide (x = w)
def phraseL (x : Ix) (f : Int) : List (List UInt8) → List Pst
 | [] => []
 | w :: ws => ws.foldl (fun l v => nextP l (lookX x f (eqW v)) 1) (lookX x f (eqW w))
def phraseX (x : Ix) (field : Int) (ws : List (List UInt8)) : List Int :=
 if ws = [] then [] else sortI ([1, 2, 3, 4, 5].flatMap fun f => if field ≠ 0 ∧ f ≠ field then [] else (phraseL x f ws).map (·.doc))
theorem ziS {x : Ix} {f : Int} (hf : f ≠ 0) (w : List UInt8) (d z : Int) : z ∈ atD (lookX x f (eqW w)) d ↔ z ∈ pX x (f, w) d := by
 rw [(zbi x f (eqW w)).2]
 constructor
 ·rintro ⟨⟨k1, k2⟩, hk, h⟩
  unfold okK eqW at hk
  simp only [Bool.and_eq_true, Bool.or_eq_true, decide_eq_true_eq] at hk
  obtain ⟨h1 | h1, h2⟩ := hk
  ·exact absurd h1 hf
  ·rw [h1, ← h2]; exact h
 ·intro h
  exact ⟨(f, w), by unfold okK eqW; simp, h⟩
theorem zfW {x : Ix} {f : Int} (hf : f ≠ 0) : ∀ (ws : List (List UInt8)) (l : List Pst), rightP l = true → rightP (ws.foldl (fun l v => nextP l (lookX x f (eqW v)) 1) l) = true ∧
  ∀ d z, z ∈ atD (ws.foldl (fun l v => nextP l (lookX x f (eqW v)) 1) l) d ↔ (z - ws.length ∈ atD l d) ∧ ∀ i (h : i < ws.length), z - ws.length + 1 + i ∈ pX x (f, ws[i]) d
 | [], l, h => ⟨h, fun d z => by simp⟩
 | w :: ws, l, h => by
  have hr := (zbi x f (eqW w)).1
  obtain ⟨n1, n2⟩ := zhW l 1 (lookX x f (eqW w)) hr
  obtain ⟨i1, i2⟩ := zfW hf ws (nextP l (lookX x f (eqW w)) 1) n1
  refine ⟨i1, fun d z => ?_⟩
  have hL : (w :: ws).length = ws.length + 1 := List.length_cons
  rw [List.foldl_cons, i2 d z, n2, List.mem_filter, ziS hf]
  have e1 : z - (ws.length : Int) - 1 = z - ((w :: ws).length : Int) := by omega
  rw [decide_eq_true_eq, e1]
  constructor
  ·rintro ⟨⟨h1, h2⟩, h3⟩
   refine ⟨h2, fun i hi => ?_⟩
   cases i with
   | zero =>
    have e2 : z - ((w :: ws).length : Int) + 1 + ((0 : Nat) : Int) = z - (ws.length : Int) := by omega
    rw [e2]; exact h1
   | succ i =>
    have := h3 i (by omega)
    have e2 : z - ((w :: ws).length : Int) + 1 + ((i + 1 : Nat) : Int) = z - (ws.length : Int) + 1 + (i : Int) := by omega
    rw [e2]; exact this
  ·rintro ⟨h1, h2⟩
   refine ⟨⟨?_, h1⟩, fun i hi => ?_⟩
   ·have := h2 0 (by simp)
    have e2 : z - ((w :: ws).length : Int) + 1 + ((0 : Nat) : Int) = z - (ws.length : Int) := by omega
    rw [e2] at this; exact this
   ·have := h2 (i + 1) (by omega)
    have e2 : z - ((w :: ws).length : Int) + 1 + ((i + 1 : Nat) : Int) = z - (ws.length : Int) + 1 + (i : Int) := by omega
    rw [e2] at this; exact this
theorem zeG {x : Ix} {f : Int} (hf : f ≠ 0) {ws : List (List UInt8)} (hw : ws ≠ []) : rightP (phraseL x f ws) = true ∧ ∀ d z, z ∈ atD (phraseL x f ws) d ↔ ∀ i (h : i < ws.length), z - ws.length + 1 + i ∈ pX x (f, ws[i]) d := by
 cases ws with
 | nil => exact absurd rfl hw
 | cons w ws =>
  obtain ⟨h1, h2⟩ := zfW hf ws (lookX x f (eqW w)) (zbi x f (eqW w)).1
  refine ⟨h1, fun d z => (h2 d z).trans ?_⟩
  have hL : (w :: ws).length = ws.length + 1 := List.length_cons
  rw [ziS hf]
  constructor
  ·rintro ⟨h3, h4⟩ i hi
   cases i with
   | zero =>
    have e2 : z - ((w :: ws).length : Int) + 1 + ((0 : Nat) : Int) = z - (ws.length : Int) := by omega
    rw [e2]; exact h3
   | succ i =>
    have := h4 i (by omega)
    have e2 : z - ((w :: ws).length : Int) + 1 + ((i + 1 : Nat) : Int) = z - (ws.length : Int) + 1 + (i : Int) := by omega
    rw [e2]; exact this
  ·intro h
   refine ⟨?_, fun i hi => ?_⟩
   ·have := h 0 (by simp)
    have e2 : z - ((w :: ws).length : Int) + 1 + ((0 : Nat) : Int) = z - (ws.length : Int) := by omega
    rw [e2] at this; exact this
   ·have := h (i + 1) (by omega)
    have e2 : z - ((w :: ws).length : Int) + 1 + ((i + 1 : Nat) : Int) = z - (ws.length : Int) + 1 + (i : Int) := by omega
    rw [e2] at this; exact this
theorem zdy {l : List Pst} (h : rightP l = true) (d : Int) : d ∈ l.map (·.doc) ↔ ∃ z, z ∈ atD l d := by
 rw [zhu h]
 constructor
 ·intro h; exact List.exists_mem_of_ne_nil _ h
 ·rintro ⟨z, hz⟩ e
  rw [e] at hz; cases hz
theorem zeE (x : Ix) (field : Int) {ws : List (List UInt8)} (hw : ws ≠ []) (d : Int) : d ∈ phraseX x field ws ↔ ∃ f : Int, (1 ≤ f ∧ f ≤ 5) ∧ (field = 0 ∨ f = field) ∧ ∃ z : Int, ∀ (i : Nat) (h : i < ws.length), z + (i : Int) ∈ pX x (f, ws[i]) d := by
 unfold phraseX
 rw [if_neg hw, show d ∈ sortI _ ↔ _ from zbb stoI _ _, List.mem_flatMap]
 have hf : ∀ f : Int, f ∈ [1, 2, 3, 4, 5] ↔ 1 ≤ f ∧ f ≤ 5 := fun f => by
  simp only [List.mem_cons, List.not_mem_nil, or_false]; omega
 constructor
 ·rintro ⟨f, h1, h2⟩
  rw [hf] at h1
  split at h2
  ·cases h2
  ·rename_i hn
   obtain ⟨p1, p2⟩ := zeG (x := x) (f := f) (by omega) hw
   obtain ⟨z, hz⟩ := (zdy p1 d).1 h2
   refine ⟨f, h1, ?_, z - ws.length + 1, (p2 d z).1 hz⟩
   by_cases h0 : field = 0
   ·exact .inl h0
   ·by_cases h3 : f = field
    ·exact .inr h3
    ·exact absurd ⟨h0, h3⟩ hn
 ·rintro ⟨f, h1, h2, z, hz⟩
  refine ⟨f, (hf f).2 h1, ?_⟩
  rw [if_neg (by rintro ⟨h3, h4⟩; rcases h2 with h2 | h2; exact h3 h2; exact h4 h2)]
  obtain ⟨p1, p2⟩ := zeG (x := x) (f := f) (by omega) hw
  refine (zdy p1 d).2 ⟨z + ws.length - 1, (p2 d _).2 fun i hi => ?_⟩
  have e2 : z + (ws.length : Int) - 1 - (ws.length : Int) + 1 + (i : Int) = z + i := by omega
  rw [e2]; exact hz i hi
theorem zdu (x : Ix) (field : Int) (ws : List (List UInt8)) : AscB ltI (phraseX x field ws) := by
 unfold phraseX
 split
 ·exact .nil
 ·exact zbs stoI _
theorem zjt (w : List UInt8) : ∀ (i : Nat) (l : List (List UInt8)) (n : Int), n ∈ posF w i l ↔ ∃ (j : Nat) (h : j < l.length), n = ((i + j : Nat) : Int) ∧ l[j] = w
 | i, [], n => ⟨(fun h => by cases h), (fun ⟨j, h, _⟩ => absurd h (Nat.not_lt_zero _))⟩
 | i, y :: l, n => by
  have ih := zjt w (i + 1) l n
  unfold posF
  constructor
  ·intro h
   split at h
   ·rename_i e
    rcases List.mem_cons.1 h with h | h
    ·exact ⟨0, by simp, by omega, e⟩
    ·obtain ⟨j, hj, e1, e2⟩ := ih.1 h
     exact ⟨j + 1, by simpa using hj, by omega, e2⟩
   ·obtain ⟨j, hj, e1, e2⟩ := ih.1 h
    exact ⟨j + 1, by simpa using hj, by omega, e2⟩
  ·rintro ⟨j, hj, e1, e2⟩
   cases j with
   | zero =>
    have e2 : y = w := e2
    rw [if_pos e2]
    exact List.mem_cons.2 (.inl (by omega))
   | succ j =>
    have := ih.2 ⟨j, by simpa using hj, by omega, e2⟩
    split
    ·exact List.mem_cons_of_mem _ this
    ·exact this
theorem zhV (doc : Int) (tx : List (List UInt8)) (f : Int) (w : List UInt8) (d : Int) : placesE (entsX doc tx) (f, w) d = if d = doc ∧ 1 ≤ f ∧ f ≤ 5 then posF w 0 (wordsOf (tx.getD f.toNat [])) else [] := by
 unfold placesE entsX
 simp only [List.flatMap_cons, List.flatMap_nil, List.append_nil]
 unfold partE
 dsimp only
 by_cases hd : d = doc
 ·by_cases h1 : f = 1
  ·subst h1; simp [hd]
  by_cases h2 : f = 2
  ·subst h2; simp [hd]
  by_cases h3 : f = 3
  ·subst h3; simp [hd]
  by_cases h4 : f = 4
  ·subst h4; simp [hd]
  by_cases h5 : f = 5
  ·subst h5; simp [hd]
  rw [if_neg (fun h => h1 h.2), if_neg (fun h => h2 h.2), if_neg (fun h => h3 h.2), if_neg (fun h => h4 h.2), if_neg (fun h => h5 h.2), if_neg (by omega)]
  rfl
 ·rw [if_neg (fun h => hd h.1), if_neg (fun h => hd h.1), if_neg (fun h => hd h.1), if_neg (fun h => hd h.1), if_neg (fun h => hd h.1), if_neg (fun h => hd h.1)]
  rfl
theorem zgP : ∀ {l : List LDoc}, (l.Pairwise fun a b => a.1 ≠ b.1) → ∀ {e : LDoc}, e ∈ l → ∀ k, placesE (entsL l) k e.1 = placesE (entsX e.1 e.2) k e.1
 | [], _, e, h, _ => by cases h
 | a :: l, hp, e, h, k => by
  obtain ⟨h1, h2⟩ := List.pairwise_cons.1 hp
  rw [show entsL (a :: l) = entsX a.1 a.2 ++ entsL l from by unfold entsL; rw [List.flatMap_cons], zcJ]
  rcases List.mem_cons.1 h with rfl | h
  ·rw [zbn (es := entsL l) fun x hx => by
    obtain ⟨q, hq, e2⟩ := zeb hx
    rw [← e2]; exact fun e3 => h1 q hq e3.symm]
   exact List.append_nil _
  ·rw [zbn (es := entsX a.1 a.2) fun x hx => by rw [zce hx]; exact h1 e h, zgP h2 h k]
   rfl
theorem zjK {x : Ix} (hx : IxOk x) {k : Ky} {d z : Int} (h : z ∈ pX x k d) : liveX x d := by
 unfold pX at h
 split at h
 ·cases h
 ·rename_i hd
  refine ⟨?_, hd⟩
  by_cases hi : inX x.segs d
  ·exact hi
  ·rw [zkp hx.rt hi] at h; cases h
def hasPh (tx : List (List UInt8)) (field : Int) (ws : List (List UInt8)) : Prop := ∃ f : Int, (1 ≤ f ∧ f ≤ 5) ∧ (field = 0 ∨ f = field) ∧ ∃ p : Nat, ∀ (i : Nat) (h : i < ws.length), (wordsOf (tx.getD f.toNat []))[p + i]? = some ws[i]
theorem zeC {p : Ix × List LDoc} (h : RunOk p) (field : Int) {ws : List (List UInt8)} (hw : ws ≠ []) {e : LDoc} (he : e ∈ p.2) : e.1 ∈ phraseX p.1 field ws ↔ hasPh e.2 field ws := by
 have h0 : 0 < ws.length := List.length_pos_iff.2 hw
 rw [zeE p.1 field hw]
 have hp : ∀ (f : Int) (hf : 1 ≤ f ∧ f ≤ 5) (w : List UInt8) (z : Int), z ∈ pX p.1 (f, w) e.1 ↔ ∃ (j : Nat), z = (j : Int) ∧ (wordsOf (e.2.getD f.toNat []))[j]? = some w := fun f hf w z => by
  rw [h.pl, zgP h.nd he, zhV, if_pos ⟨rfl, hf.1, hf.2⟩, zjt]
  constructor
  ·rintro ⟨j, hj, e1, e2⟩
   exact ⟨j, by omega, by rw [List.getElem?_eq_getElem hj, e2]⟩
  ·rintro ⟨j, e1, e2⟩
   obtain ⟨hj, e3⟩ := List.getElem?_eq_some_iff.1 e2
   exact ⟨j, hj, by omega, e3⟩
 constructor
 ·rintro ⟨f, hf, hq, z, hz⟩
  obtain ⟨j, e1, e2⟩ := (hp f hf _ _).1 (hz 0 h0)
  refine ⟨f, hf, hq, j, fun i hi => ?_⟩
  obtain ⟨j2, e3, e4⟩ := (hp f hf _ _).1 (hz i hi)
  rw [show j + i = j2 from by omega]
  exact e4
 ·rintro ⟨f, hf, hq, j, hj⟩
  exact ⟨f, hf, hq, j, fun i hi => (hp f hf _ _).2 ⟨j + i, by omega, hj i hi⟩⟩
theorem zfE (tx : List (List UInt8)) (x : Ix) (field : Int) : phraseX x field [] = [] := by unfold phraseX; exact if_pos rfl
theorem zdv {x : Ix} (hx : IxOk x) {field : Int} {ws : List (List UInt8)} {d : Int} (h : d ∈ phraseX x field ws) : d ∈ docsX x := by
 rw [zdA]
 by_cases hw : ws = []
 ·rw [hw, zfE []] at h; cases h
 obtain ⟨f, _, _, z, hz⟩ := (zeE x field hw d).1 h
 exact zjK hx (hz 0 (List.length_pos_iff.2 hw))
end Go.Proofs.YtennokckmjcefaaGreatDoor
namespace Go.Cs
open Go.Lib
structure InOrder (l : List Wd3) (n : Nat) : Prop where
 each : ∀ i, i < l.length → fromOf l i < toOf l i ∧ toOf l i ≤ n
 next : ∀ i j, i < j → j < l.length → toOf l i ≤ fromOf l j
theorem InOrder.mono {l : List Wd3} {n : Nat} (h : InOrder l n) {i j : Nat} (hij : i ≤ j) (hj : j < l.length) : fromOf l i ≤ fromOf l j := by
 rcases Nat.lt_or_ge i j with h1 | h1
 ·have := (h.each i (by omega)).1
  have := h.next i j h1 hj
  omega
 ·have : i = j := by omega
  subst this; exact Nat.le_refl _
def cnt (ks : List (List UInt8)) (ws : List Wd3) (t : List UInt8) : Nat := if t ∈ ks then (ws.filter fun x => decide (x.1 = t)).length else 0
theorem cnt_cons (ks : List (List UInt8)) (x : Wd3) (ws : List Wd3) (t : List UInt8) : cnt ks (x :: ws) t = (if x.1 = t ∧ t ∈ ks then 1 else 0) + cnt ks ws t := by
 unfold cnt
 by_cases h : t ∈ ks
 ·rw [if_pos h, if_pos h]
  by_cases h2 : x.1 = t
  ·rw [if_pos ⟨h2, h⟩]; simp [h2]; omega
  ·rw [if_neg (fun e => h2 e.1)]; simp [h2]
 ·rw [if_neg h, if_neg h, if_neg (fun e => h e.2)]
theorem zks (ks : List (List UInt8)) (ws : List Wd3) (t : List UInt8) : cnt ks ws t ≤ ws.length := by
 unfold cnt
 split
 ·exact List.length_filter_le _ _
 ·exact Nat.zero_le _
end Go.Cs
namespace Go.Cs

end Go.Cs
namespace Go.Cs
open Go.Lib
end Go.Cs
namespace Go.Proofs.YtennokckmjcefaaGreatDoor
open Go.Shelf Go.RowKit Go.Pw Go.Vc Go.Cs Go.Lib Go.Cd Go.Mg
theorem zmU {p : Ix × List LDoc} (h : RunOk p) {doc : Int} {tx : List (List UInt8)} (ht : ∀ t ∈ tx, t.length ≤ 1000000000) (hr : 1 ≤ doc ∧ doc ≤ 1099511627776) (hn : ∀ e ∈ p.2, e.1 ≠ doc) :
  (addX p.1 doc tx).1 = 0 ∧ RunOk ((addX p.1 doc tx).2, p.2 ++ [(doc, tx)]) := by
 have h0 : (addX p.1 doc tx).1 = 0 := by
  unfold addX
  rw [if_neg (by omega), if_neg fun e => ?_]
  obtain ⟨e, he, e1⟩ := (h.lv doc).1 (zbC.1 e)
  exact hn e he e1
 refine ⟨h0, ?_⟩
 have := zjy h ⟨0, doc, tx, 0, [], []⟩ ht
 unfold runS at this
 rw [if_pos (.inl rfl)] at this
 dsimp only at this
 rw [if_pos h0] at this
 exact this
structure Sd (P : Nat) (s : Sgm) (n q : Nat) : Prop where
 b : Bd s n q q
 p : ∀ k d z, z ∈ pS s k d → z < (P : Int)
def WtS (P : Nat) : List Sgm → Nat → Nat → Prop
 | [], _, _ => True
 | s :: l, N, Q => ∃ n q m r, (n + m ≤ N ∧ q + r ≤ Q) ∧ Sd P s n q ∧ WtS P l m r
theorem Sd.mono {P : Nat} {s : Sgm} {n q n' q' : Nat} (h : Sd P s n q) (h1 : n ≤ n') (h2 : q ≤ q') : Sd P s n' q' := ⟨h.b.mono h1 h2 h2, h.p⟩
theorem Sd.two {P : Nat} {a b : Sgm} {n q n' q' : Nat} (h : Sd P a n q) (g : Sd P b n' q') (dl : List Int) : Sd P (twoS a b dl) (n + n') (q + q') :=
 ⟨zrf h.b g.b dl, fun k d z hz => by
  rw [znb] at hz
  split at hz
  ·cases hz
  ·rcases (zcj (zgC a k d) (zgC b k d) z).1 hz with hz | hz
   ·exact h.p k d z hz
   ·exact g.p k d z hz⟩
theorem Sd.nil (P : Nat) : Sd P ⟨[], []⟩ 0 0 := ⟨zoX 0 0 0, fun k d z hz => by rw [zrm] at hz; cases hz⟩
theorem WtS.mono {P : Nat} : ∀ {l : List Sgm} {N N' Q Q' : Nat}, WtS P l N Q → N ≤ N' → Q ≤ Q' → WtS P l N' Q'
 | [], _, _, _, _, _, _, _ => trivial
 | s :: l, N, N', Q, Q', ⟨n, q, m, r, h1, h2, h3⟩, h, g => ⟨n, q, m, r, by omega, h2, h3⟩
theorem WtS.app {P : Nat} : ∀ {a b : List Sgm} {n m q r : Nat}, WtS P a n q → WtS P b m r → WtS P (a ++ b) (n + m) (q + r)
 | [], b, n, m, q, r, _, h => WtS.mono h (by omega) (by omega)
 | s :: a, b, n, m, q, r, ⟨n1, q1, m1, r1, h1, h2, h3⟩, h => ⟨n1, q1, m1 + m, r1 + r, by omega, h2, WtS.app h3 h⟩
theorem WtS.split {P : Nat} : ∀ {a b : List Sgm} {N Q : Nat}, WtS P (a ++ b) N Q → ∃ n m q r, (n + m ≤ N ∧ q + r ≤ Q) ∧ WtS P a n q ∧ WtS P b m r
 | [], b, N, Q, h => ⟨0, N, 0, Q, by omega, trivial, h⟩
 | s :: a, b, N, Q, ⟨n1, q1, m1, r1, h1, h2, h3⟩ => by
  obtain ⟨n, m, q, r, e, ha, hb⟩ := WtS.split h3
  exact ⟨n1 + n, m, q1 + q, r, by omega, ⟨n1, q1, n, q, ⟨Nat.le_refl _, Nat.le_refl _⟩, h2, ha⟩, hb⟩
theorem WtS.full {P : Nat} : ∀ {l : List Sgm} {N Q : Nat}, WtS P l N Q → WtS P (fullL l) N Q
 | [], _, _, _ => trivial
 | s :: l, N, Q, ⟨n, q, m, r, h1, h2, h3⟩ => by
  unfold fullL
  rw [List.filter_cons]
  split
  ·exact ⟨n, q, m, r, h1, h2, WtS.full h3⟩
  ·exact WtS.mono (WtS.full h3) (by omega) (by omega)
theorem WtS.mem {P : Nat} : ∀ {l : List Sgm} {N Q : Nat}, WtS P l N Q → ∀ s ∈ l, Sd P s N Q
 | [], _, _, _, s, hs => by cases hs
 | a :: l, N, Q, ⟨n, q, m, r, h1, h2, h3⟩, s, hs => by
  rcases List.mem_cons.1 hs with rfl | hs
  ·exact h2.mono (by omega) (by omega)
  ·exact (WtS.mem h3 s hs).mono (by omega) (by omega)
theorem WtS.docs {P : Nat} : ∀ {l : List Sgm} {N Q : Nat}, WtS P l N Q → docN l ≤ N
 | [], _, _, _ => Nat.zero_le _
 | a :: l, N, Q, ⟨n, q, m, r, h1, h2, h3⟩ => by
  rw [zaZ]
  have := WtS.docs h3
  have := h2.b.d
  omega
theorem zms {P : Nat} {x : Ix} {N Q i n : Nat} {s : Sgm} (h : WtS P x.segs N Q) (hs : ∀ m r, WtS P ((x.segs.drop i).take n) m r → WtS P [s] m r) : WtS P (replX x i n s).segs N Q := by
 have e : x.segs = x.segs.take i ++ ((x.segs.drop i).take n ++ x.segs.drop (i + n)) := by
  rw [show x.segs.drop (i + n) = (x.segs.drop i).drop n from by rw [List.drop_drop], List.take_append_drop, List.take_append_drop]
 rw [e] at h
 obtain ⟨n1, m1, q1, r1, e1, h1, h2⟩ := WtS.split h
 obtain ⟨n2, m2, q2, r2, e2, h3, h4⟩ := WtS.split h2
 unfold replX cleanX
 dsimp only
 have : WtS P (x.segs.take i ++ ([s] ++ x.segs.drop (i + n))) (n1 + (n2 + m2)) (q1 + (q2 + r2)) := WtS.app h1 (WtS.app (hs _ _ h3) h4)
 exact WtS.mono (WtS.full this) (by omega) (by omega)
theorem zqV {P : Nat} {x : Ix} {N Q i : Nat} (h : WtS P x.segs N Q) (hi : i < x.segs.length) (dl : List Int) : WtS P (replX x i 1 (twoS (x.segs.getD i ⟨[], []⟩) ⟨[], []⟩ dl)).segs N Q := by
 refine zms h fun m r hm => ?_
 rw [List.drop_eq_getElem_cons hi, List.take_succ_cons] at hm
 obtain ⟨a, q, b, r2, h1, h2, _⟩ := hm
 rw [zbv hi]
 exact ⟨a, q, b, r2, h1, (h2.two (Sd.nil P) dl).mono (by omega) (by omega), trivial⟩
theorem zsU {P : Nat} {x : Ix} {N Q i : Nat} (h : WtS P x.segs N Q) (hi : i + 1 < x.segs.length) (dl : List Int) : WtS P (replX x i 2 (twoS (x.segs.getD i ⟨[], []⟩) (x.segs.getD (i + 1) ⟨[], []⟩) dl)).segs N Q := by
 refine zms h fun m r hm => ?_
 rw [List.drop_eq_getElem_cons (by omega), List.take_succ_cons, List.drop_eq_getElem_cons hi, List.take_succ_cons] at hm
 obtain ⟨a, q, b, r2, h1, h2, c, q3, d, r3, h3, h4, _⟩ := hm
 rw [zbv hi, zbv (show i < x.segs.length by omega)]
 exact ⟨a + c, q + q3, d, r3, by omega, h2.two h4 dl, trivial⟩
theorem zsk {P : Nat} {x : Ix} {N Q : Nat} (h : WtS P x.segs N Q) (doc : Int) : WtS P (readX x doc).segs N Q := by
 unfold readX
 cases hf : findX x.segs doc with
 | none => exact h
 | some i => exact zqV h (zcu hf).1 _
theorem zpj {P : Nat} {es : List Ent} (hk : Kept es) {L n : Nat} (hn : es.length ≤ n) (he : ∀ e ∈ es, e.text.length ≤ L) (hP : 2 * L + 1 ≤ P) (hL9 : L ≤ 1000000000) : Sd P (buildE es) n (n * (2 * L + 3)) := by
 have hB := zha hk fun e h => by have := he e h; omega
 have hb := zky hB hk hn (m := 2 * L + 1) fun e h => by have := he e h; omega
 refine ⟨hb.mono (Nat.le_refl _) (Nat.mul_le_mul_left _ (by omega)) (Nat.le_refl _), fun k d z hz => ?_⟩
 have hz2 : z ∈ placesE es k d := by
  unfold pS at hz
  rwa [zaV hB.right, hB.posts] at hz
 obtain ⟨e, hem, _, _, e3, _⟩ := zbm hk k d (List.ne_nil_of_mem hz2)
 rw [e3] at hz2
 obtain ⟨j, hj, e4, _⟩ := (zjt k.2 0 (wordsOf e.text) z).1 hz2
 have h1 := zbd e.text
 have h2 := he e hem
 omega
theorem zhr {doc : Int} {tx : List (List UInt8)} {L : Nat} (ht : ∀ t ∈ tx, t.length ≤ L) : ∀ e ∈ entsX doc tx, e.text.length ≤ L := by
 have hg : ∀ i, (tx.getD i []).length ≤ L := fun i => by
  rw [List.getD_eq_getElem?_getD]
  cases hq : tx[i]? with
  | none => exact Nat.zero_le _
  | some t => exact ht t (List.mem_of_getElem? hq)
 intro e he
 unfold entsX at he
 simp only [List.mem_cons, List.not_mem_nil, or_false] at he
 rcases he with rfl | rfl | rfl | rfl | rfl <;> exact hg _
theorem zsT {P : Nat} {x : Ix} {N Q : Nat} (h : WtS P x.segs N Q) {doc : Int} {tx : List (List UInt8)} {L : Nat} (ht : ∀ t ∈ tx, t.length ≤ L) (hL : 2 * L + 1 ≤ P) (hL9 : L ≤ 1000000000) : WtS P (addX x doc tx).2.segs (N + 5) (Q + 5 * (2 * L + 3)) := by
 unfold addX
 split
 ·exact WtS.mono h (by omega) (by omega)
 split
 ·exact WtS.mono h (by omega) (by omega)
 ·rename_i h1 h2
  have hk := (zcY (by omega) (by omega) (doc := doc) tx).2
  exact WtS.app (zsk h doc) ⟨5, 5 * (2 * L + 3), 0, 0, ⟨Nat.le_refl _, Nat.le_refl _⟩, zpj hk (Nat.le_refl _) (zhr ht) hL hL9, trivial⟩
theorem zrH {P : Nat} {x : Ix} {N Q : Nat} (h : WtS P x.segs N Q) (doc : Int) : WtS P (dropX x doc).2.segs N Q := by
 unfold dropX
 split <;> exact h
theorem zsb {P : Nat} {x : Ix} {N Q : Nat} (h : WtS P x.segs N Q) : WtS P (stepX x).2.segs N Q := by
 unfold stepX
 cases hp : pickL (x.segs.map fun s => (s.docs.length : Int)) with
 | some i =>
  have hi := zcS hp
  rw [List.length_map] at hi
  exact zsU h hi _
 | none =>
  dsimp only
  cases hf : x.segs.findIdx? (dueX x) with
  | some i => exact zqV h (List.findIdx?_eq_some_iff_getElem.1 hf).1 _
  | none => exact h
theorem zoK : ∀ (l : List Int) (a b : Int), AscB ltI l → (∀ z ∈ l, a ≤ z ∧ z < b) → (l.length : Int) ≤ max 0 (b - a)
 | [], a, b, _, _ => by simp only [List.length_nil]; omega
 | n :: l, a, b, h, g => by
  unfold AscB at h
  obtain ⟨h1, h2⟩ := List.pairwise_cons.1 h
  have := g n List.mem_cons_self
  have ih := zoK l (n + 1) b h2 fun z hz => ⟨by have := of_decide_eq_true (h1 z hz); omega, (g z (List.mem_cons_of_mem _ hz)).2⟩
  rw [List.length_cons]; omega
theorem zrR {P N : Nat} {l : List Pst} (h : rightP l = true) {ds : List Int} (hd : ∀ p ∈ l, p.doc ∈ ds) (hn : ds.length ≤ N) (hp : ∀ d z, z ∈ atD l d → z < (P : Int)) : l.length ≤ N ∧ ∀ p ∈ l, p.places.length ≤ P := by
 obtain ⟨h1, h2⟩ := zaA.1 h
 constructor
 ·have := zaX (l.map (·.doc)) ds (List.pairwise_map.2 (h1.imp fun h => by omega)) fun d hdm => by
   obtain ⟨p, hp, rfl⟩ := List.mem_map.1 hdm
   exact hd p hp
  rw [List.length_map] at this; omega
 ·intro p hpm
  obtain ⟨_, _, _, r4, r5⟩ := h2 p hpm
  have hat := zcM h1 hpm
  have := zoK p.places 0 P r4 fun z hz => ⟨(r5 z hz).1, hp p.doc z (by rw [hat]; exact hz)⟩
  omega
theorem pX_lt {P N Q : Nat} {x : Ix} (h : WtS P x.segs N Q) {k : Ky} {d z : Int} (hz : z ∈ pX x k d) : z < (P : Int) := by
 have : ∀ l : List Sgm, (∀ s ∈ l, ∀ k d z, z ∈ pS s k d → z < (P : Int)) → z ∈ pL l k d → z < (P : Int) := by
  intro l
  induction l with
  | nil => intro _ h; cases h
  | cons s l ih =>
   intro hs h
   rcases (zcj (zgC s k d) (zki l k d) z).1 h with h | h
   ·exact hs s List.mem_cons_self k d z h
   ·exact ih (fun t ht => hs t (List.mem_cons_of_mem _ ht)) h
 unfold pX at hz
 split at hz
 ·cases hz
 ·exact this x.segs (fun s hs => (h.mem s hs).p) hz
theorem zrr {l : List Pst} (h : rightP l = true) {p : Pst} (hp : p ∈ l) : ∃ z, z ∈ atD l p.doc := (zdy h p.doc).1 (List.mem_map.2 ⟨p, hp, rfl⟩)
theorem ziN {P N Q : Nat} {x : Ix} (hx : IxOk x) (h : WtS P x.segs N Q) (f : Int) (q : List UInt8 → Bool) : (lookX x f q).length ≤ N ∧ ∀ p ∈ lookX x f q, p.places.length ≤ P := by
 obtain ⟨r1, s1⟩ := zbi x f q
 have h3 := zin hx
 have h2 := h.docs
 refine zrR r1 (ds := docsX x) (fun p hp => ?_) (by omega) fun d z hz => ?_
 ·obtain ⟨z, hz⟩ := zrr r1 hp
  obtain ⟨k, _, hz⟩ := (s1 _ _).1 hz
  exact (zdA x _).2 (zjK hx hz)
 ·obtain ⟨k, _, hz⟩ := (s1 _ _).1 hz
  exact pX_lt h hz
theorem ziH {x : Ix} (hx : IxOk x) : x.segs.length ≤ docN x.segs := by
 have : ∀ l : List Sgm, (∀ s ∈ l, s.docs ≠ []) → l.length ≤ docN l := by
  intro l
  induction l with
  | nil => intro _; exact Nat.le_refl _
  | cons s l ih =>
   intro h
   have h1 := ih fun t ht => h t (List.mem_cons_of_mem _ ht)
   have h2 := List.length_pos_iff.2 (h s List.mem_cons_self)
   rw [zaZ, List.length_cons]; omega
 exact this x.segs hx.ne
theorem zlv {P N Q : Nat} {x : Ix} (hx : IxOk x) (h : WtS P x.segs N Q) : x.segs.length ≤ N ∧ x.dead.length ≤ N ∧ sizeX x ≤ 2 * N ∧ (docsX x).length ≤ N := by
 have h1 := ziH hx
 have h2 := h.docs
 have h3 := zin hx
 unfold sizeX
 omega
theorem znq {x : Ix} (hs : (stepX x).1 = false) : (stepX x).2 = x := by
 unfold stepX at hs ⊢
 cases hp : pickL (x.segs.map fun s => (s.docs.length : Int)) with
 | some i => rw [hp] at hs; cases hs
 | none =>
  rw [hp] at hs
  dsimp only at hs ⊢
  cases hf : x.segs.findIdx? (dueX x) with
  | some i => rw [hf] at hs; cases hs
  | none => rfl
def toN (l : List Int) : List Nat := l.map Int.toNat
theorem zoF {l : List Int} (h : ∀ n ∈ l, 0 ≤ n) : iL (toN l) = l := by
 unfold iL toN
 rw [List.map_map]
 conv => rhs; rw [← List.map_id l]
 refine List.map_congr_left fun n hn => ?_
 have := h n hn
 show ((n.toNat : Nat) : Int) = n
 omega
theorem zkf : ∀ (l : List Nat) (r : List UInt8), (∀ n ∈ l, n < 2 ^ 63) → numsG l.length (some (l.flatMap numE ++ r)) = (l, some r)
 | [], r, _ => rfl
 | n :: l, r, h => by
  rw [List.flatMap_cons, List.append_assoc, List.length_cons]
  unfold numsG
  rw [zbE (h n List.mem_cons_self)]
  simp only [zkf l r fun x hx => h x (List.mem_cons_of_mem _ hx)]
theorem zeg (l : List Nat) : l.length ≤ (l.flatMap numE).length := by
 induction l with
 | nil => simp
 | cons n l ih => have := zcd n; rw [List.flatMap_cons, List.length_append, List.length_cons]; omega
theorem zkH (l : List Nat) (r : List UInt8) (h : ∀ n ∈ l, n < 2 ^ 63) (hl : l.length < 2 ^ 63) : numsR (some (numsE l ++ r)) = (l, some r) := by
 unfold numsR numsE
 rw [List.append_assoc, zbE hl]
 dsimp only
 have := zeg l
 rw [if_neg (by rw [List.length_append]; omega), zkf l r h]
def takeR (n : Nat) : St → List UInt8 × St
 | none => ([], none)
 | some u => if n ≤ u.length then (u.take n, some (u.drop n)) else ([], none)
def textR (s : St) : List UInt8 × St := takeR (numR s).1 (numR s).2
def textE (u : List UInt8) : List UInt8 := numE u.length ++ u
theorem zgf {u : List UInt8} (h : u.length < 2 ^ 63) (r : List UInt8) : textR (some (textE u ++ r)) = (u, some r) := by
 unfold textR textE
 rw [List.append_assoc, zbE h]
 unfold takeR
 dsimp only
 rw [if_pos (by rw [List.length_append]; omega), List.take_left, List.drop_left]
theorem zcC (u : List UInt8) : 0 < (textE u).length ∧ u.length < (textE u).length := by
 have := zcd u.length
 unfold textE
 rw [List.length_append]; omega
def termE (t : Trm) : List UInt8 := numE t.field.toNat ++ (textE t.word ++ textE t.list)
def termR (s : St) : Trm × St := (⟨((numR s).1 : Nat), (textR (numR s).2).1, (textR (textR (numR s).2).2).1⟩, (textR (textR (numR s).2).2).2)
theorem zoV {t : Trm} (hf : 0 ≤ t.field ∧ t.field < 2 ^ 63) (hw : t.word.length < 2 ^ 63) (hl : t.list.length < 2 ^ 63) (r : List UInt8) : termR (some (termE t ++ r)) = (t, some r) := by
 unfold termR termE
 rw [List.append_assoc, List.append_assoc, zbE (by omega)]
 dsimp only
 rw [zgf hw]
 dsimp only
 rw [zgf hl, Int.toNat_of_nonneg hf.1]
def termsR : Nat → St → List Trm × St
 | 0, s => ([], s)
 | n + 1, s => if stL s = 0 then ([], s) else ((termR s).1 :: (termsR n (termR s).2).1, (termsR n (termR s).2).2)
theorem zfl (t : Trm) : 0 < (termE t).length := by
 have := zcd t.field.toNat
 unfold termE
 rw [List.length_append]; omega
theorem zgR : ∀ (l : List Trm) (r : List UInt8), (∀ t ∈ l, (0 ≤ t.field ∧ t.field < 2 ^ 63) ∧ t.word.length < 2 ^ 63 ∧ t.list.length < 2 ^ 63) → termsR l.length (some (l.flatMap termE ++ r)) = (l, some r)
 | [], r, _ => rfl
 | t :: l, r, h => by
  obtain ⟨h1, h2, h3⟩ := h t List.mem_cons_self
  have := zfl t
  rw [List.flatMap_cons, List.append_assoc, List.length_cons]
  unfold termsR
  rw [if_neg (by show (termE t ++ (l.flatMap termE ++ r)).length ≠ 0; rw [List.length_append]; omega), zoV h1 h2 h3, zgR l r fun x hx => h x (List.mem_cons_of_mem _ hx)]
def serS (s : Sgm) : List UInt8 := if rightS s = true then numsE (toN s.docs) ++ (numE s.terms.length ++ s.terms.flatMap termE) else []
def parS (b : List UInt8) : Sgm × St := (⟨(termsR (numR (numsR (some b)).2).1 (numR (numsR (some b)).2).2).1, iL (numsR (some b)).1⟩, (termsR (numR (numsR (some b)).2).1 (numR (numsR (some b)).2).2).2)
def readS (b : List UInt8) : Option Sgm := if (parS b).2 = some [] ∧ rightS (parS b).1 = true ∧ serS (parS b).1 = b then some (parS b).1 else none
theorem zcb {α : Type} (f : α → List UInt8) : ∀ (l : List α), ∀ x ∈ l, (f x).length ≤ (l.flatMap f).length
 | [], x, h => by cases h
 | a :: l, x, h => by
  rw [List.flatMap_cons, List.length_append]
  rcases List.mem_cons.1 h with rfl | h
  ·omega
  ·have := zcb f l x h; omega
theorem zeT {α : Type} (f : α → List UInt8) (hf : ∀ x, 0 < (f x).length) : ∀ (l : List α), l.length ≤ (l.flatMap f).length
 | [] => Nat.zero_le _
 | a :: l => by
  have := zeT f hf l
  have := hf a
  rw [List.flatMap_cons, List.length_append, List.length_cons]; omega
theorem znz {s : Sgm} (h : rightS s = true) (hb : (serS s).length < 2 ^ 63) : (toN s.docs).length < 2 ^ 63 ∧ s.terms.length < 2 ^ 63 ∧ (∀ n ∈ toN s.docs, n < 2 ^ 63) ∧ ∀ t ∈ s.terms, (0 ≤ t.field ∧ t.field < 2 ^ 63) ∧ t.word.length < 2 ^ 63 ∧ t.list.length < 2 ^ 63 := by
 obtain ⟨⟨_, hd⟩, ht, _⟩ := zan.1 h
 unfold serS at hb
 rw [if_pos h] at hb
 unfold numsE at hb
 simp only [List.length_append] at hb
 have h1 := zeg (toN s.docs)
 have h2 := zeT termE zfl s.terms
 refine ⟨by omega, by omega, fun n hn => ?_, fun t htm => ?_⟩
 ·unfold toN at hn
  obtain ⟨d, hdm, rfl⟩ := List.mem_map.1 hn
  have := hd d hdm
  omega
 ·have h3 := zcb termE s.terms t htm
  have hk := ht t htm
  unfold okTerm at hk
  simp only [Bool.and_eq_true, decide_eq_true_eq] at hk
  have h4 : (termE t).length = (numE t.field.toNat).length + ((textE t.word).length + (textE t.list).length) := by unfold termE; rw [List.length_append, List.length_append]
  have h5 := zcC t.word
  have h6 := zcC t.list
  exact ⟨⟨by omega, by omega⟩, by omega, by omega⟩
theorem zkx {s : Sgm} (h : rightS s = true) : iL (toN s.docs) = s.docs := zoF fun n hn => by have := (zan.1 h).1.2 n hn; omega
theorem zrI {s : Sgm} (h : rightS s = true) (hb : (serS s).length < 2 ^ 63) : parS (serS s) = (s, some []) ∧ (numR (numsR (some (serS s))).2).1 = s.terms.length := by
 obtain ⟨h1, h2, h3, h4⟩ := znz h hb
 have e1 : numsR (some (serS s)) = (toN s.docs, some (numE s.terms.length ++ s.terms.flatMap termE)) := by
  unfold serS
  rw [if_pos h]
  exact zkH _ _ h3 h1
 have e2 : numR (some (numE s.terms.length ++ s.terms.flatMap termE)) = (s.terms.length, some (s.terms.flatMap termE)) := zbE h2 _
 have e3 := zgR s.terms [] h4
 rw [List.append_nil] at e3
 constructor
 ·unfold parS
  rw [e1]
  dsimp only
  rw [e2]
  dsimp only
  rw [e3, zkx h]
 ·rw [e1]
  dsimp only
  rw [e2]
theorem zhZ {b : List UInt8} (hb : b.length < 2 ^ 63) {s : Sgm} : readS b = some s ↔ rightS s = true ∧ serS s = b := by
 unfold readS
 constructor
 ·intro h
  split at h
  ·rename_i hc
   injection h with h
   rw [← h]; exact ⟨hc.2.1, hc.2.2⟩
  ·cases h
 ·rintro ⟨h1, rfl⟩
  rw [(zrI h1 hb).1, if_pos ⟨rfl, h1, rfl⟩]
theorem zpB (u : List UInt8) (k : Nat) : (str u).extract 0 k = str (u.take k) := by
 apply ByteArray.ext
 simp [str]
theorem zhv (u v : List UInt8) : str u ++ str v = str (u ++ v) := by
 apply ByteArray.ext
 simp [str]
section
variable {w : World} {b : Nat}
theorem zsH (s : St) (n : Nat) (h : VarK w b 139 (rdC s)) (hn : n < 2 ^ 63) (hs : ∀ u, s = some u → u.length ≤ 140737488355328) :
  Calls Tryz.prog 117 #[.pointer (some ⟨b, 0, none⟩), .int .i64 (n : Nat)] w fun e w' => e = .returned (.string (str (takeR n s).1)) ∧ VarK w' b 139 (rdC (takeR n s).2) ∧ Kp w w' (one_ b) := by
 have qw := Kp.refl w n_
 cases s with
 | none =>
  have h0 := h
  unfold rdC at h
  have ha := h.at
  refine zaa (args := [.pointer (some ⟨b, 0, none⟩), .int .i64 (n : Nat)]) Tryz.func117 rfl NL ?_; refine GW ?_
  have hz : (⟨#[]⟩ : ByteArray).size = 0 := rfl
  by_cases hn0 : n = 0
  ·subst hn0
   refine KGO ?_
   refine CallS.of (Tryz.call115 _ _) (zbq none h0) ?_
   rintro e w1 ⟨rfl, h1, k1⟩
   refine RT ?_
   refine KGO ?_
   exact ⟨rfl, h1, k1⟩
  ·refine KGO ?_
   refine CallS.of (Tryz.call115 _ _) (zbq none h0) ?_
   rintro e w1 ⟨rfl, h1, k1⟩
   refine RT ?_
   refine KGO ?_
   exact ⟨rfl, h1, k1⟩
 | some u =>
  have h0 := h
  have hu := hs u rfl
  unfold rdC at h
  dsimp only at h
  have ha := h.at
  have hz : (str u).size = u.length := rfl
  refine zaa (args := [.pointer (some ⟨b, 0, none⟩), .int .i64 (n : Nat)]) Tryz.func117 rfl NL ?_; refine GW ?_
  by_cases hle : n ≤ u.length
  ·have e : takeR n (some u) = (u.take n, some (u.drop n)) := if_pos hle
   rw [e]
   refine KGO ?_
   rw [zpB]
   refine KGO ?_
   rw [hz, zbr]
   refine Store.cellK (i := 0) h (by simp) (by rfl) ⟨rfl, by simp, by simp⟩ fun w1 v1 k1 => ?_
   refine KGO ?_
   exact ⟨rfl, v1, k1⟩
  ·have e : takeR n (some u) = ([], none) := if_neg hle
   rw [e]
   refine KGO ?_
   refine CallS.of (Tryz.call115 _ _) (zbq (some u) h0) ?_
   rintro e w1 ⟨rfl, h1, k1⟩
   refine RT ?_
   refine KGO ?_
   exact ⟨rfl, h1, k1⟩
theorem zpb (n : Nat) (s : St) : (takeR n s).1.length ≤ stL s ∧ stL (takeR n s).2 ≤ stL s := by
 cases s with
 | none => exact ⟨Nat.zero_le _, Nat.le_refl _⟩
 | some u =>
  unfold takeR
  dsimp only
  split
  ·simp only [stL, List.length_take, List.length_drop]; omega
  ·exact ⟨Nat.zero_le _, Nat.zero_le _⟩
theorem zpM (s : St) : (textR s).1.length ≤ stL s ∧ stL (textR s).2 ≤ stL s := by
 have h1 := zpb (numR s).1 (numR s).2
 have h2 := zcF s
 unfold textR
 omega
theorem zhl (s : St) (h : VarK w b 139 (rdC s)) (hs : ∀ u, s = some u → u.length ≤ 140737488355328) :
  Calls Tryz.prog 54 #[.pointer (some ⟨b, 0, none⟩)] w fun e w' => e = .returned (.string (str (textR s).1)) ∧ VarK w' b 139 (rdC (textR s).2) ∧ Kp w w' (one_ b) := by
 refine zaa (args := [.pointer (some ⟨b, 0, none⟩)]) Tryz.func54 rfl NL ?_; refine GW ?_
 refine CallS.of (Tryz.call51 _ _) (zcl s h hs) ?_
 rintro e w1 ⟨rfl, h1, k1⟩
 refine RT ?_
 have hu : ∀ u, (numR s).2 = some u → u.length ≤ 140737488355328 := fun u e => by
  have h3 := zcF s
  rw [e] at h3
  cases s with
  | none => simp only [stL] at h3; omega
  | some v => have := hs v rfl; simp only [stL] at *; omega
 refine CallS.of (Tryz.call117 _ _) (zsH (numR s).2 (numR s).1 h1 (zci s) hu) ?_
 rintro e w2 ⟨rfl, h2, k2⟩
 refine RT ?_
 exact ⟨rfl, h2, k1.trans' k2⟩
theorem zhj (u : List UInt8) (hu : u.length ≤ 1000000000000) : Calls Tryz.prog 68 #[.string (str u)] w fun e w' => e = .returned (.string (str (textE u))) ∧ Kp w w' n_ := by
 have hz : (str u).size = u.length := rfl
 have hl := zaC (n := u.length) (by omega)
 have hz2 : (str (numE u.length)).size = (numE u.length).length := rfl
 refine zaa (args := [.string (str u)]) Tryz.func68 rfl NL ?_; refine GW ?_
 rw [hz]
 refine CallS.of (Tryz.call67 _ _) (zfK (w := w) u.length (by omega)) ?_
 rintro e w1 ⟨rfl, k1⟩
 refine RT ?_
 refine RunV.cat (by omega) ?_
 rw [zhv]
 refine KGO ?_
 exact ⟨rfl, k1⟩
end
def segE (s : Sgm) : List UInt8 := textE (serS s)
def segsR : Nat → St → Option (List Sgm) × St
 | 0, s => (some [], s)
 | n + 1, s => if stL s = 0 then (some [], s) else match readS (textR s).1 with
  | none => (none, (textR s).2)
  | some g => ((segsR n (textR s).2).1.map (g :: ·), (segsR n (textR s).2).2)
def serX (x : Ix) : List UInt8 := numE x.segs.length ++ (x.segs.flatMap segE ++ numsE (toN x.dead))
def parX (b : List UInt8) : Option Ix := match (segsR (numR (some b)).1 (numR (some b)).2).1 with
 | none => none
 | some l => if (numsR (segsR (numR (some b)).1 (numR (some b)).2).2).2 = some [] then some ⟨l, iL (numsR (segsR (numR (some b)).1 (numR (some b)).2).2).1⟩ else none
def validB (x : Ix) : Bool := decide ((x.segs.flatMap fun s => s.docs).Nodup) && x.segs.all (fun s => !s.docs.isEmpty) && x.dead.all (fun d => decide (d ∈ x.segs.flatMap fun s => s.docs)) && decide (x.dead.Pairwise fun a b => a < b)
def readIx (b : List UInt8) : Option Ix := match parX b with
 | none => none
 | some x => if validB x = true ∧ serX x = b then some x else none
theorem zgI {x : Ix} (hr : ∀ s ∈ x.segs, rightS s = true) : validB x = true ↔ IxOk x := by
 unfold validB
 simp only [Bool.and_eq_true, decide_eq_true_eq, List.all_eq_true, Bool.not_eq_true', List.isEmpty_eq_false_iff]
 constructor
 ·rintro ⟨⟨⟨h1, h2⟩, h3⟩, h4⟩
  refine ⟨hr, h2, ?_, h4.imp fun h => decide_eq_true h, fun d hd => zeR.1 (h3 d hd)⟩
  have := (List.pairwise_flatMap.1 h1).2
  exact this.imp fun h d hd hd2 => h d hd d hd2 rfl
 ·intro h
  exact ⟨⟨⟨zey hr h.dj, h.ne⟩, fun d hd => zeR.2 (h.di d hd)⟩, by have := h.da; unfold AscB at this; exact this.imp fun h => of_decide_eq_true h⟩
theorem zlr (s : Sgm) : 0 < (segE s).length := (zcC _).1
theorem ziy : ∀ (l : List Sgm) (r : List UInt8), (∀ s ∈ l, rightS s = true ∧ (serS s).length < 2 ^ 63) → segsR l.length (some (l.flatMap segE ++ r)) = (some l, some r)
 | [], r, _ => rfl
 | s :: l, r, h => by
  obtain ⟨h1, h2⟩ := h s List.mem_cons_self
  have hp := zlr s
  rw [List.flatMap_cons, List.append_assoc, List.length_cons]
  unfold segsR
  rw [if_neg (by show (segE s ++ (l.flatMap segE ++ r)).length ≠ 0; rw [List.length_append]; omega)]
  unfold segE at hp ⊢
  rw [zgf h2]
  dsimp only
  rw [(zhZ h2).2 ⟨h1, rfl⟩]
  have := ziy l r fun x hx => h x (List.mem_cons_of_mem _ hx)
  unfold segE at this
  dsimp only
  rw [this]; rfl
theorem zjq {b : List UInt8} {s : Sgm} (h : readS b = some s) : rightS s = true := by
 unfold readS at h
 split at h
 ·rename_i hc
  injection h with h
  rw [← h]; exact hc.2.1
 ·cases h
theorem zfu : ∀ (n : Nat) (s : St) (l : List Sgm), (segsR n s).1 = some l → ∀ g ∈ l, rightS g = true
 | 0, s, l, h, g, hg => by
  injection h with h
  subst h; cases hg
 | n + 1, s, l, h, g, hg => by
  unfold segsR at h
  split at h
  ·injection h with h
   subst h; cases hg
  ·cases hq : readS (textR s).1 with
   | none => rw [hq] at h; cases h
   | some a =>
    rw [hq] at h
    dsimp only at h
    cases hr : (segsR n (textR s).2).1 with
    | none => rw [hr] at h; cases h
    | some m =>
     rw [hr] at h
     injection h with h
     subst h
     rcases List.mem_cons.1 hg with rfl | hg
     ·exact zjq hq
     ·exact zfu n _ m hr g hg
theorem zmm {b : List UInt8} {x : Ix} (h : parX b = some x) : ∀ s ∈ x.segs, rightS s = true := by
 unfold parX at h
 split at h
 ·cases h
 ·rename_i l hl
  split at h
  ·injection h with h
   subst h
   exact zfu _ _ l hl
  ·cases h
theorem zgX {x : Ix} (hx : IxOk x) : ∀ d ∈ x.dead, 1 ≤ d ∧ d ≤ 1099511627776 := fun d hd => by
 obtain ⟨s, hs, h⟩ := hx.di d hd
 exact (zan.1 (hx.rt s hs)).1.2 d h
theorem zqE {x : Ix} (hx : IxOk x) (hb : (serX x).length < 2 ^ 63) : parX (serX x) = some x := by
 have hl : (numE x.segs.length).length + ((x.segs.flatMap segE).length + (numsE (toN x.dead)).length) < 2 ^ 63 := by
  unfold serX at hb
  rw [List.length_append, List.length_append] at hb; exact hb
 have h1 := zeT segE zlr x.segs
 have h2 : (toN x.dead).length ≤ (numsE (toN x.dead)).length := by
  have := zeg (toN x.dead)
  unfold numsE
  rw [List.length_append]; omega
 have e1 : numR (some (serX x)) = (x.segs.length, some (x.segs.flatMap segE ++ numsE (toN x.dead))) := zbE (by omega) _
 have e2 := ziy x.segs (numsE (toN x.dead)) fun s hs => ⟨hx.rt s hs, by
  have h3 := zcb segE x.segs s hs
  have h4 := (zcC (serS s)).2
  unfold segE at h3
  unfold segE at hl
  omega⟩
 have hd := zgX hx
 have e3 := zkH (toN x.dead) [] (fun n hn => by
  unfold toN at hn
  obtain ⟨d, hdm, rfl⟩ := List.mem_map.1 hn
  have := hd d hdm
  omega) (by omega)
 rw [List.append_nil] at e3
 unfold parX
 rw [e1]
 dsimp only
 rw [e2]
 dsimp only
 rw [e3]
 dsimp only
 rw [if_pos rfl, zoF fun n hn => by have := hd n hn; omega]
theorem zmn {b : List UInt8} (hb : b.length < 2 ^ 63) {x : Ix} : readIx b = some x ↔ IxOk x ∧ serX x = b := by
 unfold readIx
 constructor
 ·intro h
  cases hp : parX b with
  | none => rw [hp] at h; cases h
  | some y =>
   rw [hp] at h
   dsimp only at h
   split at h
   ·rename_i hc
    injection h with h
    subst h
    exact ⟨(zgI (zmm hp)).1 hc.1, hc.2⟩
   ·cases h
 ·rintro ⟨h1, rfl⟩
  rw [zqE h1 hb]
  dsimp only
  rw [if_pos ⟨(zgI h1.rt).2 h1, rfl⟩]
theorem zqt {x : Ix} (hx : IxOk x) (hb : (serX x).length < 2 ^ 63) : readIx (serX x) = some x := (zmn hb).2 ⟨hx, rfl⟩
end Go.Proofs.YtennokckmjcefaaGreatDoor
