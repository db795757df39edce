/- Helper lemmas; no conditions of their own. -/
import Derived.Test.YtennokckmjcefaaGreatDoorGMl3
set_option linter.unusedVariables false
set_option maxRecDepth 100000
namespace Go.Proofs.YtennokckmjcefaaGreatDoor
open Go.Shelf Go.RowKit Go.Pw Go.Vc Go.Cs Go.Lib Go.Cd Go.Mg
abbrev LDoc := Int × List (List UInt8)
structure Ak where
 d7 : Int
 doc : Int
 tx : List (List UInt8)
 field : Int
 word : List UInt8
 words : List (List UInt8)
deriving DecidableEq, Inhabited
def runS (p : Ix × List LDoc) (a : Ak) : Ix × List LDoc :=
 if a.d7 = 0 ∨ a.d7 = 1 ∨ a.d7 = 4 then ((addX p.1 a.doc a.tx).2, if (addX p.1 a.doc a.tx).1 = 0 then p.2 ++ [(a.doc, a.tx)] else p.2)
 else if a.d7 = 2 ∨ a.d7 = 5 then ((dropX p.1 a.doc).2, if (dropX p.1 a.doc).1 = true then p.2.filter fun e => !decide (e.1 = a.doc) else p.2)
 else ((stepX p.1).2, p.2)
def entsL (l : List LDoc) : List Ent := l.flatMap fun e => entsX e.1 e.2
theorem zcW {doc : Int} {tx : List (List UInt8)} {e : Ent} (h : e ∈ entsX doc tx) : e.doc = doc := by
 unfold entsX at h
 simp only [yah, yaS, or_false] at h
 rcases h with rfl | rfl | rfl | rfl | rfl <;> rfl
theorem zbz {es : List Ent} {k : Ky} {d : Int} (h : ∀ e ∈ es, e.doc ≠ d) : placesE es k d = [] := by
 unfold placesE
 rw [List.flatMap_eq_nil_iff]
 intro e he
 unfold partE
 exact if_neg (fun hh : d = e.doc ∧ k.1 = e.field => h e he hh.1.symm)
theorem zpq (a b : List LDoc) : entsL (a ++ b) = entsL a ++ entsL b := by unfold entsL; rw [List.flatMap_append]
theorem zje {l : List LDoc} {e : Ent} (h : e ∈ entsL l) : ∃ p ∈ l, p.1 = e.doc := by
 obtain ⟨p, hp, he⟩ := ybl.1 h
 exact ⟨p, hp, (zcW he).symm⟩
structure RunOk (p : Ix × List LDoc) : Prop where
 ok : IxOk p.1
 nd : p.2.Pairwise fun a b => a.1 ≠ b.1
 lv : ∀ d, liveX p.1 d ↔ ∃ e ∈ p.2, e.1 = d
 rg : ∀ e ∈ p.2, 1 ≤ e.1 ∧ e.1 ≤ 1099511627776
 tx : ∀ e ∈ p.2, ∀ t ∈ e.2, t.length ≤ 1000000000
 pl : ∀ k d, pX p.1 k d = placesE (entsL p.2) k d
theorem zoV : RunOk (zeP, []) := ⟨zie.1, .nil, (fun d => ⟨(fun h => absurd h (zie.2.1 d)), (fun ⟨e, he, _⟩ => by cases he)⟩), (fun e h => by cases h), (fun e h => by cases h), (fun k d => rfl)⟩
theorem zii (l : List LDoc) (doc : Int) (k : Ky) (d : Int) : placesE (entsL (l.filter fun e => !decide (e.1 = doc))) k d = if d = doc then [] else placesE (entsL l) k d := by
 induction l with
 | nil => simp [entsL, placesE]
 | cons e l ih =>
  have hc : ∀ m, placesE (entsL (e :: m)) k d = placesE (entsX e.1 e.2) k d ++ placesE (entsL m) k d := fun m => by
   rw [show entsL (e :: m) = entsX e.1 e.2 ++ entsL m from by unfold entsL; rw [List.flatMap_cons], zcU]
  rw [ybq]
  by_cases he : e.1 = doc
  ·rw [if_neg (by simp [he]), ih, hc]
   by_cases hd : d = doc
   ·rw [if_pos hd, if_pos hd]
   rw [if_neg hd, if_neg hd, zbz (es := entsX e.1 e.2) fun x hx => by rw [zcW hx, he]; exact fun h => hd h.symm]; rfl
  rw [if_pos (by simp [he]), hc, ih, hc]
  by_cases hd : d = doc
  ·rw [if_pos hd, if_pos hd, zbz (es := entsX e.1 e.2) fun x hx => by rw [zcW hx, hd]; exact he]; rfl
  rw [if_neg hd, if_neg hd]
theorem add_zero {x : Ix} {doc : Int} {tx : List (List UInt8)} (h : (addX x doc tx).1 = 0) : (1 ≤ doc ∧ doc ≤ 1099511627776) ∧ ¬ liveX x doc := by
 unfold addX at h
 split at h
 ·cases h
 split at h
 ·cases h
 rename_i h1 h2
 exact ⟨OM, fun h => h2 (zbO.2 h)⟩
theorem zod {p : Ix × List LDoc} (h : RunOk p) (a : Ak) (ht : ∀ t ∈ a.tx, t.length ≤ 1000000000) : RunOk (runS p a) := by
 unfold runS
 split
 ·by_cases h0 : (addX p.1 a.doc a.tx).1 = 0
  ·rw [if_pos h0]
   obtain ⟨k1, k2, k3⟩ := zrn h.ok ht h0
   obtain ⟨hr, hnl⟩ := add_zero h0
   have hno : ∀ e ∈ p.2, e.1 ≠ a.doc := fun e he e1 => hnl ((h.lv a.doc).2 ⟨e, he, e1⟩)
   refine ⟨k1, yaG.2 ⟨h.nd, ybW _ _, fun e he b hb => by rw [yac.1 hb]; exact hno e he⟩, fun d => ?_, fun e he => ?_, fun e he => ?_, fun k d => ?_⟩
   ·rw [k2, h.lv]
    constructor
    ·rintro (⟨e, he, e1⟩ | e1)
     ·exact ⟨e, yaX _ he, e1⟩
     exact ⟨_, ybE _ (yac.2 rfl), e1.symm⟩
    rintro ⟨e, he, e1⟩
    rcases yaj.1 he with he | he
    ·exact .inl ⟨e, he, e1⟩
    rw [yac.1 he] at e1
    exact .inr e1.symm
   ·rcases yaj.1 he with he | he
    ·exact h.rg e he
    rw [yac.1 he]; exact hr
   ·rcases yaj.1 he with he | he
    ·exact h.tx e he
    rw [yac.1 he]; exact ht
   rw [k3]
   dsimp only
   rw [zpq, zcU]
   have e1 : entsL [(a.doc, a.tx)] = entsX a.doc a.tx := by unfold entsL; simp
   rw [e1]
   by_cases hd : d = a.doc
   ·rw [if_pos hd, zbz (es := entsL p.2) fun e he => ?_]
    ·rfl
    obtain ⟨q, hq, e2⟩ := zje he
    rw [← e2, hd]; exact hno q hq
   rw [if_neg hd, h.pl, zbz (es := entsX a.doc a.tx) fun e he => by rw [zcW he]; exact fun e2 => hd e2.symm, yaA]
  rw [if_neg h0, add_no h0]; exact h
 split
 ·obtain ⟨k1, k2, k3, k4⟩ := znf h.ok a.doc
  by_cases hb : (dropX p.1 a.doc).1 = true
  ·rw [if_pos hb]
   refine ⟨k1, h.nd.sublist ybs, fun d => ?_, fun e he => h.rg e (yav.1 he).1, fun e he => h.tx e (yav.1 he).1, fun k d => ?_⟩
   ·rw [k3, h.lv]
    constructor
    ·rintro ⟨⟨e, he, e1⟩, hne⟩
     exact ⟨e, yav.2 ⟨he, by simp [e1, hne]⟩, e1⟩
    rintro ⟨e, he, e1⟩
    obtain ⟨h1, h2⟩ := yav.1 he
    exact ⟨⟨e, h1, e1⟩, fun e2 => by rw [e1, e2] at h2; simp at h2⟩
   dsimp only
   rw [k4, zii]
   by_cases hd : d = a.doc
   ·rw [if_pos hd, if_pos hd]
   rw [if_neg hd, if_neg hd, h.pl]
  rw [if_neg hb]
  have hnl : ¬ liveX p.1 a.doc := fun hl => hb (k2.2 hl)
  have e : (dropX p.1 a.doc).2 = p.1 := by
   unfold dropX
   rw [if_neg fun h => hnl (zbO.1 h)]
  rw [e]; exact h
 obtain ⟨k1, k2, k3⟩ := znX h.ok
 exact ⟨k1, h.nd, fun d => (k2 d).trans (h.lv d), h.rg, h.tx, fun k d => (k3 k d).trans (h.pl k d)⟩
def nextO (a : List Pst) (gap : Int) (y : Pst) : Option Pst :=
 if (y.places.filter fun n => decide (n - gap ∈ atD a y.doc)) = [] then none else some ⟨y.doc, y.places.filter fun n => decide (n - gap ∈ atD a y.doc)⟩
def nextP (a b : List Pst) (gap : Int) : List Pst := b.filterMap (nextO a gap)
theorem zij (a : List Pst) (gap : Int) : ∀ b : List Pst, zan b = true → zan (nextP a b gap) = true ∧ ∀ d, atD (nextP a b gap) d = (atD b d).filter fun n => decide (n - gap ∈ atD a d) := by
 intro b hb
 obtain ⟨hasc, hall⟩ := zaw.1 hb
 have key : ∀ b : List Pst, AscP b → AscP (nextP a b gap) ∧ (∀ p ∈ nextP a b gap, ∃ y ∈ b, nextO a gap y = some p) ∧ ∀ d, atD (nextP a b gap) d = (atD b d).filter fun n => decide (n - gap ∈ atD a d) := by
  intro b
  induction b with
  | nil => exact fun _ => ⟨.nil, (fun p h => by cases h), fun d => rfl⟩
  | cons y b ih =>
   intro h
   obtain ⟨h1, h2⟩ := yam.1 h
   obtain ⟨i1, i2, i3⟩ := ih h2
   unfold nextP at i1 i2 i3 ⊢
   rw [List.filterMap_cons]
   cases hq : nextO a gap y with
   | none =>
    dsimp only
    refine ⟨i1, fun p hp => ?_, fun d => ?_⟩
    ·obtain ⟨z, hz, e⟩ := i2 p hp
     exact ⟨z, yai _ hz, e⟩
    rw [i3, atD_cons]
    by_cases hd : y.doc = d
    ·rw [if_pos hd]
     have e0 : (y.places.filter fun n => decide (n - gap ∈ atD a d)) = [] := by
      unfold nextO at hq
      split at hq
      ·rename_i hz; rw [← hd]; exact hz
      cases hq
     have e1 : atD b d = [] := zkK fun p hp => by have := h1 p hp; omega
     rw [e0, e1]; rfl
    rw [if_neg hd]
   | some z =>
    dsimp only
    have hz : z = ⟨y.doc, y.places.filter fun n => decide (n - gap ∈ atD a y.doc)⟩ := by
     unfold nextO at hq
     split at hq
     ·cases hq
     injection hq with hq; exact hq.symm
    refine ⟨List.Pairwise.cons (fun p hp => ?_) i1, fun p hp => ?_, fun d => ?_⟩
    ·obtain ⟨u, hu, e⟩ := i2 p hp
     have : p.doc = u.doc := by
      unfold nextO at e
      split at e
      ·cases e
      injection e with e; rw [← e]
     rw [this, hz]; exact h1 u hu
    ·rcases yah.1 hp with rfl | hp
     ·exact ⟨y, yae, hq⟩
     obtain ⟨u, hu, e⟩ := i2 p hp
     exact ⟨u, yai _ hu, e⟩
    rw [atD_cons, atD_cons, i3, hz]
    dsimp only
    by_cases hd : y.doc = d
    ·rw [if_pos hd, if_pos hd, hd]
    rw [if_neg hd, if_neg hd]
 obtain ⟨k1, k2, k3⟩ := key b hasc
 refine ⟨zaw.2 ⟨k1, fun p hp => ?_⟩, k3⟩
 obtain ⟨y, hy, e⟩ := k2 p hp
 obtain ⟨r1, r2, r3, r4, r5⟩ := hall y hy
 unfold nextO at e
 split at e
 ·cases e
 rename_i hne
 injection e with e
 subst e
 refine ⟨r1, r2, hne, ?_, fun n hn => r5 n (yav.1 hn).1⟩
 unfold AscB at r4 ⊢
 exact r4.sublist ybs
def eqW (w : List UInt8) : List UInt8 → Bool := fun x => decide (x = w)
def zdk (x : Ix) (f : Int) : List (List UInt8) → List Pst
 | [] => []
 | w :: ws => ws.foldl (fun l v => nextP l (lookX x f (eqW v)) 1) (lookX x f (eqW w))
def zbH (x : Ix) (field : Int) (ws : List (List UInt8)) : List Int :=
 if ws = [] then [] else sortI ([1, 2, 3, 4, 5].flatMap fun f => if field ≠ 0 ∧ f ≠ field then [] else (zdk x f ws).map (·.doc))
theorem look_word {x : Ix} {f : Int} (hf : f ≠ 0) (w : List UInt8) (d z : Int) : z ∈ atD (lookX x f (eqW w)) d ↔ z ∈ pX x (f, w) d := by
 rw [(zby x f (eqW w)).2]
 constructor
 ·rintro ⟨⟨k1, k2⟩, hk, h⟩
  unfold okK eqW at hk
  simp only [yaq, ybH, decide_eq_true_eq] at hk
  obtain ⟨h1 | h1, h2⟩ := hk
  ·exact absurd h1 hf
  rw [h1, ← h2]; exact h
 intro h
 exact ⟨(f, w), by unfold okK eqW; simp, h⟩
theorem zgc {x : Ix} {f : Int} (hf : f ≠ 0) : ∀ (ws : List (List UInt8)) (l : List Pst), zan l = true → zan (ws.foldl (fun l v => nextP l (lookX x f (eqW v)) 1) l) = true ∧
  ∀ d z, z ∈ atD (ws.foldl (fun l v => nextP l (lookX x f (eqW v)) 1) l) d ↔ (z - ws.length ∈ atD l d) ∧ ∀ i (h : i < ws.length), z - ws.length + 1 + i ∈ pX x (f, ws[i]) d
 | [], l, h => ⟨h, fun d z => by simp⟩
 | w :: ws, l, h => by
  have hr := (zby x f (eqW w)).1
  obtain ⟨n1, n2⟩ := zij l 1 (lookX x f (eqW w)) hr
  obtain ⟨i1, i2⟩ := zgc hf ws (nextP l (lookX x f (eqW w)) 1) n1
  refine ⟨i1, fun d z => ?_⟩
  have hL : (w :: ws).length = ws.length + 1 := yab
  rw [ybC, i2 d z, n2, yav, look_word hf]
  have e1 : z - (ws.length : Int) - 1 = z - ((w :: ws).length : Int) := OM
  rw [decide_eq_true_eq, e1]
  constructor
  ·rintro ⟨⟨h1, h2⟩, h3⟩
   refine ⟨h2, fun i hi => ?_⟩
   cases i with
   | zero =>
    have e2 : z - ((w :: ws).length : Int) + 1 + ((0 : Nat) : Int) = z - (ws.length : Int) := OM
    rw [e2]; exact h1
   | succ i =>
    have := h3 i OM
    have e2 : z - ((w :: ws).length : Int) + 1 + ((i + 1 : Nat) : Int) = z - (ws.length : Int) + 1 + (i : Int) := OM
    rw [e2]; exact this
  rintro ⟨h1, h2⟩
  refine ⟨⟨?_, h1⟩, fun i hi => ?_⟩
  ·have := h2 0 (by simp)
   have e2 : z - ((w :: ws).length : Int) + 1 + ((0 : Nat) : Int) = z - (ws.length : Int) := OM
   rw [e2] at this; exact this
  have := h2 (i + 1) OM
  have e2 : z - ((w :: ws).length : Int) + 1 + ((i + 1 : Nat) : Int) = z - (ws.length : Int) + 1 + (i : Int) := OM
  rw [e2] at this; exact this
theorem zeS {x : Ix} {f : Int} (hf : f ≠ 0) {ws : List (List UInt8)} (hw : ws ≠ []) : zan (zdk x f ws) = true ∧ ∀ d z, z ∈ atD (zdk x f ws) d ↔ ∀ i (h : i < ws.length), z - ws.length + 1 + i ∈ pX x (f, ws[i]) d := by
 cases ws with
 | nil => exact absurd rfl hw
 | cons w ws =>
  obtain ⟨h1, h2⟩ := zgc hf ws (lookX x f (eqW w)) (zby x f (eqW w)).1
  refine ⟨h1, fun d z => (h2 d z).trans ?_⟩
  have hL : (w :: ws).length = ws.length + 1 := yab
  rw [look_word hf]
  constructor
  ·rintro ⟨h3, h4⟩ i hi
   cases i with
   | zero =>
    have e2 : z - ((w :: ws).length : Int) + 1 + ((0 : Nat) : Int) = z - (ws.length : Int) := OM
    rw [e2]; exact h3
   | succ i =>
    have := h4 i OM
    have e2 : z - ((w :: ws).length : Int) + 1 + ((i + 1 : Nat) : Int) = z - (ws.length : Int) + 1 + (i : Int) := OM
    rw [e2]; exact this
  intro h
  refine ⟨?_, fun i hi => ?_⟩
  ·have := h 0 (by simp)
   have e2 : z - ((w :: ws).length : Int) + 1 + ((0 : Nat) : Int) = z - (ws.length : Int) := OM
   rw [e2] at this; exact this
  have := h (i + 1) OM
  have e2 : z - ((w :: ws).length : Int) + 1 + ((i + 1 : Nat) : Int) = z - (ws.length : Int) + 1 + (i : Int) := OM
  rw [e2] at this; exact this
theorem zdI {l : List Pst} (h : zan l = true) (d : Int) : d ∈ l.map (·.doc) ↔ ∃ z, z ∈ atD l d := by
 rw [zhH h]
 constructor
 ·intro h; exact ybF _ h
 rintro ⟨z, hz⟩ e
 rw [e] at hz; cases hz
theorem zeR (x : Ix) (field : Int) {ws : List (List UInt8)} (hw : ws ≠ []) (d : Int) : d ∈ zbH x field ws ↔ ∃ f : Int, (1 ≤ f ∧ f ≤ 5) ∧ (field = 0 ∨ f = field) ∧ ∃ z : Int, ∀ (i : Nat) (h : i < ws.length), z + (i : Int) ∈ pX x (f, ws[i]) d := by
 unfold zbH
 rw [if_neg hw, show d ∈ sortI _ ↔ _ from zbd stoI _ _, ybl]
 have hf : ∀ f : Int, f ∈ [1, 2, 3, 4, 5] ↔ 1 ≤ f ∧ f ≤ 5 := fun f => by
  simp only [yah, yaS, or_false]; omega
 constructor
 ·rintro ⟨f, h1, h2⟩
  rw [hf] at h1
  split at h2
  ·cases h2
  rename_i hn
  obtain ⟨p1, p2⟩ := zeS (x := x) (f := f) OM hw
  obtain ⟨z, hz⟩ := (zdI p1 d).1 h2
  refine ⟨f, h1, ?_, z - ws.length + 1, (p2 d z).1 hz⟩
  by_cases h0 : field = 0
  ·exact .inl h0
  by_cases h3 : f = field
  ·exact .inr h3
  exact absurd ⟨h0, h3⟩ hn
 rintro ⟨f, h1, h2, z, hz⟩
 refine ⟨f, (hf f).2 h1, ?_⟩
 rw [if_neg (by rintro ⟨h3, h4⟩; rcases h2 with h2 | h2; exact h3 h2; exact h4 h2)]
 obtain ⟨p1, p2⟩ := zeS (x := x) (f := f) OM hw
 refine (zdI p1 d).2 ⟨z + ws.length - 1, (p2 d _).2 fun i hi => ?_⟩
 have e2 : z + (ws.length : Int) - 1 - (ws.length : Int) + 1 + (i : Int) = z + i := OM
 rw [e2]; exact hz i hi
theorem zjQ (x : Ix) (field : Int) (ws : List (List UInt8)) : AscB ltI (zbH x field ws) := by
 unfold zbH
 split
 ·exact .nil
 exact asc_sortD stoI _
theorem zjz (w : List UInt8) : ∀ (i : Nat) (l : List (List UInt8)) (n : Int), n ∈ posF w i l ↔ ∃ (j : Nat) (h : j < l.length), n = ((i + j : Nat) : Int) ∧ l[j] = w
 | i, [], n => ⟨(fun h => by cases h), (fun ⟨j, h, _⟩ => absurd h (Nat.not_lt_zero _))⟩
 | i, y :: l, n => by
  have ih := zjz w (i + 1) l n
  unfold posF
  constructor
  ·intro h
   split at h
   ·rename_i e
    rcases yah.1 h with h | h
    ·exact ⟨0, by simp, OM, e⟩
    obtain ⟨j, hj, e1, e2⟩ := ih.1 h
    exact ⟨j + 1, by simpa using hj, OM, e2⟩
   obtain ⟨j, hj, e1, e2⟩ := ih.1 h
   exact ⟨j + 1, by simpa using hj, OM, e2⟩
  rintro ⟨j, hj, e1, e2⟩
  cases j with
  | zero =>
   have e2 : y = w := e2
   rw [if_pos e2]
   exact yah.2 (.inl OM)
  | succ j =>
   have := ih.2 ⟨j, by simpa using hj, OM, e2⟩
   split
   ·exact yai _ this
   exact this
theorem places_tx (doc : Int) (tx : List (List UInt8)) (f : Int) (w : List UInt8) (d : Int) : placesE (entsX doc tx) (f, w) d = if d = doc ∧ 1 ≤ f ∧ f ≤ 5 then posF w 0 (wordsOf (tx.getD f.toNat [])) else [] := by
 unfold placesE entsX
 simp only [yao, ybQ, yaA]
 unfold partE
 dsimp only
 by_cases hd : d = doc
 ·by_cases h1 : f = 1
  ·subst h1; simp [hd]
  by_cases h2 : f = 2
  ·subst h2; simp [hd]
  by_cases h3 : f = 3
  ·subst h3; simp [hd]
  by_cases h4 : f = 4
  ·subst h4; simp [hd]
  by_cases h5 : f = 5
  ·subst h5; simp [hd]
  rw [if_neg (fun h => h1 h.2), if_neg (fun h => h2 h.2), if_neg (fun h => h3 h.2), if_neg (fun h => h4 h.2), if_neg (fun h => h5 h.2), if_neg OM]
  rfl
 rw [if_neg (fun h => hd h.1), if_neg (fun h => hd h.1), if_neg (fun h => hd h.1), if_neg (fun h => hd h.1), if_neg (fun h => hd h.1), if_neg (fun h => hd h.1)]
 rfl
theorem places_doc : ∀ {l : List LDoc}, (l.Pairwise fun a b => a.1 ≠ b.1) → ∀ {e : LDoc}, e ∈ l → ∀ k, placesE (entsL l) k e.1 = placesE (entsX e.1 e.2) k e.1
 | [], _, e, h, _ => by cases h
 | a :: l, hp, e, h, k => by
  obtain ⟨h1, h2⟩ := yam.1 hp
  rw [show entsL (a :: l) = entsX a.1 a.2 ++ entsL l from by unfold entsL; rw [List.flatMap_cons], zcU]
  rcases yah.1 h with rfl | h
  ·rw [zbz (es := entsL l) fun x hx => by
    obtain ⟨q, hq, e2⟩ := zje hx
    rw [← e2]; exact fun e3 => h1 q hq e3.symm]
   exact yaA _
  rw [zbz (es := entsX a.1 a.2) fun x hx => by rw [zcW hx]; exact h1 e h, places_doc h2 h k]
  rfl
theorem zjW {x : Ix} (hx : IxOk x) {k : Ky} {d z : Int} (h : z ∈ pX x k d) : liveX x d := by
 unfold pX at h
 split at h
 ·cases h
 rename_i hd
 refine ⟨?_, hd⟩
 by_cases hi : inX x.segs d
 ·exact hi
 rw [pL_out hx.rt hi] at h; cases h
def hasPh (tx : List (List UInt8)) (field : Int) (ws : List (List UInt8)) : Prop := ∃ f : Int, (1 ≤ f ∧ f ≤ 5) ∧ (field = 0 ∨ f = field) ∧ ∃ p : Nat, ∀ (i : Nat) (h : i < ws.length), (wordsOf (tx.getD f.toNat []))[p + i]? = some ws[i]
theorem zhf {p : Ix × List LDoc} (h : RunOk p) (field : Int) {ws : List (List UInt8)} (hw : ws ≠ []) {e : LDoc} (he : e ∈ p.2) : e.1 ∈ zbH p.1 field ws ↔ hasPh e.2 field ws := by
 have h0 : 0 < ws.length := yaN.2 hw
 rw [zeR p.1 field hw]
 have hp : ∀ (f : Int) (hf : 1 ≤ f ∧ f ≤ 5) (w : List UInt8) (z : Int), z ∈ pX p.1 (f, w) e.1 ↔ ∃ (j : Nat), z = (j : Int) ∧ (wordsOf (e.2.getD f.toNat []))[j]? = some w := fun f hf w z => by
  rw [h.pl, places_doc h.nd he, places_tx, if_pos ⟨rfl, hf.1, hf.2⟩, zjz]
  constructor
  ·rintro ⟨j, hj, e1, e2⟩
   exact ⟨j, OM, by rw [List.getElem?_eq_getElem hj, e2]⟩
  rintro ⟨j, e1, e2⟩
  obtain ⟨hj, e3⟩ := List.getElem?_eq_some_iff.1 e2
  exact ⟨j, hj, OM, e3⟩
 constructor
 ·rintro ⟨f, hf, hq, z, hz⟩
  obtain ⟨j, e1, e2⟩ := (hp f hf _ _).1 (hz 0 h0)
  refine ⟨f, hf, hq, j, fun i hi => ?_⟩
  obtain ⟨j2, e3, e4⟩ := (hp f hf _ _).1 (hz i hi)
  rw [show j + i = j2 from OM]
  exact e4
 rintro ⟨f, hf, hq, j, hj⟩
 exact ⟨f, hf, hq, j, fun i hi => (hp f hf _ _).2 ⟨j + i, OM, hj i hi⟩⟩
theorem phrase_none (tx : List (List UInt8)) (x : Ix) (field : Int) : zbH x field [] = [] := by unfold zbH; exact if_pos rfl
theorem zjR {x : Ix} (hx : IxOk x) {field : Int} {ws : List (List UInt8)} {d : Int} (h : d ∈ zbH x field ws) : d ∈ docsX x := by
 rw [zfr]
 by_cases hw : ws = []
 ·rw [hw, phrase_none []] at h; cases h
 obtain ⟨f, _, _, z, hz⟩ := (zeR x field hw d).1 h
 exact zjW hx (hz 0 (yaN.2 hw))
theorem znn {p : Ix × List LDoc} (h : RunOk p) {doc : Int} {tx : List (List UInt8)} (ht : ∀ t ∈ tx, t.length ≤ 1000000000) (hr : 1 ≤ doc ∧ doc ≤ 1099511627776) (hn : ∀ e ∈ p.2, e.1 ≠ doc) :
  (addX p.1 doc tx).1 = 0 ∧ RunOk ((addX p.1 doc tx).2, p.2 ++ [(doc, tx)]) := by
 have h0 : (addX p.1 doc tx).1 = 0 := by
  unfold addX
  rw [if_neg OM, if_neg fun e => ?_]
  obtain ⟨e, he, e1⟩ := (h.lv doc).1 (zbO.1 e)
  exact hn e he e1
 refine ⟨h0, ?_⟩
 have := zod h ⟨0, doc, tx, 0, [], []⟩ ht
 unfold runS at this
 rw [if_pos (.inl rfl)] at this
 dsimp only at this
 rw [if_pos h0] at this
 exact this
structure Sd (P : Nat) (s : Sgm) (n q : Nat) : Prop where
 b : Bd s n q q
 p : ∀ k d z, z ∈ pS s k d → z < (P : Int)
def WtS (P : Nat) : List Sgm → Nat → Nat → Prop
 | [], _, _ => True
 | s :: l, N, Q => ∃ n q m r, (n + m ≤ N ∧ q + r ≤ Q) ∧ Sd P s n q ∧ WtS P l m r
theorem Sd.mono {P : Nat} {s : Sgm} {n q n' q' : Nat} (h : Sd P s n q) (h1 : n ≤ n') (h2 : q ≤ q') : Sd P s n' q' := ⟨h.b.mono h1 h2 h2, h.p⟩
theorem Sd.two {P : Nat} {a b : Sgm} {n q n' q' : Nat} (h : Sd P a n q) (g : Sd P b n' q') (dl : List Int) : Sd P (twoS a b dl) (n + n') (q + q') :=
 ⟨zrM h.b g.b dl, fun k d z hz => by
  rw [znw] at hz
  split at hz
  ·cases hz
  rcases (mem_unI (zgH a k d) (zgH b k d) z).1 hz with hz | hz
  ·exact h.p k d z hz
  exact g.p k d z hz⟩
theorem Sd.nil (P : Nat) : Sd P ⟨[], []⟩ 0 0 := ⟨bd_nil 0 0 0, fun k d z hz => by rw [zrY] at hz; cases hz⟩
theorem WtS.mono {P : Nat} : ∀ {l : List Sgm} {N N' Q Q' : Nat}, WtS P l N Q → N ≤ N' → Q ≤ Q' → WtS P l N' Q'
 | [], _, _, _, _, _, _, _ => trivial
 | s :: l, N, N', Q, Q', ⟨n, q, m, r, h1, h2, h3⟩, h, g => ⟨n, q, m, r, OM, h2, h3⟩
theorem WtS.app {P : Nat} : ∀ {a b : List Sgm} {n m q r : Nat}, WtS P a n q → WtS P b m r → WtS P (a ++ b) (n + m) (q + r)
 | [], b, n, m, q, r, _, h => WtS.mono h OM OM
 | s :: a, b, n, m, q, r, ⟨n1, q1, m1, r1, h1, h2, h3⟩, h => ⟨n1, q1, m1 + m, r1 + r, OM, h2, WtS.app h3 h⟩
theorem WtS.split {P : Nat} : ∀ {a b : List Sgm} {N Q : Nat}, WtS P (a ++ b) N Q → ∃ n m q r, (n + m ≤ N ∧ q + r ≤ Q) ∧ WtS P a n q ∧ WtS P b m r
 | [], b, N, Q, h => ⟨0, N, 0, Q, OM, trivial, h⟩
 | s :: a, b, N, Q, ⟨n1, q1, m1, r1, h1, h2, h3⟩ => by
  obtain ⟨n, m, q, r, e, ha, hb⟩ := WtS.split h3
  exact ⟨n1 + n, m, q1 + q, r, OM, ⟨n1, q1, n, q, ⟨yag _, yag _⟩, h2, ha⟩, hb⟩
theorem WtS.full {P : Nat} : ∀ {l : List Sgm} {N Q : Nat}, WtS P l N Q → WtS P (fullL l) N Q
 | [], _, _, _ => trivial
 | s :: l, N, Q, ⟨n, q, m, r, h1, h2, h3⟩ => by
  unfold fullL
  rw [ybq]
  split
  ·exact ⟨n, q, m, r, h1, h2, WtS.full h3⟩
  exact WtS.mono (WtS.full h3) OM OM
theorem WtS.mem {P : Nat} : ∀ {l : List Sgm} {N Q : Nat}, WtS P l N Q → ∀ s ∈ l, Sd P s N Q
 | [], _, _, _, s, hs => by cases hs
 | a :: l, N, Q, ⟨n, q, m, r, h1, h2, h3⟩, s, hs => by
  rcases yah.1 hs with rfl | hs
  ·exact h2.mono OM OM
  exact (WtS.mem h3 s hs).mono OM OM
theorem WtS.docs {P : Nat} : ∀ {l : List Sgm} {N Q : Nat}, WtS P l N Q → docN l ≤ N
 | [], _, _, _ => yal _
 | a :: l, N, Q, ⟨n, q, m, r, h1, h2, h3⟩ => by
  rw [zeg]
  have := WtS.docs h3
  have := h2.b.d
  omega
theorem zmS {P : Nat} {x : Ix} {N Q i n : Nat} {s : Sgm} (h : WtS P x.segs N Q) (hs : ∀ m r, WtS P ((x.segs.drop i).take n) m r → WtS P [s] m r) : WtS P (replX x i n s).segs N Q := by
 have e : x.segs = x.segs.take i ++ ((x.segs.drop i).take n ++ x.segs.drop (i + n)) := by
  rw [show x.segs.drop (i + n) = (x.segs.drop i).drop n from by rw [yaM], yaB, yaB]
 rw [e] at h
 obtain ⟨n1, m1, q1, r1, e1, h1, h2⟩ := WtS.split h
 obtain ⟨n2, m2, q2, r2, e2, h3, h4⟩ := WtS.split h2
 unfold replX cleanX
 dsimp only
 have : WtS P (x.segs.take i ++ ([s] ++ x.segs.drop (i + n))) (n1 + (n2 + m2)) (q1 + (q2 + r2)) := WtS.app h1 (WtS.app (hs _ _ h3) h4)
 exact WtS.mono (WtS.full this) OM OM
theorem zrB {P : Nat} {x : Ix} {N Q i : Nat} (h : WtS P x.segs N Q) (hi : i < x.segs.length) (dl : List Int) : WtS P (replX x i 1 (twoS (x.segs.getD i ⟨[], []⟩) ⟨[], []⟩ dl)).segs N Q := by
 refine zmS h fun m r hm => ?_
 rw [yat hi, ybR] at hm
 obtain ⟨a, q, b, r2, h1, h2, _⟩ := hm
 rw [seg_at hi]
 exact ⟨a, q, b, r2, h1, (h2.two (Sd.nil P) dl).mono OM OM, trivial⟩
theorem ztM {P : Nat} {x : Ix} {N Q i : Nat} (h : WtS P x.segs N Q) (hi : i + 1 < x.segs.length) (dl : List Int) : WtS P (replX x i 2 (twoS (x.segs.getD i ⟨[], []⟩) (x.segs.getD (i + 1) ⟨[], []⟩) dl)).segs N Q := by
 refine zmS h fun m r hm => ?_
 rw [yat OM, ybR, yat hi, ybR] at hm
 obtain ⟨a, q, b, r2, h1, h2, c, q3, d, r3, h3, h4, _⟩ := hm
 rw [seg_at hi, seg_at (show i < x.segs.length by omega)]
 exact ⟨a + c, q + q3, d, r3, OM, h2.two h4 dl, trivial⟩
theorem zsY {P : Nat} {x : Ix} {N Q : Nat} (h : WtS P x.segs N Q) (doc : Int) : WtS P (readX x doc).segs N Q := by
 unfold readX
 cases hf : findX x.segs doc with
 | none => exact h
 | some i => exact zrB h (zdi hf).1 _
theorem zpH {P : Nat} {es : List Ent} (hk : Kept es) {L n : Nat} (hn : es.length ≤ n) (he : ∀ e ∈ es, e.text.length ≤ L) (hP : 2 * L + 1 ≤ P) (hL9 : L ≤ 1000000000) : Sd P (zcq es) n (n * (2 * L + 3)) := by
 have hB := built_E hk fun e h => by have := he e h; omega
 have hb := zqi hB hk hn (m := 2 * L + 1) fun e h => by have := he e h; omega
 refine ⟨hb.mono (yag _) (Nat.mul_le_mul_left _ OM) (yag _), fun k d z hz => ?_⟩
 have hz2 : z ∈ placesE es k d := by
  unfold pS at hz
  rwa [zbF hB.right, hB.posts] at hz
 obtain ⟨e, hem, _, _, e3, _⟩ := zbw hk k d (List.ne_nil_of_mem hz2)
 rw [e3] at hz2
 obtain ⟨j, hj, e4, _⟩ := (zjz k.2 0 (wordsOf e.text) z).1 hz2
 have h1 := zbn e.text
 have h2 := he e hem
 omega
theorem zqy {doc : Int} {tx : List (List UInt8)} {L : Nat} (ht : ∀ t ∈ tx, t.length ≤ L) : ∀ e ∈ entsX doc tx, e.text.length ≤ L := by
 have hg : ∀ i, (tx.getD i []).length ≤ L := fun i => by
  rw [List.getD_eq_getElem?_getD]
  cases hq : tx[i]? with
  | none => exact yal _
  | some t => exact ht t (List.mem_of_getElem? hq)
 intro e he
 unfold entsX at he
 simp only [yah, yaS, or_false] at he
 rcases he with rfl | rfl | rfl | rfl | rfl <;> exact hg _
theorem ztK {P : Nat} {x : Ix} {N Q : Nat} (h : WtS P x.segs N Q) {doc : Int} {tx : List (List UInt8)} {L : Nat} (ht : ∀ t ∈ tx, t.length ≤ L) (hL : 2 * L + 1 ≤ P) (hL9 : L ≤ 1000000000) : WtS P (addX x doc tx).2.segs (N + 5) (Q + 5 * (2 * L + 3)) := by
 unfold addX
 split
 ·exact WtS.mono h OM OM
 split
 ·exact WtS.mono h OM OM
 rename_i h1 h2
 have hk := (zdP OM OM (doc := doc) tx).2
 exact WtS.app (zsY h doc) ⟨5, 5 * (2 * L + 3), 0, 0, ⟨yag _, yag _⟩, zpH hk (yag _) (zqy ht) hL hL9, trivial⟩
theorem wt_drop {P : Nat} {x : Ix} {N Q : Nat} (h : WtS P x.segs N Q) (doc : Int) : WtS P (dropX x doc).2.segs N Q := by
 unfold dropX
 split <;> exact h
theorem zsP {P : Nat} {x : Ix} {N Q : Nat} (h : WtS P x.segs N Q) : WtS P (stepX x).2.segs N Q := by
 unfold stepX
 cases hp : pickL (x.segs.map fun s => (s.docs.length : Int)) with
 | some i =>
  have hi := zdG hp
  rw [yaf] at hi
  exact ztM h hi _
 | none =>
  dsimp only
  cases hf : x.segs.findIdx? (dueX x) with
  | some i => exact zrB h (List.findIdx?_eq_some_iff_getElem.1 hf).1 _
  | none => exact h
theorem zpk : ∀ (l : List Int) (a b : Int), AscB ltI l → (∀ z ∈ l, a ≤ z ∧ z < b) → (l.length : Int) ≤ max 0 (b - a)
 | [], a, b, _, _ => by simp only [yaE]; omega
 | n :: l, a, b, h, g => by
  unfold AscB at h
  obtain ⟨h1, h2⟩ := yam.1 h
  have := g n yae
  have ih := zpk l (n + 1) b h2 fun z hz => ⟨by have := of_decide_eq_true (h1 z hz); omega, (g z (yai _ hz)).2⟩
  rw [yab]; omega
theorem zsF {P N : Nat} {l : List Pst} (h : zan l = true) {ds : List Int} (hd : ∀ p ∈ l, p.doc ∈ ds) (hn : ds.length ≤ N) (hp : ∀ d z, z ∈ atD l d → z < (P : Int)) : l.length ≤ N ∧ ∀ p ∈ l, p.places.length ≤ P := by
 obtain ⟨h1, h2⟩ := zaw.1 h
 constructor
 ·have := zbr (l.map (·.doc)) ds (ybA.2 (h1.imp fun h => OM)) fun d hdm => by
   obtain ⟨p, hp, rfl⟩ := yay.1 hdm
   exact hd p hp
  rw [yaf] at this; omega
 intro p hpm
 obtain ⟨_, _, _, r4, r5⟩ := h2 p hpm
 have hat := zcX h1 hpm
 have := zpk p.places 0 P r4 fun z hz => ⟨(r5 z hz).1, hp p.doc z (by rw [hat]; exact hz)⟩
 omega
theorem pX_lt {P N Q : Nat} {x : Ix} (h : WtS P x.segs N Q) {k : Ky} {d z : Int} (hz : z ∈ pX x k d) : z < (P : Int) := by
 have : ∀ l : List Sgm, (∀ s ∈ l, ∀ k d z, z ∈ pS s k d → z < (P : Int)) → z ∈ pL l k d → z < (P : Int) := by
  intro l
  induction l with
  | nil => intro _ h; cases h
  | cons s l ih =>
   intro hs h
   rcases (mem_unI (zgH s k d) (zkx l k d) z).1 h with h | h
   ·exact hs s yae k d z h
   exact ih (fun t ht => hs t (yai _ ht)) h
 unfold pX at hz
 split at hz
 ·cases hz
 exact this x.segs (fun s hs => (h.mem s hs).p) hz
theorem zsf {l : List Pst} (h : zan l = true) {p : Pst} (hp : p ∈ l) : ∃ z, z ∈ atD l p.doc := (zdI h p.doc).1 (yay.2 ⟨p, hp, rfl⟩)
theorem zoN {P N Q : Nat} {x : Ix} (hx : IxOk x) (h : WtS P x.segs N Q) (f : Int) (q : List UInt8 → Bool) : (lookX x f q).length ≤ N ∧ ∀ p ∈ lookX x f q, p.places.length ≤ P := by
 obtain ⟨r1, s1⟩ := zby x f q
 have h3 := ziz hx
 have h2 := h.docs
 refine zsF r1 (ds := docsX x) (fun p hp => ?_) OM fun d z hz => ?_
 ·obtain ⟨z, hz⟩ := zsf r1 hp
  obtain ⟨k, _, hz⟩ := (s1 _ _).1 hz
  exact (zfr x _).2 (zjW hx hz)
 obtain ⟨k, _, hz⟩ := (s1 _ _).1 hz
 exact pX_lt h hz
theorem ziQ {x : Ix} (hx : IxOk x) : x.segs.length ≤ docN x.segs := by
 have : ∀ l : List Sgm, (∀ s ∈ l, s.docs ≠ []) → l.length ≤ docN l := by
  intro l
  induction l with
  | nil => intro _; exact yag _
  | cons s l ih =>
   intro h
   have h1 := ih fun t ht => h t (yai _ ht)
   have h2 := yaN.2 (h s yae)
   rw [zeg, yab]; omega
 exact this x.segs hx.ne
theorem zrV {P N Q : Nat} {x : Ix} (hx : IxOk x) (h : WtS P x.segs N Q) : x.segs.length ≤ N ∧ x.dead.length ≤ N ∧ sizeX x ≤ 2 * N ∧ (docsX x).length ≤ N := by
 have h1 := ziQ hx
 have h2 := h.docs
 have h3 := ziz hx
 unfold sizeX
 omega
def toN (l : List Int) : List Nat := l.map Int.toNat
theorem iL_toN {l : List Int} (h : ∀ n ∈ l, 0 ≤ n) : iL (toN l) = l := by
 unfold iL toN
 rw [ybe]
 conv => rhs; rw [← ybY l]
 refine List.map_congr_left fun n hn => ?_
 have := h n hn
 show ((n.toNat : Nat) : Int) = n
 omega
theorem zku : ∀ (l : List Nat) (r : List UInt8), (∀ n ∈ l, n < 2 ^ 63) → numsG l.length (some (l.flatMap numE ++ r)) = (l, some r)
 | [], r, _ => rfl
 | n :: l, r, h => by
  rw [yao, yap, yab]
  unfold numsG
  rw [numR_enc (h n yae)]
  simp only [zku l r fun x hx => h x (yai _ hx)]
theorem zcO (l : List Nat) : l.length ≤ (l.flatMap numE).length := by
 induction l with
 | nil => simp
 | cons n l ih => have := zca n; rw [yao, yaa, yab]; omega
theorem zkY (l : List Nat) (r : List UInt8) (h : ∀ n ∈ l, n < 2 ^ 63) (hl : l.length < 2 ^ 63) : numsR (some (numsE l ++ r)) = (l, some r) := by
 unfold numsR numsE
 rw [yap, numR_enc hl]
 dsimp only
 have := zcO l
 rw [if_neg (by rw [yaa]; omega), zku l r h]
def takeR (n : Nat) : St → List UInt8 × St
 | none => ([], none)
 | some u => if n ≤ u.length then (u.take n, some (u.drop n)) else ([], none)
def textR (s : St) : List UInt8 × St := takeR (numR s).1 (numR s).2
def textE (u : List UInt8) : List UInt8 := numE u.length ++ u
theorem zgi {u : List UInt8} (h : u.length < 2 ^ 63) (r : List UInt8) : textR (some (textE u ++ r)) = (u, some r) := by
 unfold textR textE
 rw [yap, numR_enc h]
 unfold takeR
 dsimp only
 rw [if_pos (by rw [yaa]; omega), yaZ, List.drop_left]
theorem zcN (u : List UInt8) : 0 < (textE u).length ∧ u.length < (textE u).length := by
 have := zca u.length
 unfold textE
 rw [yaa]; omega
def termE (t : Trm) : List UInt8 := numE t.field.toNat ++ (textE t.word ++ textE t.list)
def termR (s : St) : Trm × St := (⟨((numR s).1 : Nat), (textR (numR s).2).1, (textR (textR (numR s).2).2).1⟩, (textR (textR (numR s).2).2).2)
theorem zpw {t : Trm} (hf : 0 ≤ t.field ∧ t.field < 2 ^ 63) (hw : t.word.length < 2 ^ 63) (hl : t.list.length < 2 ^ 63) (r : List UInt8) : termR (some (termE t ++ r)) = (t, some r) := by
 unfold termR termE
 rw [yap, yap, numR_enc OM]
 dsimp only
 rw [zgi hw]
 dsimp only
 rw [zgi hl, Int.toNat_of_nonneg hf.1]
def termsR : Nat → St → List Trm × St
 | 0, s => ([], s)
 | n + 1, s => if stL s = 0 then ([], s) else ((termR s).1 :: (termsR n (termR s).2).1, (termsR n (termR s).2).2)
theorem zfu (t : Trm) : 0 < (termE t).length := by
 have := zca t.field.toNat
 unfold termE
 rw [yaa]; omega
theorem zgV : ∀ (l : List Trm) (r : List UInt8), (∀ t ∈ l, (0 ≤ t.field ∧ t.field < 2 ^ 63) ∧ t.word.length < 2 ^ 63 ∧ t.list.length < 2 ^ 63) → termsR l.length (some (l.flatMap termE ++ r)) = (l, some r)
 | [], r, _ => rfl
 | t :: l, r, h => by
  obtain ⟨h1, h2, h3⟩ := h t yae
  have := zfu t
  rw [yao, yap, yab]
  unfold termsR
  rw [if_neg (by show (termE t ++ (l.flatMap termE ++ r)).length ≠ 0; rw [yaa]; omega), zpw h1 h2 h3, zgV l r fun x hx => h x (yai _ hx)]
def serS (s : Sgm) : List UInt8 := if rightS s = true then numsE (toN s.docs) ++ (numE s.terms.length ++ s.terms.flatMap termE) else []
def parS (b : List UInt8) : Sgm × St := (⟨(termsR (numR (numsR (some b)).2).1 (numR (numsR (some b)).2).2).1, iL (numsR (some b)).1⟩, (termsR (numR (numsR (some b)).2).1 (numR (numsR (some b)).2).2).2)
def readS (b : List UInt8) : Option Sgm := if (parS b).2 = some [] ∧ rightS (parS b).1 = true ∧ serS (parS b).1 = b then some (parS b).1 else none
theorem zbU {α : Type} (f : α → List UInt8) : ∀ (l : List α), ∀ x ∈ l, (f x).length ≤ (l.flatMap f).length
 | [], x, h => by cases h
 | a :: l, x, h => by
  rw [yao, yaa]
  rcases yah.1 h with rfl | h
  ·omega
  have := zbU f l x h; omega
theorem zdT {α : Type} (f : α → List UInt8) (hf : ∀ x, 0 < (f x).length) : ∀ (l : List α), l.length ≤ (l.flatMap f).length
 | [] => yal _
 | a :: l => by
  have := zdT f hf l
  have := hf a
  rw [yao, yaa, yab]; omega
theorem zoc {s : Sgm} (h : rightS s = true) (hb : (serS s).length < 2 ^ 63) : (toN s.docs).length < 2 ^ 63 ∧ s.terms.length < 2 ^ 63 ∧ (∀ n ∈ toN s.docs, n < 2 ^ 63) ∧ ∀ t ∈ s.terms, (0 ≤ t.field ∧ t.field < 2 ^ 63) ∧ t.word.length < 2 ^ 63 ∧ t.list.length < 2 ^ 63 := by
 obtain ⟨⟨_, hd⟩, ht, _⟩ := zah.1 h
 unfold serS at hb
 rw [if_pos h] at hb
 unfold numsE at hb
 simp only [yaa] at hb
 have h1 := zcO (toN s.docs)
 have h2 := zdT termE zfu s.terms
 refine ⟨OM, OM, fun n hn => ?_, fun t htm => ?_⟩
 ·unfold toN at hn
  obtain ⟨d, hdm, rfl⟩ := yay.1 hn
  have := hd d hdm
  omega
 have h3 := zbU termE s.terms t htm
 have hk := ht t htm
 unfold zax at hk
 simp only [yaq, decide_eq_true_eq] at hk
 have h4 : (termE t).length = (numE t.field.toNat).length + ((textE t.word).length + (textE t.list).length) := by unfold termE; rw [List.length_append, List.length_append]
 have h5 := zcN t.word
 have h6 := zcN t.list
 exact ⟨⟨OM, OM⟩, OM, OM⟩
theorem docs_nat {s : Sgm} (h : rightS s = true) : iL (toN s.docs) = s.docs := iL_toN fun n hn => by have := (zah.1 h).1.2 n hn; omega
theorem znB {s : Sgm} (h : rightS s = true) (hb : (serS s).length < 2 ^ 63) : parS (serS s) = (s, some []) ∧ (numR (numsR (some (serS s))).2).1 = s.terms.length := by
 obtain ⟨h1, h2, h3, h4⟩ := zoc h hb
 have e1 : numsR (some (serS s)) = (toN s.docs, some (numE s.terms.length ++ s.terms.flatMap termE)) := by
  unfold serS
  rw [if_pos h]
  exact zkY _ _ h3 h1
 have e2 : numR (some (numE s.terms.length ++ s.terms.flatMap termE)) = (s.terms.length, some (s.terms.flatMap termE)) := numR_enc h2 _
 have e3 := zgV s.terms [] h4
 rw [yaA] at e3
 constructor
 ·unfold parS
  rw [e1]
  dsimp only
  rw [e2]
  dsimp only
  rw [e3, docs_nat h]
 rw [e1]
 dsimp only
 rw [e2]
theorem zfo {b : List UInt8} (hb : b.length < 2 ^ 63) {s : Sgm} : readS b = some s ↔ rightS s = true ∧ serS s = b := by
 unfold readS
 constructor
 ·intro h
  split at h
  ·rename_i hc
   injection h with h
   rw [← h]; exact ⟨hc.2.1, hc.2.2⟩
  cases h
 rintro ⟨h1, rfl⟩
 rw [(znB h1 hb).1, if_pos ⟨rfl, h1, rfl⟩]
theorem zkJ (u : List UInt8) (k : Nat) : (str u).extract 0 k = str (u.take k) := by
 apply ByteArray.ext
 simp [str]
theorem zcm (u v : List UInt8) : str u ++ str v = str (u ++ v) := by
 apply ByteArray.ext
 simp [str]
section
variable {w : World} {b : Nat}
theorem ztw (s : St) (n : Nat) (h : VarK w b 139 (rdC s)) (hn : n < 2 ^ 63) (hs : ∀ u, s = some u → u.length ≤ 140737488355328) :
  Calls Tryz.prog 117 #[.pointer (some ⟨b, 0, none⟩), .int .i64 (n : Nat)] w fun e w' => e = .returned (.string (str (takeR n s).1)) ∧ VarK w' b 139 (rdC (takeR n s).2) ∧ Kp w w' (one_ b) := by
 have qw := Yb w n_
 cases s with
 | none =>
  have h0 := h
  unfold rdC at h
  have ha := h.at
  refine zaa (args := [.pointer (some ⟨b, 0, none⟩), .int .i64 (n : Nat)]) Tryz.func117 rfl NL ?_; refine GW ?_
  have hz : (⟨#[]⟩ : ByteArray).size = 0 := rfl
  by_cases hn0 : n = 0
  ·subst hn0
   refine KGO ?_
   refine Ya (Tryz.call115 _ _) (zbE none h0) ?_
   rintro e w1 ⟨rfl, h1, k1⟩
   refine RT ?_
   refine KGO ?_
   exact ⟨rfl, h1, k1⟩
  refine KGO ?_
  refine Ya (Tryz.call115 _ _) (zbE none h0) ?_
  rintro e w1 ⟨rfl, h1, k1⟩
  refine RT ?_
  refine KGO ?_
  exact ⟨rfl, h1, k1⟩
 | some u =>
  have h0 := h
  have hu := hs u rfl
  unfold rdC at h
  dsimp only at h
  have ha := h.at
  have hz : (str u).size = u.length := rfl
  refine zaa (args := [.pointer (some ⟨b, 0, none⟩), .int .i64 (n : Nat)]) Tryz.func117 rfl NL ?_; refine GW ?_
  by_cases hle : n ≤ u.length
  ·have e : takeR n (some u) = (u.take n, some (u.drop n)) := if_pos hle
   rw [e]
   refine KGO ?_
   rw [zkJ]
   refine KGO ?_
   rw [hz, zbc]
   refine Yd (i := 0) h (by simp) (by rfl) ⟨rfl, by simp, by simp⟩ fun w1 v1 k1 => ?_
   refine KGO ?_
   exact ⟨rfl, v1, k1⟩
  have e : takeR n (some u) = ([], none) := if_neg hle
  rw [e]
  refine KGO ?_
  refine Ya (Tryz.call115 _ _) (zbE (some u) h0) ?_
  rintro e w1 ⟨rfl, h1, k1⟩
  refine RT ?_
  refine KGO ?_
  exact ⟨rfl, h1, k1⟩
theorem zpB (n : Nat) (s : St) : (takeR n s).1.length ≤ stL s ∧ stL (takeR n s).2 ≤ stL s := by
 cases s with
 | none => exact ⟨yal _, yag _⟩
 | some u =>
  unfold takeR
  dsimp only
  split
  ·simp only [stL, yar, yau]; omega
  exact ⟨yal _, yal _⟩
theorem zkS (s : St) : (textR s).1.length ≤ stL s ∧ stL (textR s).2 ≤ stL s := by
 have h1 := zpB (numR s).1 (numR s).2
 have h2 := zbs s
 unfold textR
 omega
theorem zhx (s : St) (h : VarK w b 139 (rdC s)) (hs : ∀ u, s = some u → u.length ≤ 140737488355328) :
  Calls Tryz.prog 54 #[.pointer (some ⟨b, 0, none⟩)] w fun e w' => e = .returned (.string (str (textR s).1)) ∧ VarK w' b 139 (rdC (textR s).2) ∧ Kp w w' (one_ b) := by
 refine zaa (args := [.pointer (some ⟨b, 0, none⟩)]) Tryz.func54 rfl NL ?_; refine GW ?_
 refine Ya (Tryz.call51 _ _) (zcx s h hs) ?_
 rintro e w1 ⟨rfl, h1, k1⟩
 refine RT ?_
 have hu : ∀ u, (numR s).2 = some u → u.length ≤ 140737488355328 := fun u e => by
  have h3 := zbs s
  rw [e] at h3
  cases s with
  | none => simp only [stL] at h3; omega
  | some v => have := hs v rfl; simp only [stL] at *; omega
 refine Ya (Tryz.call117 _ _) (ztw (numR s).2 (numR s).1 h1 (zaW s) hu) ?_
 rintro e w2 ⟨rfl, h2, k2⟩
 refine RT ?_
 exact ⟨rfl, h2, k1.trans' k2⟩
theorem zhu (u : List UInt8) (hu : u.length ≤ 1000000000000) : Calls Tryz.prog 68 #[.string (str u)] w fun e w' => e = .returned (.string (str (textE u))) ∧ Kp w w' n_ := by
 have hz : (str u).size = u.length := rfl
 have hl := zap (n := u.length) OM
 have hz2 : (str (numE u.length)).size = (numE u.length).length := rfl
 refine zaa (args := [.string (str u)]) Tryz.func68 rfl NL ?_; refine GW ?_
 rw [hz]
 refine Ya (Tryz.call67 _ _) (zfU (w := w) u.length OM) ?_
 rintro e w1 ⟨rfl, k1⟩
 refine RT ?_
 refine Ym OM ?_
 rw [zcm]
 refine KGO ?_
 exact ⟨rfl, k1⟩
end
end Go.Proofs.YtennokckmjcefaaGreatDoor
