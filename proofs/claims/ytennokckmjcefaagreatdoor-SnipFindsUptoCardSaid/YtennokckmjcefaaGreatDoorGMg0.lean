/- Helper lemmas that the proved statement rests on; no conditions of their own. -/
import Derived.Test.YtennokckmjcefaaGreatDoorGMapG
set_option linter.unusedVariables false
set_option maxRecDepth 100000
namespace Go.Mg
open Go.Cs Go.Lib Go.Cd
structure Pst where
 doc : Int
 places : List Int
deriving DecidableEq, Inhabited
theorem zeF {n : Nat} (h : n < 2 ^ 63) (r : List UInt8) : numR (some (numE n ++ r)) = (n, some r) := by
 show (match numD 9 false (numE n ++ r) with | none => ((0 : Nat), (none : St)) | some (n, r) => (n, some r)) = _
 simp only [zgE h]
def risesB : Int → List Int → Bool
 | _, [] => true
 | low, n :: l => decide (low ≤ n ∧ n ≤ 1099511627776) && risesB (n + 1) l
theorem risesB_iff : ∀ (l : List Int) (low : Int), risesB low l = true ↔ AscB ltI l ∧ ∀ n ∈ l, low ≤ n ∧ n ≤ 1099511627776
 | [], low => by simp [risesB, AscB]
 | n :: l, low => by
  rw [risesB, Bool.and_eq_true, decide_eq_true_eq, risesB_iff l (n + 1)]
  unfold AscB
  rw [List.pairwise_cons]
  constructor
  ·rintro ⟨⟨h1, h2⟩, h3, h4⟩
   refine ⟨⟨fun a ha => ?_, h3⟩, fun m hm => ?_⟩
   ·have := h4 a ha; simp only [ltI, decide_eq_true_eq]; omega
   ·rcases List.mem_cons.1 hm with rfl | hm
    ·exact ⟨h1, h2⟩
    ·have := h4 m hm; omega
  ·rintro ⟨⟨h1, h2⟩, h3⟩
   refine ⟨h3 n List.mem_cons_self, h2, fun m hm => ?_⟩
   have a := h1 m hm
   have b := h3 m (List.mem_cons_of_mem _ hm)
   simp only [ltI, decide_eq_true_eq] at a; omega
theorem zdP : ∀ (l : List Int) (low : Int), risesB low l = true → low ≤ 1099511627777 → (l.length : Int) ≤ 1099511627777 - low
 | [], low, _, h => by simp only [List.length_nil]; omega
 | n :: l, low, h, _ => by
  rw [risesB, Bool.and_eq_true, decide_eq_true_eq] at h
  have := zdP l (n + 1) h.2 (by omega)
  simp only [List.length_cons]; omega
def okPl (p : Pst) : Bool := !p.places.isEmpty && risesB 0 p.places
def rightP (l : List Pst) : Bool := l.all okPl && risesB 1 (l.map (·.doc))
theorem zbN {l : List Pst} : rightP l = true ↔ (∀ p ∈ l, p.places ≠ [] ∧ risesB 0 p.places = true) ∧ risesB 1 (l.map (·.doc)) = true := by
 unfold rightP okPl
 simp
def difs : Int → List Int → List Nat
 | _, [] => []
 | at_, n :: l => (n - at_).toNat :: difs n l
def encN : Int → List Pst → List Nat
 | _, [] => []
 | d, p :: l => (p.doc - d).toNat :: p.places.length :: (difs 0 p.places ++ encN p.doc l)
def encP (l : List Pst) : List UInt8 := if rightP l = true then numE l.length ++ (encN 0 l).flatMap numE else []
def stL : St → Nat
 | none => 0
 | some u => u.length
def stepN (n b : Nat) : Nat := if 1099511627776 < b then 1099511627777 else min (n + b) 1099511627777
def dPl : Nat → Nat → St → List Int × St
 | 0, _, s => ([], s)
 | k + 1, a, s => if stL s = 0 then ([], s) else
  (((stepN a (numR s).1 : Nat) : Int) :: (dPl k (stepN a (numR s).1) (numR s).2).1, (dPl k (stepN a (numR s).1) (numR s).2).2)
def dDoc : Nat → Nat → St → List Pst × St
 | 0, _, s => ([], s)
 | k + 1, d, s => if stL s = 0 then ([], s) else
  (⟨((stepN d (numR s).1 : Nat) : Int), (dPl (numR (numR s).2).1 0 (numR (numR s).2).2).1⟩ :: (dDoc k (stepN d (numR s).1) (dPl (numR (numR s).2).1 0 (numR (numR s).2).2).2).1,
   (dDoc k (stepN d (numR s).1) (dPl (numR (numR s).2).1 0 (numR (numR s).2).2).2).2)
def decL (s : List UInt8) : List Pst × St := dDoc (numR (some s)).1 0 (numR (some s)).2
def decP (s : List UInt8) : Option (List Pst) := if (decL s).2 = some [] ∧ encP (decL s).1 = s then some (decL s).1 else none
theorem ziZ {a : Nat} {n : Int} (h1 : (a : Int) ≤ n) (h2 : n ≤ 1099511627776) : stepN a (n - a).toNat = n.toNat := by
 unfold stepN
 rw [if_neg (by omega)]
 omega
theorem zlw (n : Nat) (r : List UInt8) : stL (some (numE n ++ r)) ≠ 0 := by
 have := zdA n
 simp only [stL, List.length_append]; omega
theorem zmm : ∀ (l : List Int) (a : Nat) (low : Int) (r : List UInt8), risesB low l = true → (a : Int) ≤ low → dPl l.length a (some ((difs a l).flatMap numE ++ r)) = (l, some r)
 | [], a, low, r, _, _ => rfl
 | n :: l, a, low, r, h, ha => by
  rw [risesB, Bool.and_eq_true, decide_eq_true_eq] at h
  obtain ⟨⟨h1, h2⟩, h3⟩ := h
  have e : ((n.toNat : Nat) : Int) = n := by omega
  have ih := zmm l n.toNat (n + 1) r h3 (by omega)
  rw [e] at ih
  rw [difs, List.flatMap_cons, List.append_assoc, List.length_cons, dPl, if_neg (zlw _ _), zeF (by omega)]
  dsimp only
  rw [ziZ (by omega) h2, ih, e]
theorem zjz : ∀ (l : List Pst) (d : Nat) (low : Int) (r : List UInt8), (∀ p ∈ l, risesB 0 p.places = true) → risesB low (l.map (·.doc)) = true → (d : Int) ≤ low → dDoc l.length d (some ((encN d l).flatMap numE ++ r)) = (l, some r)
 | [], d, low, r, _, _, _ => rfl
 | p :: l, d, low, r, hp, h, hd => by
  rw [List.map_cons, risesB, Bool.and_eq_true, decide_eq_true_eq] at h
  obtain ⟨⟨h1, h2⟩, h3⟩ := h
  have hp1 := hp p List.mem_cons_self
  have hl := zdP _ _ hp1 (by omega)
  have e : ((p.doc.toNat : Nat) : Int) = p.doc := by omega
  have ih := zjz l p.doc.toNat (p.doc + 1) r (fun q hq => hp q (List.mem_cons_of_mem _ hq)) h3 (by omega)
  rw [e] at ih
  have h0 := zmm p.places 0 0 ((encN p.doc l).flatMap numE ++ r) hp1 (by omega)
  rw [encN, List.flatMap_cons, List.flatMap_cons, List.flatMap_append, List.append_assoc, List.append_assoc, List.append_assoc, List.length_cons, dDoc, if_neg (zlw _ _), zeF (by omega)]
  dsimp only
  rw [zeF (by omega)]
  dsimp only
  rw [show (0 : Int) = ((0 : Nat) : Int) from rfl, h0]
  dsimp only
  rw [ziZ (by omega) h2, ih, e]
theorem zcK {l : List Pst} (h : rightP l = true) : encP l = numE l.length ++ (encN 0 l).flatMap numE := if_pos h
theorem zbL {l : List Int} {low low' : Int} (h : risesB low l = true) (hl : low' ≤ low) : risesB low' l = true := by
 rw [risesB_iff] at h ⊢
 exact ⟨h.1, fun n hn => by have := h.2 n hn; omega⟩
theorem zga : ∀ (l : List Int) (a : Int), risesB a l = true → 0 ≤ a → ∀ n ∈ difs a l, n ≤ 1099511627776
 | [], a, _, _, n, h => by cases h
 | x :: l, a, hr, ha, n, h => by
  rw [risesB, Bool.and_eq_true, decide_eq_true_eq] at hr
  rcases List.mem_cons.1 h with rfl | h
  ·omega
  ·exact zga l x (zbL hr.2 (by omega)) (by omega) n h
theorem zdH : ∀ (l : List Int) (a : Int), (difs a l).length = l.length
 | [], _ => rfl
 | x :: l, a => by rw [difs, List.length_cons, zdH l x, List.length_cons]
theorem zfT : ∀ (l : List Pst) (d : Int), (∀ p ∈ l, risesB 0 p.places = true) → risesB d (l.map (·.doc)) = true → 0 ≤ d → ∀ n ∈ encN d l, n ≤ 1099511627777
 | [], d, _, _, _, n, h => by cases h
 | p :: l, d, hp, hr, hd, n, h => by
  rw [List.map_cons, risesB, Bool.and_eq_true, decide_eq_true_eq] at hr
  have hp1 := hp p List.mem_cons_self
  have hl := zdP _ _ hp1 (by omega)
  rw [encN] at h
  rcases List.mem_cons.1 h with rfl | h
  ·omega
  rcases List.mem_cons.1 h with rfl | h
  ·omega
  rcases List.mem_append.1 h with h | h
  ·have := zga _ _ hp1 (by omega) n h; omega
  ·exact zfT l p.doc (fun q hq => hp q (List.mem_cons_of_mem _ hq)) (zbL hr.2 (by omega)) (by omega) n h
theorem zdG : ∀ (l : List Pst) (d : Int), (encN d l).length = (encN 0 l).length
 | [], _ => rfl
 | p :: l, d => by rw [encN, encN, List.length_cons, List.length_cons, List.length_append, List.length_cons, List.length_cons, List.length_append]
theorem zfD : ∀ (l : List Pst) (p : Pst), (encN 0 (l ++ [p])).length = (encN 0 l).length + 2 + p.places.length
 | [], p => by simp [encN, zdH]; omega
 | q :: l, p => by
  rw [List.cons_append, encN, encN, List.length_cons, List.length_cons, List.length_append, zdG (l ++ [p]), zfD l p, List.length_cons, List.length_cons, List.length_append, zdG l q.doc]; omega
theorem zbq : ∀ (l : List Pst) (p : Pst), p ∈ l → p.places.length ≤ (encN 0 l).length
 | q :: l, p, h => by
  rw [encN, List.length_cons, List.length_cons, List.length_append, zdH, zdG l]
  rcases List.mem_cons.1 h with rfl | h
  ·omega
  ·have := zbq l p h; omega
theorem zbF : ∀ l : List Pst, 2 * l.length ≤ (encN 0 l).length
 | [] => by simp
 | q :: l => by
  have := zbF l
  have e := zdG l q.doc
  simp only [encN, List.length_cons, List.length_append]; omega
theorem zgV {l : List Pst} (h : rightP l = true) : l.length ≤ 1099511627776 := by
 have := zdP _ _ (zbN.1 h).2 (by omega)
 rw [List.length_map] at this; omega
theorem zeL (l : List Nat) (h : ∀ n ∈ l, n < 2 ^ 63) : (l.flatMap numE).length ≤ 9 * l.length := by
 induction l with
 | nil => simp
 | cons n l ih =>
  have h1 := zbx (h n List.mem_cons_self)
  have h2 := ih fun m hm => h m (List.mem_cons_of_mem _ hm)
  simp only [List.flatMap_cons, List.length_append, List.length_cons]; omega
theorem zdk (l : List Pst) : (encP l).length ≤ 9 + 9 * (encN 0 l).length := by
 unfold encP
 split
 ·rename_i h
  have h1 := zbN.1 h
  have h2 := zeL (encN 0 l) fun n hn => by have := zfT l 0 (fun p hp => (h1.1 p hp).2) (zbL h1.2 (by omega)) (by omega) n hn; omega
  have h3 := zgV h
  have h4 := zbx (show l.length < 2 ^ 63 by omega)
  rw [List.length_append]; omega
 ·simp
theorem zoD {l : List Pst} (h : rightP l = true) : decL (encP l) = (l, some []) := by
 obtain ⟨h1, h2⟩ := zbN.1 h
 have hl := zgV h
 have := zjz l 0 1 [] (fun p hp => (h1 p hp).2) h2 (by omega)
 rw [List.append_nil] at this
 unfold decL
 rw [zcK h, zeF (by omega)]
 exact this
theorem zdS {l : List Pst} (h : rightP l = true) : decP (encP l) = some l := by
 unfold decP
 rw [zoD h, if_pos ⟨rfl, rfl⟩]
theorem zoT : decL [] = ([], none) := rfl
theorem zcM {s : List UInt8} {l : List Pst} : decP s = some l ↔ rightP l = true ∧ encP l = s := by
 constructor
 ·intro h
  unfold decP at h
  split at h
  ·rename_i hc
   injection h with h; subst h
   refine ⟨?_, hc.2⟩
   cases hr : rightP (decL s).1 with
   | true => rfl
   | false =>
    have h1 := hc.2
    unfold encP at h1
    rw [hr, if_neg (by decide)] at h1
    have h2 := hc.1
    rw [← h1, zoT] at h2; cases h2
  ·cases h
 ·rintro ⟨h, rfl⟩; exact zdS h
section
variable {α : Type} (c : α → α → Int)
def bothA (a : α) (f : List α → List (Option α × Option α)) : List α → List (Option α × Option α)
 | [] => (some a, none) :: f []
 | b :: bs => if c a b < 0 then (some a, none) :: f (b :: bs) else if c a b = 0 then (some a, some b) :: f bs else (none, some b) :: bothA a f bs
def bothL : List α → List α → List (Option α × Option α)
 | [], bs => bs.map fun b => (none, some b)
 | a :: aas, bs => bothA c a (bothL aas) bs
theorem zaV (aas : List α) : bothL c aas [] = aas.map fun a => (some a, none) := by
 induction aas with
 | nil => rfl
 | cons a aas ih => show (some a, none) :: bothL c aas [] = _; rw [ih]; rfl
theorem zbe (a b : α) (aas bs : List α) : bothL c (a :: aas) (b :: bs) = if c a b < 0 then (some a, none) :: bothL c aas (b :: bs) else if c a b = 0 then (some a, some b) :: bothL c aas bs else (none, some b) :: bothL c (a :: aas) bs := rfl
end
section
variable {α : Type} (c : α → α → Int)
theorem zgo (a : α) (aas : List α) (f : List α → List (Option α × Option α)) (hf : ∀ bs, ∀ p ∈ f bs, (p.1 ≠ none ∨ p.2 ≠ none) ∧ (∀ x, p.1 = some x → x ∈ aas) ∧ ∀ y, p.2 = some y → y ∈ bs) (hl : ∀ bs, (f bs).length ≤ aas.length + bs.length) :
  ∀ bs, (∀ p ∈ bothA c a f bs, (p.1 ≠ none ∨ p.2 ≠ none) ∧ (∀ x, p.1 = some x → x ∈ a :: aas) ∧ ∀ y, p.2 = some y → y ∈ bs) ∧ (bothA c a f bs).length ≤ aas.length + 1 + bs.length
 | [] => by
  constructor
  ·intro p hp
   rcases List.mem_cons.1 hp with rfl | hp
   ·exact ⟨.inl (by simp), fun x e => by injection e with e; subst e; exact List.mem_cons_self, fun y e => by cases e⟩
   ·obtain ⟨h1, h2, h3⟩ := hf _ p hp
    exact ⟨h1, fun x e => List.mem_cons_of_mem _ (h2 x e), h3⟩
  ·have := hl []
   simp only [bothA, List.length_cons]; simp only [List.length_nil] at *; omega
 | b :: bs => by
  have ih := zgo a aas f hf hl bs
  have hlb := hl (b :: bs)
  have hlb2 := hl bs
  unfold bothA
  constructor
  ·intro p hp
   split at hp
   ·rcases List.mem_cons.1 hp with rfl | hp
    ·exact ⟨.inl (by simp), fun x e => by injection e with e; subst e; exact List.mem_cons_self, fun y e => by cases e⟩
    ·obtain ⟨h1, h2, h3⟩ := hf _ p hp
     exact ⟨h1, fun x e => List.mem_cons_of_mem _ (h2 x e), h3⟩
   ·split at hp
    ·rcases List.mem_cons.1 hp with rfl | hp
     ·exact ⟨.inl (by simp), fun x e => by injection e with e; subst e; exact List.mem_cons_self, fun y e => by injection e with e; subst e; exact List.mem_cons_self⟩
     ·obtain ⟨h1, h2, h3⟩ := hf _ p hp
      exact ⟨h1, fun x e => List.mem_cons_of_mem _ (h2 x e), fun y e => List.mem_cons_of_mem _ (h3 y e)⟩
    ·rcases List.mem_cons.1 hp with rfl | hp
     ·exact ⟨.inr (by simp), fun x e => (by cases e), fun y e => by injection e with e; subst e; exact List.mem_cons_self⟩
     ·obtain ⟨h1, h2, h3⟩ := ih.1 p hp
      exact ⟨h1, h2, fun y e => List.mem_cons_of_mem _ (h3 y e)⟩
  ·split
   ·simp only [List.length_cons] at *; omega
   ·split
    ·simp only [List.length_cons] at *; omega
    ·have := ih.2; simp only [List.length_cons] at *; omega
theorem zaO : ∀ (aas bs : List α), (∀ p ∈ bothL c aas bs, (p.1 ≠ none ∨ p.2 ≠ none) ∧ (∀ x, p.1 = some x → x ∈ aas) ∧ ∀ y, p.2 = some y → y ∈ bs) ∧ (bothL c aas bs).length ≤ aas.length + bs.length
 | [], bs => by
  refine ⟨fun p hp => ?_, by simp [bothL]⟩
  obtain ⟨b, hb, rfl⟩ := List.mem_map.1 hp
  exact ⟨.inr (by simp), fun x e => (by cases e), fun y e => by injection e with e; subst e; exact hb⟩
 | a :: aas, bs => by
  have := zgo c a aas (bothL c aas) (fun bs => (zaO aas bs).1) (fun bs => (zaO aas bs).2) bs
  exact ⟨this.1, by have := this.2; rw [List.length_cons]; exact this⟩
theorem zeQ {β : Type} (f : β → α) : ∀ (aas bs : List β), bothL c (aas.map f) (bs.map f) = (bothL (fun x y => c (f x) (f y)) aas bs).map fun p => (p.1.map f, p.2.map f)
 | [], bs => by simp [bothL, List.map_map]
 | a :: aas, bs => by
  have ih := zeQ f aas
  induction bs with
  | nil => rw [List.map_nil, zaV, zaV, List.map_map, List.map_map]; rfl
  | cons b bs ihb =>
   rw [List.map_cons, List.map_cons, zbe, zbe]
   split
   ·rw [List.map_cons, ← ih]; rfl
   ·split
    ·rw [List.map_cons, ← ih]; rfl
    ·rw [List.map_cons, ← ihb]; rfl
end
def cmpI (x y : Int) : Int := if x < y then -1 else if y < x then 1 else 0
def fstO (p : Option Int × Option Int) : Int := p.1.getD (p.2.getD 0)
def unI (x y : List Int) : List Int := (bothL cmpI x y).map fstO
def orO : Option Pst × Option Pst → Pst
 | (some x, some y) => ⟨x.doc, unI x.places y.places⟩
 | (some x, none) => x
 | (none, some y) => y
 | (none, none) => default
def cmpD (x y : Pst) : Int := cmpI x.doc y.doc
def orP (a b : List Pst) : List Pst := (bothL cmpD a b).map orO
theorem zcA (x : List Int) : unI x [] = x := by
 unfold unI; rw [zaV, List.map_map]
 conv => rhs; rw [← List.map_id x]
 rfl
theorem zdm (x : List Int) : unI [] x = x := by
 show (x.map fun b => (none, some b)).map fstO = x
 rw [List.map_map]
 conv => rhs; rw [← List.map_id x]
 rfl
theorem zjM (a b : Int) (x y : List Int) : unI (a :: x) (b :: y) = if a < b then a :: unI x (b :: y) else if b < a then b :: unI (a :: x) y else a :: unI x y := by
 unfold unI
 rw [zbe]
 unfold cmpI
 by_cases h1 : a < b
 ·rw [if_pos h1, if_pos h1, if_pos (by decide)]; rfl
 ·rw [if_neg h1, if_neg h1]
  by_cases h2 : b < a
  ·rw [if_pos h2, if_pos h2, if_neg (by decide), if_neg (by decide)]; rfl
  ·rw [if_neg h2, if_neg h2, if_neg (by decide), if_pos rfl]; rfl
theorem zcU : ∀ (n : Nat) (x y : List Int), x.length + y.length ≤ n → AscB ltI x → AscB ltI y → AscB ltI (unI x y) ∧ ∀ z, z ∈ unI x y ↔ z ∈ x ∨ z ∈ y
 | _, [], y, _, _, hy => by rw [zdm]; exact ⟨hy, fun z => by simp⟩
 | _, a :: x, [], _, hx, _ => by rw [zcA]; exact ⟨hx, fun z => by simp⟩
 | 0, a :: x, b :: y, h, _, _ => by simp at h
 | n + 1, a :: x, b :: y, h, hx, hy => by
  have hx' := List.pairwise_cons.1 hx
  have hy' := List.pairwise_cons.1 hy
  have hxx := hx'.1
  have hyy := hy'.1
  simp only [ltI, decide_eq_true_eq] at hxx hyy
  simp only [List.length_cons] at h
  rw [zjM]
  by_cases h1 : a < b
  ·rw [if_pos h1]
   obtain ⟨i1, i2⟩ := zcU n x (b :: y) (by simp only [List.length_cons]; omega) hx'.2 hy
   refine ⟨List.pairwise_cons.2 ⟨fun z hz => ?_, i1⟩, fun z => by rw [List.mem_cons, i2]; simp only [List.mem_cons]; exact or_assoc.symm⟩
   simp only [ltI, decide_eq_true_eq]
   rcases (i2 z).1 hz with h | h
   ·exact hxx z h
   ·rcases List.mem_cons.1 h with rfl | h
    ·exact h1
    ·have := hyy z h; omega
  ·rw [if_neg h1]
   by_cases h2 : b < a
   ·rw [if_pos h2]
    obtain ⟨i1, i2⟩ := zcU n (a :: x) y (by simp only [List.length_cons]; omega) hx hy'.2
    refine ⟨List.pairwise_cons.2 ⟨fun z hz => ?_, i1⟩, fun z => by rw [List.mem_cons, i2]; simp only [List.mem_cons]; exact or_left_comm⟩
    simp only [ltI, decide_eq_true_eq]
    rcases (i2 z).1 hz with h | h
    ·rcases List.mem_cons.1 h with rfl | h
     ·exact h2
     ·have := hxx z h; omega
    ·exact hyy z h
   ·rw [if_neg h2]
    obtain rfl : a = b := by omega
    obtain ⟨i1, i2⟩ := zcU n x y (by omega) hx'.2 hy'.2
    refine ⟨List.pairwise_cons.2 ⟨fun z hz => ?_, i1⟩, fun z => by
     rw [List.mem_cons, i2]; simp only [List.mem_cons]
     constructor
     ·rintro (h | h | h)
      ·exact .inl (.inl h)
      ·exact .inl (.inr h)
      ·exact .inr (.inr h)
     ·rintro ((h | h) | (h | h))
      ·exact .inl h
      ·exact .inr (.inl h)
      ·exact .inl h
      ·exact .inr (.inr h)⟩
    simp only [ltI, decide_eq_true_eq]
    rcases (i2 z).1 hz with h | h
    ·exact hxx z h
    ·exact hyy z h
theorem zqc {x y : List Int} (hx : AscB ltI x) (hy : AscB ltI y) : AscB ltI (unI x y) := (zcU _ x y (Nat.le_refl _) hx hy).1
theorem zce {x y : List Int} (hx : AscB ltI x) (hy : AscB ltI y) (z : Int) : z ∈ unI x y ↔ z ∈ x ∨ z ∈ y := (zcU _ x y (Nat.le_refl _) hx hy).2 z
def atD (l : List Pst) (d : Int) : List Int := match l.find? (fun p => decide (p.doc = d)) with | some p => p.places | none => []
theorem zaJ (p : Pst) (l : List Pst) (d : Int) : atD (p :: l) d = if p.doc = d then p.places else atD l d := by
 unfold atD
 rw [List.find?_cons]
 by_cases h : p.doc = d
 ·rw [if_pos h, decide_eq_true h]
 ·rw [if_neg h, decide_eq_false h]
def AscP (l : List Pst) : Prop := l.Pairwise fun a b => a.doc < b.doc
theorem zeC {l : List Pst} : AscP l ↔ AscB ltI (l.map (·.doc)) := by
 unfold AscP AscB
 rw [List.pairwise_map]
 simp only [ltI, decide_eq_true_eq]
theorem zjt {l : List Pst} {d : Int} (h : ∀ p ∈ l, d < p.doc) : atD l d = [] := by
 unfold atD
 rw [List.find?_eq_none.2 fun p hp => by have := h p hp; simp only [decide_eq_true_eq]; omega]
theorem zcB {l : List Pst} (h : AscP l) {p : Pst} (hp : p ∈ l) : atD l p.doc = p.places := by
 induction l with
 | nil => cases hp
 | cons q l ih =>
  rw [zaJ]
  have h' := List.pairwise_cons.1 h
  rcases List.mem_cons.1 hp with rfl | hp
  ·rw [if_pos rfl]
  ·have := h'.1 p hp
   rw [if_neg (by omega)]; exact ih h'.2 hp
theorem zmP {l : List Pst} {d : Int} (h : atD l d ≠ []) : ∃ p ∈ l, p.doc = d ∧ p.places = atD l d := by
 unfold atD at h ⊢
 cases hf : l.find? (fun p => decide (p.doc = d)) with
 | none => rw [hf] at h; exact absurd rfl h
 | some p => exact ⟨p, List.mem_of_find?_eq_some hf, of_decide_eq_true (List.find?_some (p := fun p => decide (Pst.doc p = d)) hf), rfl⟩
theorem zkd (a b : Pst) (x y : List Pst) : orP (a :: x) (b :: y) = if a.doc < b.doc then a :: orP x (b :: y) else if b.doc < a.doc then b :: orP (a :: x) y else ⟨a.doc, unI a.places b.places⟩ :: orP x y := by
 unfold orP
 rw [zbe]
 unfold cmpD cmpI
 by_cases h1 : a.doc < b.doc
 ·rw [if_pos h1, if_pos h1, if_pos (by decide)]; rfl
 ·rw [if_neg h1, if_neg h1]
  by_cases h2 : b.doc < a.doc
  ·rw [if_pos h2, if_pos h2, if_neg (by decide), if_neg (by decide)]; rfl
  ·rw [if_neg h2, if_neg h2, if_neg (by decide), if_pos rfl]; rfl
theorem zeg (x : List Pst) : orP x [] = x := by
 unfold orP; rw [zaV, List.map_map]
 conv => rhs; rw [← List.map_id x]
 rfl
theorem zee (x : List Pst) : orP [] x = x := by
 show (x.map fun b => (none, some b)).map orO = x
 rw [List.map_map]
 conv => rhs; rw [← List.map_id x]
 rfl
theorem zdO : ∀ (n : Nat) (x y : List Pst), x.length + y.length ≤ n → AscP x → AscP y →
  AscP (orP x y) ∧ (∀ p ∈ orP x y, (∃ q ∈ x, q.doc = p.doc) ∨ ∃ q ∈ y, q.doc = p.doc) ∧ ∀ d, atD (orP x y) d = unI (atD x d) (atD y d)
 | _, [], y, _, _, hy => by rw [zee]; exact ⟨hy, fun p hp => .inr ⟨p, hp, rfl⟩, fun d => (zdm _).symm⟩
 | _, a :: x, [], _, hx, _ => by rw [zeg]; exact ⟨hx, fun p hp => .inl ⟨p, hp, rfl⟩, fun d => (zcA _).symm⟩
 | 0, a :: x, b :: y, h, _, _ => by simp at h
 | n + 1, a :: x, b :: y, h, hx, hy => by
  have hx' := List.pairwise_cons.1 hx
  have hy' := List.pairwise_cons.1 hy
  simp only [List.length_cons] at h
  rw [zkd]
  by_cases h1 : a.doc < b.doc
  ·rw [if_pos h1]
   obtain ⟨i1, i2, i3⟩ := zdO n x (b :: y) (by simp only [List.length_cons]; omega) hx'.2 hy
   refine ⟨List.pairwise_cons.2 ⟨fun z hz => ?_, i1⟩, fun p hp => ?_, fun d => ?_⟩
   ·rcases i2 z hz with ⟨q, hq, e⟩ | ⟨q, hq, e⟩
    ·have := hx'.1 q hq; omega
    ·rcases List.mem_cons.1 hq with rfl | hq
     ·omega
     ·have := hy'.1 q hq; omega
   ·rcases List.mem_cons.1 hp with rfl | hp
    ·exact .inl ⟨p, List.mem_cons_self, rfl⟩
    ·rcases i2 p hp with ⟨q, hq, e⟩ | h
     ·exact .inl ⟨q, List.mem_cons_of_mem _ hq, e⟩
     ·exact .inr h
   ·rw [zaJ, i3, zaJ a x]
    by_cases hd : a.doc = d
    ·rw [if_pos hd, if_pos hd, zjt (l := b :: y) (fun p hp => by rcases List.mem_cons.1 hp with rfl | hp; omega; have := hy'.1 p hp; omega), zcA]
    ·rw [if_neg hd, if_neg hd]
  ·rw [if_neg h1]
   by_cases h2 : b.doc < a.doc
   ·rw [if_pos h2]
    obtain ⟨i1, i2, i3⟩ := zdO n (a :: x) y (by simp only [List.length_cons]; omega) hx hy'.2
    refine ⟨List.pairwise_cons.2 ⟨fun z hz => ?_, i1⟩, fun p hp => ?_, fun d => ?_⟩
    ·rcases i2 z hz with ⟨q, hq, e⟩ | ⟨q, hq, e⟩
     ·rcases List.mem_cons.1 hq with rfl | hq
      ·omega
      ·have := hx'.1 q hq; omega
     ·have := hy'.1 q hq; omega
    ·rcases List.mem_cons.1 hp with rfl | hp
     ·exact .inr ⟨p, List.mem_cons_self, rfl⟩
     ·rcases i2 p hp with h | ⟨q, hq, e⟩
      ·exact .inl h
      ·exact .inr ⟨q, List.mem_cons_of_mem _ hq, e⟩
    ·rw [zaJ, i3, zaJ b y]
     by_cases hd : b.doc = d
     ·rw [if_pos hd, if_pos hd, zjt (l := a :: x) (fun p hp => by rcases List.mem_cons.1 hp with rfl | hp; omega; have := hx'.1 p hp; omega), zdm]
     ·rw [if_neg hd, if_neg hd]
   ·rw [if_neg h2]
    have he : a.doc = b.doc := by omega
    obtain ⟨i1, i2, i3⟩ := zdO n x y (by omega) hx'.2 hy'.2
    refine ⟨List.pairwise_cons.2 ⟨fun z hz => ?_, i1⟩, fun p hp => ?_, fun d => ?_⟩
    ·dsimp only
     rcases i2 z hz with ⟨q, hq, e⟩ | ⟨q, hq, e⟩
     ·have := hx'.1 q hq; omega
     ·have := hy'.1 q hq; omega
    ·rcases List.mem_cons.1 hp with rfl | hp
     ·exact .inl ⟨a, List.mem_cons_self, rfl⟩
     ·rcases i2 p hp with ⟨q, hq, e⟩ | ⟨q, hq, e⟩
      ·exact .inl ⟨q, List.mem_cons_of_mem _ hq, e⟩
      ·exact .inr ⟨q, List.mem_cons_of_mem _ hq, e⟩
    ·rw [zaJ, i3, zaJ a x, zaJ b y]
     dsimp only
     by_cases hd : a.doc = d
     ·rw [if_pos hd, if_pos hd, if_pos (by omega)]
     ·rw [if_neg hd, if_neg hd, if_neg (by omega)]
theorem zbh {l : List Pst} (h : rightP l = true) : AscP l := zeC.2 ((risesB_iff _ _).1 (zbN.1 h).2).1
theorem zas {l : List Pst} : rightP l = true ↔ AscP l ∧ ∀ p ∈ l, 1 ≤ p.doc ∧ p.doc ≤ 1099511627776 ∧ p.places ≠ [] ∧ AscB ltI p.places ∧ ∀ n ∈ p.places, 0 ≤ n ∧ n ≤ 1099511627776 := by
 rw [zbN, risesB_iff, ← zeC]
 constructor
 ·rintro ⟨h1, h2, h3⟩
  exact ⟨h2, fun p hp => ⟨(h3 p.doc (List.mem_map_of_mem hp)).1, (h3 p.doc (List.mem_map_of_mem hp)).2, (h1 p hp).1, (risesB_iff _ _).1 (h1 p hp).2⟩⟩
 ·rintro ⟨h1, h2⟩
  refine ⟨fun p hp => ⟨(h2 p hp).2.2.1, (risesB_iff _ _).2 (h2 p hp).2.2.2⟩, h1, fun n hn => ?_⟩
  obtain ⟨p, hp, rfl⟩ := List.mem_map.1 hn
  exact ⟨(h2 p hp).1, (h2 p hp).2.1⟩
theorem zhl {a b : List Pst} (ha : rightP a = true) (hb : rightP b = true) (h : ∀ d, atD a d = atD b d) : a = b := by
 rw [zas] at ha hb
 have key : ∀ {x y : List Pst}, AscP x → AscP y → (∀ p ∈ x, p.places ≠ []) → (∀ d, atD x d = atD y d) → ∀ p ∈ x, p ∈ y := fun {x y} hx hy hn hxy p hp => by
  have h1 := zcB hx hp
  obtain ⟨q, hq, e1, e2⟩ := zmP (l := y) (d := p.doc) (by rw [← hxy, h1]; exact hn p hp)
  rw [← hxy, h1] at e2
  obtain ⟨d1, l1⟩ := p
  obtain ⟨d2, l2⟩ := q
  dsimp only at e1 e2
  subst e1 e2
  exact hq
 have h1 := key ha.1 hb.1 (fun p hp => (ha.2 p hp).2.2.1) h
 have h2 := key hb.1 ha.1 (fun p hp => (hb.2 p hp).2.2.1) fun d => (h d).symm
 have sto : ∀ {x y : List Pst}, AscP x → AscP y → (∀ p, p ∈ x ↔ p ∈ y) → x = y := by
  intro x
  induction x with
  | nil => intro y _ _ hm; cases y with
   | nil => rfl
   | cons q y => exact absurd ((hm q).2 List.mem_cons_self) (by simp)
  | cons p x ih =>
   intro y hx hy hm
   cases y with
   | nil => exact absurd ((hm p).1 List.mem_cons_self) (by simp)
   | cons q y =>
    have hx' := List.pairwise_cons.1 hx
    have hy' := List.pairwise_cons.1 hy
    have e : p = q := by
     rcases List.mem_cons.1 ((hm p).1 List.mem_cons_self) with h | h
     ·exact h
     ·rcases List.mem_cons.1 ((hm q).2 List.mem_cons_self) with h' | h'
      ·exact h'.symm
      ·have := hx'.1 q h'; have := hy'.1 p h; omega
    subst e
    congr 1
    refine ih hx'.2 hy'.2 fun z => ?_
    have := hm z
    simp only [List.mem_cons] at this
    constructor
    ·intro hz
     rcases this.1 (.inr hz) with rfl | h
     ·have := hx'.1 z hz; omega
     ·exact h
    ·intro hz
     rcases this.2 (.inr hz) with rfl | h
     ·have := hy'.1 z hz; omega
     ·exact h
 exact sto ha.1 hb.1 fun p => ⟨h1 p, h2 p⟩
theorem zrl {x y : List Int} (h : x ≠ []) : unI x y ≠ [] := by
 cases x with
 | nil => exact absurd rfl h
 | cons a x =>
  cases y with
  | nil => rw [zcA]; exact h
  | cons b y => rw [zjM]; split; simp; split <;> simp
theorem zgc {x y : List Int} : unI x y = [] ↔ x = [] ∧ y = [] := by
 constructor
 ·intro h
  cases x with
  | nil => rw [zdm] at h; exact ⟨rfl, h⟩
  | cons a x => exact absurd h (zrl (by simp))
 ·rintro ⟨rfl, rfl⟩; rfl
theorem zdT {l : List Pst} (h : rightP l = true) (d : Int) : AscB ltI (atD l d) ∧ ∀ n ∈ atD l d, 0 ≤ n ∧ n ≤ 1099511627776 := by
 by_cases hn : atD l d = []
 ·rw [hn]; exact ⟨.nil, fun n h => by cases h⟩
 ·obtain ⟨p, hp, _, e⟩ := zmP hn
  rw [← e]; exact ((zas.1 h).2 p hp).2.2.2
theorem zdy {a b : List Pst} (ha : rightP a = true) (hb : rightP b = true) : rightP (orP a b) = true := by
 have ha' := zas.1 ha
 have hb' := zas.1 hb
 obtain ⟨h1, h2, h3⟩ := zdO _ a b (Nat.le_refl _) ha'.1 hb'.1
 rw [zas]
 refine ⟨h1, fun p hp => ?_⟩
 have hat := h3 p.doc
 rw [zcB h1 hp] at hat
 have pa := zdT ha p.doc
 have pb := zdT hb p.doc
 have hne : p.places ≠ [] := by
  rw [hat]
  intro e
  obtain ⟨e1, e2⟩ := zgc.1 e
  rcases h2 p hp with ⟨q, hq, e⟩ | ⟨q, hq, e⟩
  ·rw [← e, zcB ha'.1 hq] at e1; exact (ha'.2 q hq).2.2.1 e1
  ·rw [← e, zcB hb'.1 hq] at e2; exact (hb'.2 q hq).2.2.1 e2
 refine ⟨?_, ?_, hne, by rw [hat]; exact zqc pa.1 pb.1, fun n hn => ?_⟩
 ·rcases h2 p hp with ⟨q, hq, e⟩ | ⟨q, hq, e⟩
  ·rw [← e]; exact (ha'.2 q hq).1
  ·rw [← e]; exact (hb'.2 q hq).1
 ·rcases h2 p hp with ⟨q, hq, e⟩ | ⟨q, hq, e⟩
  ·rw [← e]; exact (ha'.2 q hq).2.1
  ·rw [← e]; exact (hb'.2 q hq).2.1
 ·rw [hat, zce pa.1 pb.1] at hn
  rcases hn with h | h
  ·exact pa.2 n h
  ·exact pb.2 n h
theorem zgQ {a b : List Pst} (ha : rightP a = true) (hb : rightP b = true) (d : Int) : atD (orP a b) d = unI (atD a d) (atD b d) :=
 (zdO _ a b (Nat.le_refl _) (zbh ha) (zbh hb)).2.2 d
end Go.Mg
namespace Go.Vc
open Go Go.Pw Go.RowKit
def putPs : List Tmp → List Value → Fr → Fr
 | p :: ps, v :: vs, f => putPs ps vs (upd f p v)
 | _, _, f => f
theorem zjs {n : Nat} : ∀ (ps : List Tmp) (vs : List Value) (f : Fr), Ok n f → (ps.all fun p => Nat.ble (p + 1) n) = true → Ok n (putPs ps vs f) ∧
  (ps.zip vs).foldl (fun tmps (x : Tmp × Value) => tmps.setIfInBounds x.1 x.2) (frArr n f) = frArr n (putPs ps vs f)
 | [], _, f, hf, _ => ⟨hf, rfl⟩
 | _ :: _, [], f, hf, _ => ⟨hf, rfl⟩
 | p :: ps, v :: vs, f, hf, h => by
  simp only [List.all_cons, Bool.and_eq_true] at h
  have hp : p < n := Nat.le_of_ble_eq_true h.1
  obtain ⟨h1, h2⟩ := zjs ps vs (upd f p v) (zpx hf hp v) h.2
  refine ⟨h1, ?_⟩
  simp only [List.zip_cons_cons, List.foldl_cons, putPs, zhi hp v]
  exact h2
structure Rec2 (D : Nat) (w w' : World) : Prop where
 d : w'.heap[D]? = w.heap[D]?
 l : w'.heap[D + 1]? = w.heap[D + 1]?
theorem Rec2.of {D : Nat} {w w' : World} {c : Nat → Prop} (k : Kp w w' c) (h : D + 1 < w.heap.size) (h0 : ¬ c D) (h1 : ¬ c (D + 1)) : Rec2 D w w' := ⟨k.block _ (by omega) h0, k.block _ h h1⟩
def rangeK {α : Type} (D : Nat) (I : List α → World → Prop) (Ix : Code → List α → World → Prop) (xs : List α) (W : World) : Exit → Fr → World → Prop
 | .normal, _, W' => Ret (Rec2 D W W' ∧ I xs W')
 | .ret, _, W' => Ret (Rec2 D W W' ∧ Ix .ret xs W')
 | .exit id, _, W' => Ret (Rec2 D W W' ∧ Ix (.exit id) xs W')
 | _, _, _ => False
structure Body (p : Prop) : Prop where
 h : p
def asgK {α : Type} (P : Program) (n : Nat) (D : Nat) (I : List α → World → Prop) (Ix : Code → List α → World → Prop) (xs : List α) (W : World) (body : Code) : Exit → Fr → World → Prop
 | .normal, g, W1 => Body (Rec2 D W W1 ∧ ∀ W2, Kp W1 W2 (one_ (D + 1)) → W2.heap.size = W1.heap.size → Sat P n (rangeK D I Ix xs W2) .normal [.code body] g W2)
 | _, _, _ => False
theorem zba (w : World) (r : Nat) (o : Obj) : (w.putObj r o).heap.size = w.heap.size := by simp [World.putObj]
theorem zav (w : World) (r : Nat) (o : Obj) : Kp w (w.putObj r o) (one_ r) := ⟨rfl, rfl, rfl, by rw [zba]; exact Nat.le_refl _, fun k _ hn => World.putObj_heap_other hn⟩
section
variable {P : Program} {n : Nat} {K : Exit → Fr → World → Prop} {ps : Array Tmp} {assign body : Code} {t : List It} {g : Operand} {fg : Nat → Value} {dl : DL} {w : World} {gf : Nat} {lb : Array Value} {α : Type}
theorem zgx {D fn : Nat} {rec : Go.Loop} {W : World} {vs : List Value} {I : List α → World → Prop} {Ix : Code → List α → World → Prop} {xs : List α} {R : Value → World → Prop} (hf : Ok n ⟨fg, dl⟩)
  (hr : rec = { state := .ready, pending := none, fn := fn, tmps := frArr n ⟨fg, dl⟩, params := ps, assign := assign, body := body, defers := D })
  (hl : W.heap[D + 1]? = some (.loop rec)) (hvs : vs.length = ps.size) (hps : (ps.toList.all fun p => Nat.ble (p + 1) n) = true) (hpa : plainC assign = true) (hpb : plainC body = true)
  (round : Sat P n (asgK P n D I Ix xs W body) .normal [.code assign] (putPs ps.toList vs ⟨fg, .nil⟩) W)
  (k1 : ∀ W3 W4, W3.heap[D + 1]? = some (.loop { rec with state := .busy }) → W3.heap[D]? = W.heap[D]? → I xs W3 → W4 = W3.putObj (D + 1) (.loop rec) → R (.bool true) W4)
  (k2 : ∀ c W3 W4, W3.heap[D + 1]? = some (.loop { rec with state := .busy }) → W3.heap[D]? = W.heap[D]? → Ix c xs W3 → W4 = W3.putObj (D + 1) (.loop { rec with state := .done, pending := some c }) → R (.bool false) W4) :
  YieldS P (D + 1) vs W R := by
 have hfr : rec.fn = fn ∧ rec.tmps = frArr n ⟨fg, dl⟩ ∧ rec.params = ps ∧ rec.assign = assign ∧ rec.body = body ∧ rec.state = .ready ∧ rec.pending = none := by subst hr; exact ⟨rfl, rfl, rfl, rfl, rfl, rfl, rfl⟩
 obtain ⟨e1, e2, e3, e4, e5, e6, e7⟩ := hfr
 have hy := run_yield (P := P) (args := vs.toArray) hl (by rw [e3]; simpa using hvs)
 rw [e1, e2, e3, e4, e5] at hy
 obtain ⟨hg0, hz⟩ := zjs ps.toList vs ⟨fg, dl⟩ hf hps
 have hz' : (ps.zip vs.toArray).foldl (fun tmps (x : Tmp × Value) => tmps.setIfInBounds x.1 x.2) (frArr n ⟨fg, dl⟩) = frArr n (putPs ps.toList vs ⟨fg, dl⟩) := by
  rw [← hz]
  obtain ⟨pl⟩ := ps
  simp [← List.foldl_toArray', List.zip_toArray]
 have hsame : ∀ (pl : List Tmp) (vs : List Value) (a : Nat → Value) (d d' : DL), (putPs pl vs ⟨a, d⟩).g = (putPs pl vs ⟨a, d'⟩).g ∧ (putPs pl vs ⟨a, d⟩).ds = d := by
  intro pl
  induction pl with
  | nil => intro vs a d d'; exact ⟨rfl, rfl⟩
  | cons p pl ih =>
   intro vs a d d'
   cases vs with
   | nil => exact ⟨rfl, rfl⟩
   | cons v vs => exact ih vs _ d d'
 have hact : act n (putPs ps.toList vs ⟨fg, .nil⟩) = { tmps := frArr n (putPs ps.toList vs ⟨fg, dl⟩), defers := [] } := by
  obtain ⟨h1, h2⟩ := hsame ps.toList vs fg .nil dl
  simp only [act, frArr, h1, h2]; rfl
 refine ⟨fn, _, assign, body, hy, ?_⟩
 refine roundIn_of_wpIn trivial ?_
 have hz'' : (ps.zip vs.toArray).foldl (fun tmps (x : Tmp × Value) => match x with | (t, a) => tmps.setIfInBounds t a) (frArr n ⟨fg, dl⟩) = frArr n (putPs ps.toList vs ⟨fg, dl⟩) := hz'
 rw [hz'', ← hact]
 have hok : Ok n (putPs ps.toList vs ⟨fg, .nil⟩) := by
  intro j hj
  rw [(hsame ps.toList vs fg .nil dl).1]; exact hg0 j hj
 have h1 := (show assign.wpX P (LiftE n (after P n [] (asgK P n D I Ix xs W body))) (act n (putPs ps.toList vs ⟨fg, .nil⟩)) W from round.h hok) (some (D + 1)) (.inr hpa)
 refine wpIn_mono h1 fun e a W1 he => ?_
 obtain ⟨g', hg', rfl, hk⟩ := he
 have hk : asgK P n D I Ix xs W body e g' W1 := hk
 cases e with
 | normal =>
  obtain ⟨hrec, hbody⟩ := Body.h hk
  have hl1 : W1.heap[D + 1]? = some (.loop rec) := hrec.l.trans hl
  refine ⟨_, run_beginRound hl1 e6, ?_⟩
  have hlt : D + 1 < W1.heap.size := (Array.getElem?_eq_some_iff.1 hl1).1
  have hl2 : (W1.putObj (D + 1) (.loop { rec with state := .busy })).heap[D + 1]? = some (.loop { rec with state := .busy }) := World.putObj_heap_same hlt
  have hd2 : (W1.putObj (D + 1) (.loop { rec with state := .busy })).heap[D]? = W.heap[D]? := (World.putObj_heap_other (by omega)).trans hrec.d
  have hb := hbody (W1.putObj (D + 1) (.loop { rec with state := .busy })) (zav _ _ _) (zba _ _ _)
  refine wpIn_mono ((show body.wpX P (LiftE n (after P n [] (rangeK D I Ix xs _))) (act n g') _ from hb.h hg') (some (D + 1)) (.inr hpb)) fun e a W3 he => ?_
  obtain ⟨g3, hg3, rfl, hk3⟩ := he
  have hk3 : rangeK D I Ix xs _ e g3 W3 := hk3
  have fin : ∀ (j : Option Code), Rec2 D (W1.putObj (D + 1) (.loop { rec with state := .busy })) W3 →
    W3.heap[D + 1]? = some (.loop { rec with state := .busy }) ∧ W3.heap[D]? = W.heap[D]? ∧
    (Instr.endRound (D + 1) j).run P W3 = .ok (.bool j.isNone) (W3.putObj (D + 1) (.loop { rec with state := if j.isNone then .ready else .done, pending := j })) := fun j hr2 => by
   have h3 := hr2.l.trans hl2
   exact ⟨h3, hr2.d.trans hd2, run_endRound (r := { rec with state := .busy }) j h3⟩
  cases e with
  | normal =>
   obtain ⟨hr2, hI⟩ := Ret.h hk3
   obtain ⟨h3, h4, h5⟩ := fin none hr2
   refine ⟨_, _, h5, _, rfl, k1 W3 _ h3 h4 hI ?_⟩
   congr 2
   subst hr; rfl
  | ret =>
   obtain ⟨hr2, hI⟩ := Ret.h hk3
   obtain ⟨h3, h4, h5⟩ := fin (some .ret) hr2
   exact ⟨_, _, h5, _, rfl, k2 _ W3 _ h3 h4 hI rfl⟩
  | exit id =>
   obtain ⟨hr2, hI⟩ := Ret.h hk3
   obtain ⟨h3, h4, h5⟩ := fin (some (.exit id)) hr2
   exact ⟨_, _, h5, _, rfl, k2 _ W3 _ h3 h4 hI rfl⟩
  | goto id => exact hk3.elim
  | panic ch => exact hk3.elim
  | outgrown => exact hk3.elim
 | _ => exact hk.elim
theorem Range.intro (enc : α → List Value) (hg : ev ⟨fg, dl⟩ g = .func (.func gf) #[] lb) (hgf : ∀ args w, (callFunc gf args).run P w = .ok (.enter gf args) w)
  (hpa : plainC assign = true) (hpb : plainC body = true) (hps : (ps.toList.all fun p => Nat.ble (p + 1) n) = true) (hen : ∀ x, (enc x).length = ps.size)
  (cI : Nat → Prop) (hcI : ∀ b, cI b → b < w.heap.size) (I : List α → World → Prop) (Ix : Code → List α → World → Prop) (S : List α → Prop) (Nx : List α → α → Prop)
  (hI : ∀ pre W W', I pre W → w.heap.size + 2 ≤ W.heap.size → Kp W W' (fun b => cI b ∨ b = w.heap.size + 1) → I pre W')
  (hIx : ∀ c pre W W', Ix c pre W → w.heap.size + 2 ≤ W.heap.size → Kp W W' (fun b => cI b ∨ b = w.heap.size + 1) → Ix c pre W')
  (h0 : ∀ W, Kp w W n_ → W.heap.size = w.heap.size + 2 → I [] W)
  (iter : ∀ J Jx : List α → World → Prop, (∀ pre W, J pre W → I pre W ∧ w.heap.size + 2 ≤ W.heap.size) → (∀ pre W W', J pre W → Kp W W' cI → J pre W') → (∀ pre W W', Jx pre W → Kp W W' cI → Jx pre W') →
   (∀ pre x W, J pre W → Nx pre x → YieldS P (w.heap.size + 1) (enc x) W fun v W' => (v = .bool true ∧ J (pre ++ [x]) W') ∨ (v = .bool false ∧ Jx (pre ++ [x]) W')) →
   ∀ W, J [] W → Calls P gf (#[.func (.yield (w.heap.size + 1)) #[] #[]] ++ lb) W fun e W' => (∃ v, e = .returned v) ∧ ((∃ xs, S xs ∧ J xs W') ∨ ∃ pre, Jx pre W'))
  (round : ∀ pre x W, I pre W → Nx pre x → w.heap.size + 2 ≤ W.heap.size → Sat P n (asgK P n w.heap.size I Ix (pre ++ [x]) W body) .normal [.code assign] (putPs ps.toList (enc x) ⟨fg, .nil⟩) W)
  (done : ∀ xs W, S xs → I xs W → w.heap.size + 2 ≤ W.heap.size → W.heap[w.heap.size]? = some (.deferred (some [])) → Sat P n K .normal t ⟨fg, .of (w.heap.size :: dl.toL)⟩ W)
  (stop : ∀ c pre W, Ix c pre W → w.heap.size + 2 ≤ W.heap.size → W.heap[w.heap.size]? = some (.deferred (some [])) → Sat P n K .normal (.code c :: t) ⟨fg, .of (w.heap.size :: dl.toL)⟩ W) :
  Range P n K g ps assign body t ⟨fg, dl⟩ w := by
 refine ⟨fun hf r hr => ?_⟩
 obtain rfl : r = none := by
  rcases hr with h | h
  ·exact h
  ·cases h
 refine wpIn_rangeFunc ?_
 intro fn _
 generalize hD : w.heap.size = D at *
 obtain ⟨rec, hrec⟩ : ∃ rec : Go.Loop, rec = { state := .ready, pending := none, fn := fn, tmps := frArr n ⟨fg, dl⟩, params := ps, assign := assign, body := body, defers := D } := ⟨_, rfl⟩
 obtain ⟨W1, hW1⟩ : ∃ W1, (w.alloc (.deferred (some []))).alloc (.loop rec) = W1 := ⟨_, rfl⟩
 have hs1 : W1.heap.size = D + 2 := by rw [← hW1]; simp [hD]
 have hk1 : Kp w W1 n_ := by rw [← hW1]; exact ((Kp.refl w n_).alloc _).alloc _
 have hL1 : W1.heap[D + 1]? = some (.loop rec) := by
  rw [← hW1, ← hD]; have := World.alloc_heap_new (w.alloc (.deferred (some []))) (.loop rec); rwa [World.size_alloc] at this
 have hD1 : W1.heap[D]? = some (.deferred (some [])) := by
  rw [← hW1, ← hD]; exact (Below.heap_alloc _ _ _ (by simp)).trans (World.alloc_heap_new w _)
 refine ⟨D + 1, [{ target := .collected D, args := #[] }], W1, { target := .fn (.func gf) lb, args := #[.func (.yield (D + 1)) #[] #[]] }, W1, gf,
  #[.func (.yield (D + 1)) #[] #[]] ++ lb, W1, ?_, ?_, fun _ _ => trivial, ?_, fun h => by simp [RW, Fence.wide] at h, ?_⟩
 ·have := run_enterLoop_outer (P := P) (w := w) fn (frArr n ⟨fg, dl⟩) ps assign body
  rw [hD, ← hrec, hW1] at this
  exact this
 ·have he : (act n ⟨fg, dl⟩).eval g = .func (.func gf) #[] lb := by rw [zbH hf]; exact hg
  simp only [resolve, he]
  simp [go_sem]
 ·simp [invoke, go_sem, hgf]
 ·refine zeD ?_
  have keepL : ∀ {W W' : World} {k : Nat} {o : Obj}, Kp W W' cI → W.heap[k]? = some o → D ≤ k → W'.heap[k]? = some o := fun {W W' k o} hk ho hle =>
   (hk.block k (Array.getElem?_eq_some_iff.1 ho).1 (fun h => by have := hcI _ h; omega)).trans ho
  have hlt : ∀ {W : World} {k : Nat} {o : Obj}, W.heap[k]? = some o → k < W.heap.size := fun ho => (Array.getElem?_eq_some_iff.1 ho).1
  refine (iter (fun pre W => I pre W ∧ W.heap[D + 1]? = some (.loop rec) ∧ W.heap[D]? = some (.deferred (some [])))
   (fun pre W => ∃ c, Ix c pre W ∧ W.heap[D + 1]? = some (.loop { rec with state := .done, pending := some c }) ∧ W.heap[D]? = some (.deferred (some [])))
   (fun pre W h => ⟨h.1, by have := hlt h.2.1; omega⟩)
   (fun pre W W' h k => ⟨hI pre W W' h.1 (by have := hlt h.2.1; omega) (k.mono fun _ _ h => .inl h), keepL k h.2.1 (by omega), keepL k h.2.2 (Nat.le_refl _)⟩)
   (fun pre W W' h k => by
    obtain ⟨c, h1, h2, h3⟩ := h
    exact ⟨c, hIx c pre W W' h1 (by have := hlt h2; omega) (k.mono fun _ _ h => .inl h), keepL k h2 (by omega), keepL k h3 (Nat.le_refl _)⟩)
   ?_ W1 ⟨h0 W1 hk1 hs1, hL1, hD1⟩).mono ?_
  ·rintro pre x W ⟨hi, hl, hd⟩ hnx
   have hsz : D + 2 ≤ W.heap.size := by have := hlt hl; omega
   refine zgx hf hrec hl (hen x) hps hpa hpb (round pre x W hi hnx hsz) ?_ ?_
   ·rintro W3 W4 h3 h4 h5 rfl
    have hs3 := hlt h3
    refine .inl ⟨rfl, hI _ _ _ h5 (by omega) ((zav _ _ _).mono fun b _ h => .inr h), World.putObj_heap_same hs3, ?_⟩
    exact (World.putObj_heap_other (by omega)).trans (h4.trans hd)
   ·rintro c W3 W4 h3 h4 h5 rfl
    have hs3 := hlt h3
    refine .inr ⟨rfl, c, hIx _ _ _ _ h5 (by omega) ((zav _ _ _).mono fun b _ h => .inr h), World.putObj_heap_same hs3, ?_⟩
    exact (World.putObj_heap_other (by omega)).trans (h4.trans hd)
  ·rintro e W2 ⟨⟨v, rfl⟩, (⟨xs, hS, hi, hl, hd⟩ | ⟨pre, c, hi, hl, hd⟩)⟩
   ·have hsz := hlt hl
    refine ⟨none, _, by have := run_endLoop (P := P) hl (by rw [hrec]; simp); rw [show rec.pending = none from by rw [hrec]] at this; exact this, ?_⟩
    have h1 := done xs (W2.putObj (D + 1) (.loop { rec with state := .exhausted, pending := none })) hS (hI _ _ _ hi (by omega) ((zav _ _ _).mono fun b _ h => .inr h)) (by rw [zba]; omega) ((World.putObj_heap_other (by omega)).trans hd)
    exact ⟨⟨fg, .of (D :: dl.toL)⟩, hf, rfl, h1.h hf⟩
   ·have hsz := hlt hl
    refine ⟨some c, _, run_endLoop (P := P) hl (by simp), ?_⟩
    have h1 := stop c pre (W2.putObj (D + 1) (.loop { rec with state := .exhausted, pending := some c })) (hIx _ _ _ _ hi (by omega) ((zav _ _ _).mono fun b _ h => .inr h)) (by rw [zba]; omega) ((World.putObj_heap_other (by omega)).trans hd)
    exact (h1.h hf : c.wpX P (LiftE n (after P n t K)) (act n ⟨fg, .of (D :: dl.toL)⟩) _) none (.inl rfl)
end
end Go.Vc
namespace Go.Vc
open Go Go.Pw
theorem YieldS.of {P : Program} {l : Nat} {args : List Value} {w : World} {R K : Value → World → Prop} (h : YieldS P l args w R) (k : ∀ v w', R v w' → K v w') : YieldS P l args w K := by
 obtain ⟨f, tmps, assign, body, h1, h2⟩ := h.h
 exact ⟨f, tmps, assign, body, h1, h2.mono fun e w' ⟨v, e1, e2⟩ => ⟨v, e1, k v w' e2⟩⟩
end Go.Vc
namespace Go.Proofs.YtennokckmjcefaaGreatDoor
open Go.Shelf Go.RowKit Go.Pw Go.Vc Go.Cs Go.Lib Go.Cd
section
variable {w : World}
theorem zjE (m : Nat) : (m : Int).tmod 128 = ((m % 128 : Nat) : Int) := by rw [Int.tmod_eq_emod_of_nonneg (by omega)]; rfl
theorem zow (m : Nat) : (m : Int).tdiv 128 = ((m / 128 : Nat) : Int) := by rw [Int.tdiv_eq_ediv_of_nonneg (by omega)]; rfl
theorem zda {z : Int} (h : -9223372036854775808 ≤ z) (h' : z ≤ 9223372036854775807) : IntKind.i64.wrap z = z := by
 unfold IntKind.wrap; simp [IntKind.signed, IntKind.bits]; omega
theorem znh {m : Nat} (h : m < 256) : IntKind.u8.wrap (m : Int) = ((b8 m).toNat : Int) := by
 rw [zeH h]
 unfold IntKind.wrap; simp [IntKind.signed, IntKind.bits]; omega
theorem zrq (n : Nat) (hn : n < 2 ^ 63) : Calls Tryz.prog 67 #[.int .i64 n] w fun e w' => e = .returned (.string (str (numE n))) ∧ Kp w w' n_ := by
 refine zaa (args := [.int .i64 n]) Tryz.func67 rfl NL ?_; refine GW ?_
 have hb0 := zio w w.heap.size (Nat.le_refl _)
 have K0 : Kp w (w.alloc (.cells #[.pointer none, .slice none 0 0] 93)) n_ := (Kp.refl _ _).alloc _
 generalize w.alloc (.cells #[.pointer none, .slice none 0 0] 93) = w0 at *
 refine Loop.intro (ι := Nat × List UInt8) (fun i => [(0, .int .i64 (i.1 : Nat)), (3, .pointer (some ⟨w.heap.size, 0, none⟩)), (4, .func (.func 123) #[.pointer (some ⟨w.heap.size, 0, none⟩)] #[])])
  (fun i wr => Kp w wr n_ ∧ Bld wr w.heap.size w.heap.size i.2 ∧ i.2 ++ numE i.1 = numE n ∧ i.1 < 2 ^ 63) (fun i => i.1) (n, []) ⟨rfl, rfl, by simp [upd], trivial⟩
  ⟨K0, hb0, rfl, hn⟩ ?_
 rintro ⟨m, pre⟩ g wr ⟨hK, hb, he, hm⟩
 dsimp only at hb he hm ⊢
 refine GW ?_
 have hlen := congrArg List.length he
 have hnl := zbx hn
 have hml := zdA m
 rw [List.length_append] at hlen
 by_cases hlt : 128 ≤ m
 ·refine GO ?_
  rw [zjE]
  refine GO ?_
  rw [show ((m % 128 : Nat) : Int) + 128 = ((m % 128 + 128 : Nat) : Int) by omega, znh (by omega)]
  refine CallS.of (Tryz.call123 _ _) (zdh (b8 (m % 128 + 128)) wr hb (by omega) hK.size) ?_
  rintro e w1 ⟨rfl, hb1, hbe, _⟩
  refine RT ?_
  refine GO ?_
  rw [zow]
  refine GO ?_
  rw [zom hlt hm] at he
  exact ⟨(m / 128, pre ++ [b8 (m % 128 + 128)]), ⟨v_int (zda (by omega) (by omega)), rfl, rfl, trivial⟩, ⟨hK.below' hbe (Nat.le_refl _), hb1, by rw [← he]; simp, by omega⟩, by dsimp only; omega⟩
 ·refine GO ?_
  rw [znh (by omega)]
  refine CallS.of (Tryz.call123 _ _) (zdh (b8 m) wr hb (by omega) hK.size) ?_
  rintro e w1 ⟨rfl, hb1, hbe, _⟩
  refine RT ?_
  have hK1 := hK.below' hbe (Nat.le_refl _)
  refine CallS.of (Tryz.call71 _ _) (zgB w1 hb1 hK1.size) ?_
  rintro e w2 ⟨rfl, hb2, hbe2, _⟩
  refine RT ?_
  rw [zld (by omega)] at he
  exact ⟨by rw [he], hK1.below' hbe2 (Nat.le_refl _)⟩
end
end Go.Proofs.YtennokckmjcefaaGreatDoor
