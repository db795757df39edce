/- Helper lemmas; no conditions of their own. -/
import Derived.Test.YtennokckmjcefaaGreatDoorGMapG
set_option linter.unusedVariables false
set_option maxRecDepth 100000
namespace Go.Mg
open Go.Cs Go.Lib Go.Cd
structure Pst where
 doc : Int
 places : List Int
deriving DecidableEq, Inhabited
theorem numR_enc {n : Nat} (h : n < 2 ^ 63) (r : List UInt8) : numR (some (numE n ++ r)) = (n, some r) := by
 show (match numD 9 false (numE n ++ r) with | none => ((0 : Nat), (none : St)) | some (n, r) => (n, some r)) = _
 simp only [zfN h]
def risesB : Int → List Int → Bool
 | _, [] => true
 | low, n :: l => decide (low ≤ n ∧ n ≤ 1099511627776) && risesB (n + 1) l
theorem risesB_iff : ∀ (l : List Int) (low : Int), risesB low l = true ↔ AscB ltI l ∧ ∀ n ∈ l, low ≤ n ∧ n ≤ 1099511627776
 | [], low => by simp [risesB, AscB]
 | n :: l, low => by
  rw [risesB, yaq, decide_eq_true_eq, risesB_iff l (n + 1)]
  unfold AscB
  rw [yam]
  constructor
  ·rintro ⟨⟨h1, h2⟩, h3, h4⟩
   refine ⟨⟨fun a ha => ?_, h3⟩, fun m hm => ?_⟩
   ·have := h4 a ha; simp only [ltI, decide_eq_true_eq]; omega
   rcases yah.1 hm with rfl | hm
   ·exact ⟨h1, h2⟩
   have := h4 m hm; omega
  rintro ⟨⟨h1, h2⟩, h3⟩
  refine ⟨h3 n yae, h2, fun m hm => ?_⟩
  have a := h1 m hm
  have b := h3 m (yai _ hm)
  simp only [ltI, decide_eq_true_eq] at a; omega
theorem zep : ∀ (l : List Int) (low : Int), risesB low l = true → low ≤ 1099511627777 → (l.length : Int) ≤ 1099511627777 - low
 | [], low, _, h => by simp only [yaE]; omega
 | n :: l, low, h, _ => by
  rw [risesB, yaq, decide_eq_true_eq] at h
  have := zep l (n + 1) h.2 OM
  simp only [yab]; omega
def okPl (p : Pst) : Bool := !p.places.isEmpty && risesB 0 p.places
def zan (l : List Pst) : Bool := l.all okPl && risesB 1 (l.map (·.doc))
theorem zbL {l : List Pst} : zan l = true ↔ (∀ p ∈ l, p.places ≠ [] ∧ risesB 0 p.places = true) ∧ risesB 1 (l.map (·.doc)) = true := by
 unfold zan okPl
 simp
def difs : Int → List Int → List Nat
 | _, [] => []
 | at_, n :: l => (n - at_).toNat :: difs n l
def encN : Int → List Pst → List Nat
 | _, [] => []
 | d, p :: l => (p.doc - d).toNat :: p.places.length :: (difs 0 p.places ++ encN p.doc l)
def encP (l : List Pst) : List UInt8 := if zan l = true then numE l.length ++ (encN 0 l).flatMap numE else []
def stL : St → Nat
 | none => 0
 | some u => u.length
def stepN (n b : Nat) : Nat := if 1099511627776 < b then 1099511627777 else min (n + b) 1099511627777
def dPl : Nat → Nat → St → List Int × St
 | 0, _, s => ([], s)
 | k + 1, a, s => if stL s = 0 then ([], s) else
  (((stepN a (numR s).1 : Nat) : Int) :: (dPl k (stepN a (numR s).1) (numR s).2).1, (dPl k (stepN a (numR s).1) (numR s).2).2)
def dDoc : Nat → Nat → St → List Pst × St
 | 0, _, s => ([], s)
 | k + 1, d, s => if stL s = 0 then ([], s) else
  (⟨((stepN d (numR s).1 : Nat) : Int), (dPl (numR (numR s).2).1 0 (numR (numR s).2).2).1⟩ :: (dDoc k (stepN d (numR s).1) (dPl (numR (numR s).2).1 0 (numR (numR s).2).2).2).1,
   (dDoc k (stepN d (numR s).1) (dPl (numR (numR s).2).1 0 (numR (numR s).2).2).2).2)
def decL (s : List UInt8) : List Pst × St := dDoc (numR (some s)).1 0 (numR (some s)).2
def decP (s : List UInt8) : Option (List Pst) := if (decL s).2 = some [] ∧ encP (decL s).1 = s then some (decL s).1 else none
theorem zkj {a : Nat} {n : Int} (h1 : (a : Int) ≤ n) (h2 : n ≤ 1099511627776) : stepN a (n - a).toNat = n.toNat := by
 unfold stepN
 rw [if_neg OM]
 omega
theorem zne (n : Nat) (r : List UInt8) : stL (some (numE n ++ r)) ≠ 0 := by
 have := zca n
 simp only [stL, yaa]; omega
theorem zoe : ∀ (l : List Int) (a : Nat) (low : Int) (r : List UInt8), risesB low l = true → (a : Int) ≤ low → dPl l.length a (some ((difs a l).flatMap numE ++ r)) = (l, some r)
 | [], a, low, r, _, _ => rfl
 | n :: l, a, low, r, h, ha => by
  rw [risesB, yaq, decide_eq_true_eq] at h
  obtain ⟨⟨h1, h2⟩, h3⟩ := h
  have e : ((n.toNat : Nat) : Int) = n := OM
  have ih := zoe l n.toNat (n + 1) r h3 OM
  rw [e] at ih
  rw [difs, yao, yap, yab, dPl, if_neg (zne _ _), numR_enc OM]
  dsimp only
  rw [zkj OM h2, ih, e]
theorem zkR : ∀ (l : List Pst) (d : Nat) (low : Int) (r : List UInt8), (∀ p ∈ l, risesB 0 p.places = true) → risesB low (l.map (·.doc)) = true → (d : Int) ≤ low → dDoc l.length d (some ((encN d l).flatMap numE ++ r)) = (l, some r)
 | [], d, low, r, _, _, _ => rfl
 | p :: l, d, low, r, hp, h, hd => by
  rw [yas, risesB, yaq, decide_eq_true_eq] at h
  obtain ⟨⟨h1, h2⟩, h3⟩ := h
  have hp1 := hp p yae
  have hl := zep _ _ hp1 OM
  have e : ((p.doc.toNat : Nat) : Int) = p.doc := OM
  have ih := zkR l p.doc.toNat (p.doc + 1) r (fun q hq => hp q (yai _ hq)) h3 OM
  rw [e] at ih
  have h0 := zoe p.places 0 0 ((encN p.doc l).flatMap numE ++ r) hp1 OM
  rw [encN, yao, yao, yaC, yap, yap, yap, yab, dDoc, if_neg (zne _ _), numR_enc OM]
  dsimp only
  rw [numR_enc OM]
  dsimp only
  rw [show (0 : Int) = ((0 : Nat) : Int) from rfl, h0]
  dsimp only
  rw [zkj OM h2, ih, e]
theorem zcz {l : List Pst} (h : zan l = true) : encP l = numE l.length ++ (encN 0 l).flatMap numE := if_pos h
theorem rises_mono {l : List Int} {low low' : Int} (h : risesB low l = true) (hl : low' ≤ low) : risesB low' l = true := by
 rw [risesB_iff] at h ⊢
 exact ⟨h.1, fun n hn => by have := h.2 n hn; omega⟩
theorem zgM : ∀ (l : List Int) (a : Int), risesB a l = true → 0 ≤ a → ∀ n ∈ difs a l, n ≤ 1099511627776
 | [], a, _, _, n, h => by cases h
 | x :: l, a, hr, ha, n, h => by
  rw [risesB, yaq, decide_eq_true_eq] at hr
  rcases yah.1 h with rfl | h
  ·omega
  exact zgM l x (rises_mono hr.2 OM) OM n h
theorem difs_len : ∀ (l : List Int) (a : Int), (difs a l).length = l.length
 | [], _ => rfl
 | x :: l, a => by rw [difs, yab, difs_len l x, yab]
theorem zgD : ∀ (l : List Pst) (d : Int), (∀ p ∈ l, risesB 0 p.places = true) → risesB d (l.map (·.doc)) = true → 0 ≤ d → ∀ n ∈ encN d l, n ≤ 1099511627777
 | [], d, _, _, _, n, h => by cases h
 | p :: l, d, hp, hr, hd, n, h => by
  rw [yas, risesB, yaq, decide_eq_true_eq] at hr
  have hp1 := hp p yae
  have hl := zep _ _ hp1 OM
  rw [encN] at h
  rcases yah.1 h with rfl | h
  ·omega
  rcases yah.1 h with rfl | h
  ·omega
  rcases yaj.1 h with h | h
  ·have := zgM _ _ hp1 OM n h; omega
  exact zgD l p.doc (fun q hq => hp q (yai _ hq)) (rises_mono hr.2 OM) OM n h
theorem encN_len : ∀ (l : List Pst) (d : Int), (encN d l).length = (encN 0 l).length
 | [], _ => rfl
 | p :: l, d => by rw [encN, encN, yab, yab, yaa, yab, yab, yaa]
theorem encN_snoc : ∀ (l : List Pst) (p : Pst), (encN 0 (l ++ [p])).length = (encN 0 l).length + 2 + p.places.length
 | [], p => by simp [encN, difs_len]; omega
 | q :: l, p => by
  rw [yaW, encN, encN, yab, yab, yaa, encN_len (l ++ [p]), encN_snoc l p, yab, yab, yaa, encN_len l q.doc]; omega
theorem zbj : ∀ (l : List Pst) (p : Pst), p ∈ l → p.places.length ≤ (encN 0 l).length
 | q :: l, p, h => by
  rw [encN, yab, yab, yaa, difs_len, encN_len l]
  rcases yah.1 h with rfl | h
  ·omega
  have := zbj l p h; omega
theorem zaZ : ∀ l : List Pst, 2 * l.length ≤ (encN 0 l).length
 | [] => by simp
 | q :: l => by
  have := zaZ l
  have e := encN_len l q.doc
  simp only [encN, yab, yaa]; omega
theorem zfj {l : List Pst} (h : zan l = true) : l.length ≤ 1099511627776 := by
 have := zep _ _ (zbL.1 h).2 OM
 rw [yaf] at this; omega
theorem zbC (l : List Nat) (h : ∀ n ∈ l, n < 2 ^ 63) : (l.flatMap numE).length ≤ 9 * l.length := by
 induction l with
 | nil => simp
 | cons n l ih =>
  have h1 := zap (h n yae)
  have h2 := ih fun m hm => h m (yai _ hm)
  simp only [yao, yaa, yab]; omega
theorem zcT (l : List Pst) : (encP l).length ≤ 9 + 9 * (encN 0 l).length := by
 unfold encP
 split
 ·rename_i h
  have h1 := zbL.1 h
  have h2 := zbC (encN 0 l) fun n hn => by have := zgD l 0 (fun p hp => (h1.1 p hp).2) (rises_mono h1.2 OM) OM n hn; omega
  have h3 := zfj h
  have h4 := zap (show l.length < 2 ^ 63 by omega)
  rw [yaa]; omega
 simp
theorem zqK {l : List Pst} (h : zan l = true) : decL (encP l) = (l, some []) := by
 obtain ⟨h1, h2⟩ := zbL.1 h
 have hl := zfj h
 have := zkR l 0 1 [] (fun p hp => (h1 p hp).2) h2 OM
 rw [yaA] at this
 unfold decL
 rw [zcz h, numR_enc OM]
 exact this
theorem zes {l : List Pst} (h : zan l = true) : decP (encP l) = some l := by
 unfold decP
 rw [zqK h, if_pos ⟨rfl, rfl⟩]
theorem zrf : decL [] = ([], none) := rfl
theorem zde {s : List UInt8} {l : List Pst} : decP s = some l ↔ zan l = true ∧ encP l = s := by
 constructor
 ·intro h
  unfold decP at h
  split at h
  ·rename_i hc
   injection h with h; subst h
   refine ⟨?_, hc.2⟩
   cases hr : zan (decL s).1 with
   | true => rfl
   | false =>
    have h1 := hc.2
    unfold encP at h1
    rw [hr, if_neg (by decide)] at h1
    have h2 := hc.1
    rw [← h1, zrf] at h2; cases h2
  cases h
 rintro ⟨h, rfl⟩; exact zes h
section
variable {α : Type} (c : α → α → Int)
def bothA (a : α) (f : List α → List (Option α × Option α)) : List α → List (Option α × Option α)
 | [] => (some a, none) :: f []
 | b :: bs => if c a b < 0 then (some a, none) :: f (b :: bs) else if c a b = 0 then (some a, some b) :: f bs else (none, some b) :: bothA a f bs
def bothL : List α → List α → List (Option α × Option α)
 | [], bs => bs.map fun b => (none, some b)
 | a :: aas, bs => bothA c a (bothL aas) bs
theorem zaV (aas : List α) : bothL c aas [] = aas.map fun a => (some a, none) := by
 induction aas with
 | nil => rfl
 | cons a aas ih => show (some a, none) :: bothL c aas [] = _; rw [ih]; rfl
theorem zbh (a b : α) (aas bs : List α) : bothL c (a :: aas) (b :: bs) = if c a b < 0 then (some a, none) :: bothL c aas (b :: bs) else if c a b = 0 then (some a, some b) :: bothL c aas bs else (none, some b) :: bothL c (a :: aas) bs := rfl
end
section
variable {α : Type} (c : α → α → Int)
theorem zhd (a : α) (aas : List α) (f : List α → List (Option α × Option α)) (hf : ∀ bs, ∀ p ∈ f bs, (p.1 ≠ none ∨ p.2 ≠ none) ∧ (∀ x, p.1 = some x → x ∈ aas) ∧ ∀ y, p.2 = some y → y ∈ bs) (hl : ∀ bs, (f bs).length ≤ aas.length + bs.length) :
  ∀ bs, (∀ p ∈ bothA c a f bs, (p.1 ≠ none ∨ p.2 ≠ none) ∧ (∀ x, p.1 = some x → x ∈ a :: aas) ∧ ∀ y, p.2 = some y → y ∈ bs) ∧ (bothA c a f bs).length ≤ aas.length + 1 + bs.length
 | [] => by
  constructor
  ·intro p hp
   rcases yah.1 hp with rfl | hp
   ·exact ⟨.inl (by simp), fun x e => by injection e with e; subst e; exact yae, fun y e => by cases e⟩
   obtain ⟨h1, h2, h3⟩ := hf _ p hp
   exact ⟨h1, fun x e => yai _ (h2 x e), h3⟩
  have := hl []
  simp only [bothA, yab]; simp only [yaE] at *; omega
 | b :: bs => by
  have ih := zhd a aas f hf hl bs
  have hlb := hl (b :: bs)
  have hlb2 := hl bs
  unfold bothA
  constructor
  ·intro p hp
   split at hp
   ·rcases yah.1 hp with rfl | hp
    ·exact ⟨.inl (by simp), fun x e => by injection e with e; subst e; exact yae, fun y e => by cases e⟩
    obtain ⟨h1, h2, h3⟩ := hf _ p hp
    exact ⟨h1, fun x e => yai _ (h2 x e), h3⟩
   split at hp
   ·rcases yah.1 hp with rfl | hp
    ·exact ⟨.inl (by simp), fun x e => by injection e with e; subst e; exact yae, fun y e => by injection e with e; subst e; exact yae⟩
    obtain ⟨h1, h2, h3⟩ := hf _ p hp
    exact ⟨h1, fun x e => yai _ (h2 x e), fun y e => yai _ (h3 y e)⟩
   rcases yah.1 hp with rfl | hp
   ·exact ⟨.inr (by simp), fun x e => (by cases e), fun y e => by injection e with e; subst e; exact yae⟩
   obtain ⟨h1, h2, h3⟩ := ih.1 p hp
   exact ⟨h1, h2, fun y e => yai _ (h3 y e)⟩
  split
  ·simp only [yab] at *; omega
  split
  ·simp only [yab] at *; omega
  have := ih.2; simp only [yab] at *; omega
theorem zaN : ∀ (aas bs : List α), (∀ p ∈ bothL c aas bs, (p.1 ≠ none ∨ p.2 ≠ none) ∧ (∀ x, p.1 = some x → x ∈ aas) ∧ ∀ y, p.2 = some y → y ∈ bs) ∧ (bothL c aas bs).length ≤ aas.length + bs.length
 | [], bs => by
  refine ⟨fun p hp => ?_, by simp [bothL]⟩
  obtain ⟨b, hb, rfl⟩ := yay.1 hp
  exact ⟨.inr (by simp), fun x e => (by cases e), fun y e => by injection e with e; subst e; exact hb⟩
 | a :: aas, bs => by
  have := zhd c a aas (bothL c aas) (fun bs => (zaN aas bs).1) (fun bs => (zaN aas bs).2) bs
  exact ⟨this.1, by have := this.2; rw [yab]; exact this⟩
theorem zfv {β : Type} (f : β → α) : ∀ (aas bs : List β), bothL c (aas.map f) (bs.map f) = (bothL (fun x y => c (f x) (f y)) aas bs).map fun p => (p.1.map f, p.2.map f)
 | [], bs => by simp [bothL, ybe]
 | a :: aas, bs => by
  have ih := zfv f aas
  induction bs with
  | nil => rw [ybg, zaV, zaV, ybe, ybe]; rfl
  | cons b bs ihb =>
   rw [yas, yas, zbh, zbh]
   split
   ·rw [yas, ← ih]; rfl
   split
   ·rw [yas, ← ih]; rfl
   rw [yas, ← ihb]; rfl
end
def cmpI (x y : Int) : Int := if x < y then -1 else if y < x then 1 else 0
def fstO (p : Option Int × Option Int) : Int := p.1.getD (p.2.getD 0)
def unI (x y : List Int) : List Int := (bothL cmpI x y).map fstO
def orO : Option Pst × Option Pst → Pst
 | (some x, some y) => ⟨x.doc, unI x.places y.places⟩
 | (some x, none) => x
 | (none, some y) => y
 | (none, none) => default
def cmpD (x y : Pst) : Int := cmpI x.doc y.doc
def orP (a b : List Pst) : List Pst := (bothL cmpD a b).map orO
theorem zcV (x : List Int) : unI x [] = x := by
 unfold unI; rw [zaV, List.map_map]
 conv => rhs; rw [← ybY x]
 rfl
theorem zdE (x : List Int) : unI [] x = x := by
 show (x.map fun b => (none, some b)).map fstO = x
 rw [ybe]
 conv => rhs; rw [← ybY x]
 rfl
theorem zlk (a b : Int) (x y : List Int) : unI (a :: x) (b :: y) = if a < b then a :: unI x (b :: y) else if b < a then b :: unI (a :: x) y else a :: unI x y := by
 unfold unI
 rw [zbh]
 unfold cmpI
 by_cases h1 : a < b
 ·rw [if_pos h1, if_pos h1, if_pos (by decide)]; rfl
 rw [if_neg h1, if_neg h1]
 by_cases h2 : b < a
 ·rw [if_pos h2, if_pos h2, if_neg (by decide), if_neg (by decide)]; rfl
 rw [if_neg h2, if_neg h2, if_neg (by decide), if_pos rfl]; rfl
theorem zdl : ∀ (n : Nat) (x y : List Int), x.length + y.length ≤ n → AscB ltI x → AscB ltI y → AscB ltI (unI x y) ∧ ∀ z, z ∈ unI x y ↔ z ∈ x ∨ z ∈ y
 | _, [], y, _, _, hy => by rw [zdE]; exact ⟨hy, fun z => by simp⟩
 | _, a :: x, [], _, hx, _ => by rw [zcV]; exact ⟨hx, fun z => by simp⟩
 | 0, a :: x, b :: y, h, _, _ => by simp at h
 | n + 1, a :: x, b :: y, h, hx, hy => by
  have hx' := yam.1 hx
  have hy' := yam.1 hy
  have hxx := hx'.1
  have hyy := hy'.1
  simp only [ltI, decide_eq_true_eq] at hxx hyy
  simp only [yab] at h
  rw [zlk]
  by_cases h1 : a < b
  ·rw [if_pos h1]
   obtain ⟨i1, i2⟩ := zdl n x (b :: y) (by simp only [yab]; omega) hx'.2 hy
   refine ⟨yam.2 ⟨fun z hz => ?_, i1⟩, fun z => by rw [yah, i2]; simp only [yah]; exact or_assoc.symm⟩
   simp only [ltI, decide_eq_true_eq]
   rcases (i2 z).1 hz with h | h
   ·exact hxx z h
   rcases yah.1 h with rfl | h
   ·exact h1
   have := hyy z h; omega
  rw [if_neg h1]
  by_cases h2 : b < a
  ·rw [if_pos h2]
   obtain ⟨i1, i2⟩ := zdl n (a :: x) y (by simp only [yab]; omega) hx hy'.2
   refine ⟨yam.2 ⟨fun z hz => ?_, i1⟩, fun z => by rw [yah, i2]; simp only [yah]; exact or_left_comm⟩
   simp only [ltI, decide_eq_true_eq]
   rcases (i2 z).1 hz with h | h
   ·rcases yah.1 h with rfl | h
    ·exact h2
    have := hxx z h; omega
   exact hyy z h
  rw [if_neg h2]
  obtain rfl : a = b := OM
  obtain ⟨i1, i2⟩ := zdl n x y OM hx'.2 hy'.2
  refine ⟨yam.2 ⟨fun z hz => ?_, i1⟩, fun z => by
   rw [yah, i2]; simp only [yah]
   constructor
   ·rintro (h | h | h)
    ·exact .inl (.inl h)
    ·exact .inl (.inr h)
    exact .inr (.inr h)
   rintro ((h | h) | (h | h))
   ·exact .inl h
   ·exact .inr (.inl h)
   ·exact .inl h
   exact .inr (.inr h)⟩
  simp only [ltI, decide_eq_true_eq]
  rcases (i2 z).1 hz with h | h
  ·exact hxx z h
  exact hyy z h
theorem zsK {x y : List Int} (hx : AscB ltI x) (hy : AscB ltI y) : AscB ltI (unI x y) := (zdl _ x y (yag _) hx hy).1
theorem mem_unI {x y : List Int} (hx : AscB ltI x) (hy : AscB ltI y) (z : Int) : z ∈ unI x y ↔ z ∈ x ∨ z ∈ y := (zdl _ x y (yag _) hx hy).2 z
def atD (l : List Pst) (d : Int) : List Int := match l.find? (fun p => decide (p.doc = d)) with | some p => p.places | none => []
theorem atD_cons (p : Pst) (l : List Pst) (d : Int) : atD (p :: l) d = if p.doc = d then p.places else atD l d := by
 unfold atD
 rw [List.find?_cons]
 by_cases h : p.doc = d
 ·rw [if_pos h, decide_eq_true h]
 rw [if_neg h, decide_eq_false h]
def AscP (l : List Pst) : Prop := l.Pairwise fun a b => a.doc < b.doc
theorem zeh {l : List Pst} : AscP l ↔ AscB ltI (l.map (·.doc)) := by
 unfold AscP AscB
 rw [ybA]
 simp only [ltI, decide_eq_true_eq]
theorem zkK {l : List Pst} {d : Int} (h : ∀ p ∈ l, d < p.doc) : atD l d = [] := by
 unfold atD
 rw [List.find?_eq_none.2 fun p hp => by have := h p hp; simp only [decide_eq_true_eq]; omega]
theorem zcX {l : List Pst} (h : AscP l) {p : Pst} (hp : p ∈ l) : atD l p.doc = p.places := by
 induction l with
 | nil => cases hp
 | cons q l ih =>
  rw [atD_cons]
  have h' := yam.1 h
  rcases yah.1 hp with rfl | hp
  ·rw [if_pos rfl]
  have := h'.1 p hp
  rw [if_neg OM]; exact ih h'.2 hp
theorem zoL {l : List Pst} {d : Int} (h : atD l d ≠ []) : ∃ p ∈ l, p.doc = d ∧ p.places = atD l d := by
 unfold atD at h ⊢
 cases hf : l.find? (fun p => decide (p.doc = d)) with
 | none => rw [hf] at h; exact absurd rfl h
 | some p => exact ⟨p, List.mem_of_find?_eq_some hf, of_decide_eq_true (List.find?_some (p := fun p => decide (Pst.doc p = d)) hf), rfl⟩
theorem zlK (a b : Pst) (x y : List Pst) : orP (a :: x) (b :: y) = if a.doc < b.doc then a :: orP x (b :: y) else if b.doc < a.doc then b :: orP (a :: x) y else ⟨a.doc, unI a.places b.places⟩ :: orP x y := by
 unfold orP
 rw [zbh]
 unfold cmpD cmpI
 by_cases h1 : a.doc < b.doc
 ·rw [if_pos h1, if_pos h1, if_pos (by decide)]; rfl
 rw [if_neg h1, if_neg h1]
 by_cases h2 : b.doc < a.doc
 ·rw [if_pos h2, if_pos h2, if_neg (by decide), if_neg (by decide)]; rfl
 rw [if_neg h2, if_neg h2, if_neg (by decide), if_pos rfl]; rfl
theorem zeI (x : List Pst) : orP x [] = x := by
 unfold orP; rw [zaV, List.map_map]
 conv => rhs; rw [← ybY x]
 rfl
theorem zeG (x : List Pst) : orP [] x = x := by
 show (x.map fun b => (none, some b)).map orO = x
 rw [ybe]
 conv => rhs; rw [← ybY x]
 rfl
theorem zeo : ∀ (n : Nat) (x y : List Pst), x.length + y.length ≤ n → AscP x → AscP y →
  AscP (orP x y) ∧ (∀ p ∈ orP x y, (∃ q ∈ x, q.doc = p.doc) ∨ ∃ q ∈ y, q.doc = p.doc) ∧ ∀ d, atD (orP x y) d = unI (atD x d) (atD y d)
 | _, [], y, _, _, hy => by rw [zeG]; exact ⟨hy, fun p hp => .inr ⟨p, hp, rfl⟩, fun d => (zdE _).symm⟩
 | _, a :: x, [], _, hx, _ => by rw [zeI]; exact ⟨hx, fun p hp => .inl ⟨p, hp, rfl⟩, fun d => (zcV _).symm⟩
 | 0, a :: x, b :: y, h, _, _ => by simp at h
 | n + 1, a :: x, b :: y, h, hx, hy => by
  have hx' := yam.1 hx
  have hy' := yam.1 hy
  simp only [yab] at h
  rw [zlK]
  by_cases h1 : a.doc < b.doc
  ·rw [if_pos h1]
   obtain ⟨i1, i2, i3⟩ := zeo n x (b :: y) (by simp only [yab]; omega) hx'.2 hy
   refine ⟨yam.2 ⟨fun z hz => ?_, i1⟩, fun p hp => ?_, fun d => ?_⟩
   ·rcases i2 z hz with ⟨q, hq, e⟩ | ⟨q, hq, e⟩
    ·have := hx'.1 q hq; omega
    rcases yah.1 hq with rfl | hq
    ·omega
    have := hy'.1 q hq; omega
   ·rcases yah.1 hp with rfl | hp
    ·exact .inl ⟨p, yae, rfl⟩
    rcases i2 p hp with ⟨q, hq, e⟩ | h
    ·exact .inl ⟨q, yai _ hq, e⟩
    exact .inr h
   rw [atD_cons, i3, atD_cons a x]
   by_cases hd : a.doc = d
   ·rw [if_pos hd, if_pos hd, zkK (l := b :: y) (fun p hp => by rcases yah.1 hp with rfl | hp; omega; have := hy'.1 p hp; omega), zcV]
   rw [if_neg hd, if_neg hd]
  rw [if_neg h1]
  by_cases h2 : b.doc < a.doc
  ·rw [if_pos h2]
   obtain ⟨i1, i2, i3⟩ := zeo n (a :: x) y (by simp only [yab]; omega) hx hy'.2
   refine ⟨yam.2 ⟨fun z hz => ?_, i1⟩, fun p hp => ?_, fun d => ?_⟩
   ·rcases i2 z hz with ⟨q, hq, e⟩ | ⟨q, hq, e⟩
    ·rcases yah.1 hq with rfl | hq
     ·omega
     have := hx'.1 q hq; omega
    have := hy'.1 q hq; omega
   ·rcases yah.1 hp with rfl | hp
    ·exact .inr ⟨p, yae, rfl⟩
    rcases i2 p hp with h | ⟨q, hq, e⟩
    ·exact .inl h
    exact .inr ⟨q, yai _ hq, e⟩
   rw [atD_cons, i3, atD_cons b y]
   by_cases hd : b.doc = d
   ·rw [if_pos hd, if_pos hd, zkK (l := a :: x) (fun p hp => by rcases yah.1 hp with rfl | hp; omega; have := hx'.1 p hp; omega), zdE]
   rw [if_neg hd, if_neg hd]
  rw [if_neg h2]
  have he : a.doc = b.doc := OM
  obtain ⟨i1, i2, i3⟩ := zeo n x y OM hx'.2 hy'.2
  refine ⟨yam.2 ⟨fun z hz => ?_, i1⟩, fun p hp => ?_, fun d => ?_⟩
  ·dsimp only
   rcases i2 z hz with ⟨q, hq, e⟩ | ⟨q, hq, e⟩
   ·have := hx'.1 q hq; omega
   have := hy'.1 q hq; omega
  ·rcases yah.1 hp with rfl | hp
   ·exact .inl ⟨a, yae, rfl⟩
   rcases i2 p hp with ⟨q, hq, e⟩ | ⟨q, hq, e⟩
   ·exact .inl ⟨q, yai _ hq, e⟩
   exact .inr ⟨q, yai _ hq, e⟩
  rw [atD_cons, i3, atD_cons a x, atD_cons b y]
  dsimp only
  by_cases hd : a.doc = d
  ·rw [if_pos hd, if_pos hd, if_pos OM]
  rw [if_neg hd, if_neg hd, if_neg OM]
theorem zbg {l : List Pst} (h : zan l = true) : AscP l := zeh.2 ((risesB_iff _ _).1 (zbL.1 h).2).1
theorem zaw {l : List Pst} : zan l = true ↔ AscP l ∧ ∀ p ∈ l, 1 ≤ p.doc ∧ p.doc ≤ 1099511627776 ∧ p.places ≠ [] ∧ AscB ltI p.places ∧ ∀ n ∈ p.places, 0 ≤ n ∧ n ≤ 1099511627776 := by
 rw [zbL, risesB_iff, ← zeh]
 constructor
 ·rintro ⟨h1, h2, h3⟩
  exact ⟨h2, fun p hp => ⟨(h3 p.doc (yax hp)).1, (h3 p.doc (yax hp)).2, (h1 p hp).1, (risesB_iff _ _).1 (h1 p hp).2⟩⟩
 rintro ⟨h1, h2⟩
 refine ⟨fun p hp => ⟨(h2 p hp).2.2.1, (risesB_iff _ _).2 (h2 p hp).2.2.2⟩, h1, fun n hn => ?_⟩
 obtain ⟨p, hp, rfl⟩ := yay.1 hn
 exact ⟨(h2 p hp).1, (h2 p hp).2.1⟩
theorem znu {a b : List Pst} (ha : zan a = true) (hb : zan b = true) (h : ∀ d, atD a d = atD b d) : a = b := by
 rw [zaw] at ha hb
 have key : ∀ {x y : List Pst}, AscP x → AscP y → (∀ p ∈ x, p.places ≠ []) → (∀ d, atD x d = atD y d) → ∀ p ∈ x, p ∈ y := fun {x y} hx hy hn hxy p hp => by
  have h1 := zcX hx hp
  obtain ⟨q, hq, e1, e2⟩ := zoL (l := y) (d := p.doc) (by rw [← hxy, h1]; exact hn p hp)
  rw [← hxy, h1] at e2
  obtain ⟨d1, l1⟩ := p
  obtain ⟨d2, l2⟩ := q
  dsimp only at e1 e2
  subst e1 e2
  exact hq
 have h1 := key ha.1 hb.1 (fun p hp => (ha.2 p hp).2.2.1) h
 have h2 := key hb.1 ha.1 (fun p hp => (hb.2 p hp).2.2.1) fun d => (h d).symm
 have sto : ∀ {x y : List Pst}, AscP x → AscP y → (∀ p, p ∈ x ↔ p ∈ y) → x = y := by
  intro x
  induction x with
  | nil => intro y _ _ hm; cases y with
   | nil => rfl
   | cons q y => exact absurd ((hm q).2 yae) (by simp)
  | cons p x ih =>
   intro y hx hy hm
   cases y with
   | nil => exact absurd ((hm p).1 yae) (by simp)
   | cons q y =>
    have hx' := yam.1 hx
    have hy' := yam.1 hy
    have e : p = q := by
     rcases yah.1 ((hm p).1 yae) with h | h
     ·exact h
     rcases yah.1 ((hm q).2 yae) with h' | h'
     ·exact h'.symm
     have := hx'.1 q h'; have := hy'.1 p h; omega
    subst e
    congr 1
    refine ih hx'.2 hy'.2 fun z => ?_
    have := hm z
    simp only [yah] at this
    constructor
    ·intro hz
     rcases this.1 (.inr hz) with rfl | h
     ·have := hx'.1 z hz; omega
     exact h
    intro hz
    rcases this.2 (.inr hz) with rfl | h
    ·have := hy'.1 z hz; omega
    exact h
 exact sto ha.1 hb.1 fun p => ⟨h1 p, h2 p⟩
theorem zub {x y : List Int} (h : x ≠ []) : unI x y ≠ [] := by
 cases x with
 | nil => exact absurd rfl h
 | cons a x =>
  cases y with
  | nil => rw [zcV]; exact h
  | cons b y => rw [zlk]; split; simp; split <;> simp
theorem zgP {x y : List Int} : unI x y = [] ↔ x = [] ∧ y = [] := by
 constructor
 ·intro h
  cases x with
  | nil => rw [zdE] at h; exact ⟨rfl, h⟩
  | cons a x => exact absurd h (zub (by simp))
 rintro ⟨rfl, rfl⟩; rfl
theorem zgg {l : List Pst} (h : zan l = true) (d : Int) : AscB ltI (atD l d) ∧ ∀ n ∈ atD l d, 0 ≤ n ∧ n ≤ 1099511627776 := by
 by_cases hn : atD l d = []
 ·rw [hn]; exact ⟨.nil, fun n h => by cases h⟩
 obtain ⟨p, hp, _, e⟩ := zoL hn
 rw [← e]; exact ((zaw.1 h).2 p hp).2.2.2
theorem zdV {a b : List Pst} (ha : zan a = true) (hb : zan b = true) : zan (orP a b) = true := by
 have ha' := zaw.1 ha
 have hb' := zaw.1 hb
 obtain ⟨h1, h2, h3⟩ := zeo _ a b (yag _) ha'.1 hb'.1
 rw [zaw]
 refine ⟨h1, fun p hp => ?_⟩
 have hat := h3 p.doc
 rw [zcX h1 hp] at hat
 have pa := zgg ha p.doc
 have pb := zgg hb p.doc
 have hne : p.places ≠ [] := by
  rw [hat]
  intro e
  obtain ⟨e1, e2⟩ := zgP.1 e
  rcases h2 p hp with ⟨q, hq, e⟩ | ⟨q, hq, e⟩
  ·rw [← e, zcX ha'.1 hq] at e1; exact (ha'.2 q hq).2.2.1 e1
  rw [← e, zcX hb'.1 hq] at e2; exact (hb'.2 q hq).2.2.1 e2
 refine ⟨?_, ?_, hne, by rw [hat]; exact zsK pa.1 pb.1, fun n hn => ?_⟩
 ·rcases h2 p hp with ⟨q, hq, e⟩ | ⟨q, hq, e⟩
  ·rw [← e]; exact (ha'.2 q hq).1
  rw [← e]; exact (hb'.2 q hq).1
 ·rcases h2 p hp with ⟨q, hq, e⟩ | ⟨q, hq, e⟩
  ·rw [← e]; exact (ha'.2 q hq).2.1
  rw [← e]; exact (hb'.2 q hq).2.1
 rw [hat, mem_unI pa.1 pb.1] at hn
 rcases hn with h | h
 ·exact pa.2 n h
 exact pb.2 n h
theorem zhP {a b : List Pst} (ha : zan a = true) (hb : zan b = true) (d : Int) : atD (orP a b) d = unI (atD a d) (atD b d) :=
 (zeo _ a b (yag _) (zbg ha) (zbg hb)).2.2 d
end Go.Mg
namespace Go.Vc
open Go Go.Pw Go.RowKit
def putPs : List Tmp → List Value → Fr → Fr
 | p :: ps, v :: vs, f => putPs ps vs (upd f p v)
 | _, _, f => f
theorem zkH {n : Nat} : ∀ (ps : List Tmp) (vs : List Value) (f : Fr), Ok n f → (ps.all fun p => Nat.ble (p + 1) n) = true → Ok n (putPs ps vs f) ∧
  (ps.zip vs).foldl (fun tmps (x : Tmp × Value) => tmps.setIfInBounds x.1 x.2) (frArr n f) = frArr n (putPs ps vs f)
 | [], _, f, hf, _ => ⟨hf, rfl⟩
 | _ :: _, [], f, hf, _ => ⟨hf, rfl⟩
 | p :: ps, v :: vs, f, hf, h => by
  simp only [List.all_cons, yaq] at h
  have hp : p < n := Nat.le_of_ble_eq_true h.1
  obtain ⟨h1, h2⟩ := zkH ps vs (upd f p v) (zrU hf hp v) h.2
  refine ⟨h1, ?_⟩
  simp only [List.zip_cons_cons, ybC, putPs, zir hp v]
  exact h2
structure Rec2 (D : Nat) (w w' : World) : Prop where
 d : w'.heap[D]? = w.heap[D]?
 l : w'.heap[D + 1]? = w.heap[D + 1]?
theorem Rec2.of {D : Nat} {w w' : World} {c : Nat → Prop} (k : Kp w w' c) (h : D + 1 < w.heap.size) (h0 : ¬ c D) (h1 : ¬ c (D + 1)) : Rec2 D w w' := ⟨k.block _ OM h0, k.block _ h h1⟩
def zoK {α : Type} (D : Nat) (I : List α → World → Prop) (Ix : Code → List α → World → Prop) (xs : List α) (W : World) : Exit → Fr → World → Prop
 | .normal, _, W' => Ret (Rec2 D W W' ∧ I xs W')
 | .ret, _, W' => Ret (Rec2 D W W' ∧ Ix .ret xs W')
 | .exit id, _, W' => Ret (Rec2 D W W' ∧ Ix (.exit id) xs W')
 | _, _, _ => False
structure Body (p : Prop) : Prop where
 h : p
def asgK {α : Type} (P : Program) (n : Nat) (D : Nat) (I : List α → World → Prop) (Ix : Code → List α → World → Prop) (xs : List α) (W : World) (body : Code) : Exit → Fr → World → Prop
 | .normal, g, W1 => Body (Rec2 D W W1 ∧ ∀ W2, Kp W1 W2 (one_ (D + 1)) → W2.heap.size = W1.heap.size → Sat P n (zoK D I Ix xs W2) .normal [.code body] g W2)
 | _, _, _ => False
theorem zbI (w : World) (r : Nat) (o : Obj) : (w.putObj r o).heap.size = w.heap.size := by simp [World.putObj]
theorem zaT (w : World) (r : Nat) (o : Obj) : Kp w (w.putObj r o) (one_ r) := ⟨rfl, rfl, rfl, by rw [zbI]; exact yag _, fun k _ hn => World.putObj_heap_other hn⟩
section
variable {P : Program} {n : Nat} {K : Exit → Fr → World → Prop} {ps : Array Tmp} {assign body : Code} {t : List It} {g : Operand} {fg : Nat → Value} {dl : DL} {w : World} {gf : Nat} {lb : Array Value} {α : Type}
theorem zkE {D fn : Nat} {rec : Go.Loop} {W : World} {vs : List Value} {I : List α → World → Prop} {Ix : Code → List α → World → Prop} {xs : List α} {R : Value → World → Prop} (hf : Ok n ⟨fg, dl⟩)
  (hr : rec = { state := .ready, pending := none, fn := fn, tmps := frArr n ⟨fg, dl⟩, params := ps, assign := assign, body := body, defers := D })
  (hl : W.heap[D + 1]? = some (.loop rec)) (hvs : vs.length = ps.size) (hps : (ps.toList.all fun p => Nat.ble (p + 1) n) = true) (hpa : zbp assign = true) (hpb : zbp body = true)
  (round : Sat P n (asgK P n D I Ix xs W body) .normal [.code assign] (putPs ps.toList vs ⟨fg, .nil⟩) W)
  (k1 : ∀ W3 W4, W3.heap[D + 1]? = some (.loop { rec with state := .busy }) → W3.heap[D]? = W.heap[D]? → I xs W3 → W4 = W3.putObj (D + 1) (.loop rec) → R (.bool true) W4)
  (k2 : ∀ c W3 W4, W3.heap[D + 1]? = some (.loop { rec with state := .busy }) → W3.heap[D]? = W.heap[D]? → Ix c xs W3 → W4 = W3.putObj (D + 1) (.loop { rec with state := .done, pending := some c }) → R (.bool false) W4) :
  YieldS P (D + 1) vs W R := by
 have hfr : rec.fn = fn ∧ rec.tmps = frArr n ⟨fg, dl⟩ ∧ rec.params = ps ∧ rec.assign = assign ∧ rec.body = body ∧ rec.state = .ready ∧ rec.pending = none := by subst hr; exact ⟨rfl, rfl, rfl, rfl, rfl, rfl, rfl⟩
 obtain ⟨e1, e2, e3, e4, e5, e6, e7⟩ := hfr
 have hy := run_yield (P := P) (args := vs.toArray) hl (by rw [e3]; simpa using hvs)
 rw [e1, e2, e3, e4, e5] at hy
 obtain ⟨hg0, hz⟩ := zkH ps.toList vs ⟨fg, dl⟩ hf hps
 have hz' : (ps.zip vs.toArray).foldl (fun tmps (x : Tmp × Value) => tmps.setIfInBounds x.1 x.2) (frArr n ⟨fg, dl⟩) = frArr n (putPs ps.toList vs ⟨fg, dl⟩) := by
  rw [← hz]
  obtain ⟨pl⟩ := ps
  simp [← List.foldl_toArray', List.zip_toArray]
 have hsame : ∀ (pl : List Tmp) (vs : List Value) (a : Nat → Value) (d d' : DL), (putPs pl vs ⟨a, d⟩).g = (putPs pl vs ⟨a, d'⟩).g ∧ (putPs pl vs ⟨a, d⟩).ds = d := by
  intro pl
  induction pl with
  | nil => intro vs a d d'; exact ⟨rfl, rfl⟩
  | cons p pl ih =>
   intro vs a d d'
   cases vs with
   | nil => exact ⟨rfl, rfl⟩
   | cons v vs => exact ih vs _ d d'
 have hact : act n (putPs ps.toList vs ⟨fg, .nil⟩) = { tmps := frArr n (putPs ps.toList vs ⟨fg, dl⟩), defers := [] } := by
  obtain ⟨h1, h2⟩ := hsame ps.toList vs fg .nil dl
  simp only [act, frArr, h1, h2]; rfl
 refine ⟨fn, _, assign, body, hy, ?_⟩
 refine roundIn_of_wpIn trivial ?_
 have hz'' : (ps.zip vs.toArray).foldl (fun tmps (x : Tmp × Value) => match x with | (t, a) => tmps.setIfInBounds t a) (frArr n ⟨fg, dl⟩) = frArr n (putPs ps.toList vs ⟨fg, dl⟩) := hz'
 rw [hz'', ← hact]
 have hok : Ok n (putPs ps.toList vs ⟨fg, .nil⟩) := by
  intro j hj
  rw [(hsame ps.toList vs fg .nil dl).1]; exact hg0 j hj
 have h1 := (show assign.wpX P (LiftE n (after P n [] (asgK P n D I Ix xs W body))) (act n (putPs ps.toList vs ⟨fg, .nil⟩)) W from round.h hok) (some (D + 1)) (.inr hpa)
 refine wpIn_mono h1 fun e a W1 he => ?_
 obtain ⟨g', hg', rfl, hk⟩ := he
 have hk : asgK P n D I Ix xs W body e g' W1 := hk
 cases e with
 | normal =>
  obtain ⟨hrec, hbody⟩ := Body.h hk
  have hl1 : W1.heap[D + 1]? = some (.loop rec) := hrec.l.trans hl
  refine ⟨_, run_beginRound hl1 e6, ?_⟩
  have hlt : D + 1 < W1.heap.size := (Array.getElem?_eq_some_iff.1 hl1).1
  have hl2 : (W1.putObj (D + 1) (.loop { rec with state := .busy })).heap[D + 1]? = some (.loop { rec with state := .busy }) := World.putObj_heap_same hlt
  have hd2 : (W1.putObj (D + 1) (.loop { rec with state := .busy })).heap[D]? = W.heap[D]? := (World.putObj_heap_other OM).trans hrec.d
  have hb := hbody (W1.putObj (D + 1) (.loop { rec with state := .busy })) (zaT _ _ _) (zbI _ _ _)
  refine wpIn_mono ((show body.wpX P (LiftE n (after P n [] (zoK D I Ix xs _))) (act n g') _ from hb.h hg') (some (D + 1)) (.inr hpb)) fun e a W3 he => ?_
  obtain ⟨g3, hg3, rfl, hk3⟩ := he
  have hk3 : zoK D I Ix xs _ e g3 W3 := hk3
  have fin : ∀ (j : Option Code), Rec2 D (W1.putObj (D + 1) (.loop { rec with state := .busy })) W3 →
    W3.heap[D + 1]? = some (.loop { rec with state := .busy }) ∧ W3.heap[D]? = W.heap[D]? ∧
    (Instr.endRound (D + 1) j).run P W3 = .ok (.bool j.isNone) (W3.putObj (D + 1) (.loop { rec with state := if j.isNone then .ready else .done, pending := j })) := fun j hr2 => by
   have h3 := hr2.l.trans hl2
   exact ⟨h3, hr2.d.trans hd2, run_endRound (r := { rec with state := .busy }) j h3⟩
  cases e with
  | normal =>
   obtain ⟨hr2, hI⟩ := Ret.h hk3
   obtain ⟨h3, h4, h5⟩ := fin none hr2
   refine ⟨_, _, h5, _, rfl, k1 W3 _ h3 h4 hI ?_⟩
   congr 2
   subst hr; rfl
  | ret =>
   obtain ⟨hr2, hI⟩ := Ret.h hk3
   obtain ⟨h3, h4, h5⟩ := fin (some .ret) hr2
   exact ⟨_, _, h5, _, rfl, k2 _ W3 _ h3 h4 hI rfl⟩
  | exit id =>
   obtain ⟨hr2, hI⟩ := Ret.h hk3
   obtain ⟨h3, h4, h5⟩ := fin (some (.exit id)) hr2
   exact ⟨_, _, h5, _, rfl, k2 _ W3 _ h3 h4 hI rfl⟩
  | goto id => exact hk3.elim
  | panic ch => exact hk3.elim
  | outgrown => exact hk3.elim
 | _ => exact hk.elim
end
end Go.Vc
namespace Go.Vc
open Go Go.Pw
theorem YieldS.of {P : Program} {l : Nat} {args : List Value} {w : World} {R K : Value → World → Prop} (h : YieldS P l args w R) (k : ∀ v w', R v w' → K v w') : YieldS P l args w K := by
 obtain ⟨f, tmps, assign, body, h1, h2⟩ := h.h
 exact ⟨f, tmps, assign, body, h1, h2.mono fun e w' ⟨v, e1, e2⟩ => ⟨v, e1, k v w' e2⟩⟩
end Go.Vc
namespace Go.Proofs.YtennokckmjcefaaGreatDoor
open Go.Shelf Go.RowKit Go.Pw Go.Vc Go.Cs Go.Lib Go.Cd
section
variable {w : World}
theorem tmod_nat (m : Nat) : (m : Int).tmod 128 = ((m % 128 : Nat) : Int) := by rw [Int.tmod_eq_emod_of_nonneg OM]; rfl
theorem zli (m : Nat) : (m : Int).tdiv 128 = ((m / 128 : Nat) : Int) := by rw [Int.tdiv_eq_ediv_of_nonneg OM]; rfl
theorem wrap_i64 {z : Int} (h : -9223372036854775808 ≤ z) (h' : z ≤ 9223372036854775807) : IntKind.i64.wrap z = z := by
 unfold IntKind.wrap; simp [IntKind.signed, IntKind.bits]; omega
theorem zhU {m : Nat} (h : m < 256) : IntKind.u8.wrap (m : Int) = ((b8 m).toNat : Int) := by
 rw [zfl h]
 unfold IntKind.wrap; simp [IntKind.signed, IntKind.bits]; omega
theorem zfU (n : Nat) (hn : n < 2 ^ 63) : Calls Tryz.prog 67 #[.int .i64 n] w fun e w' => e = .returned (.string (str (numE n))) ∧ Kp w w' n_ := by
 refine zaa (args := [.int .i64 n]) Tryz.func67 rfl NL ?_; refine GW ?_
 have hb0 := zex w w.heap.size (yag _)
 have K0 : Kp w (w.alloc (.cells #[.pointer none, .slice none 0 0] 93)) n_ := (Yb _ _).alloc _
 generalize w.alloc (.cells #[.pointer none, .slice none 0 0] 93) = w0 at *
 refine Yc (ι := Nat × List UInt8) (fun i => [(0, .int .i64 (i.1 : Nat)), (3, .pointer (some ⟨w.heap.size, 0, none⟩)), (4, .func (.func 123) #[.pointer (some ⟨w.heap.size, 0, none⟩)] #[])])
  (fun i wr => Kp w wr n_ ∧ Bld wr w.heap.size w.heap.size i.2 ∧ i.2 ++ numE i.1 = numE n ∧ i.1 < 2 ^ 63) (fun i => i.1) (n, []) ⟨rfl, rfl, by simp [upd], trivial⟩
  ⟨K0, hb0, rfl, hn⟩ ?_
 rintro ⟨m, pre⟩ g wr ⟨hK, hb, he, hm⟩
 dsimp only at hb he hm ⊢
 refine GW ?_
 have hlen := congrArg List.length he
 have hnl := zap hn
 have hml := zca m
 rw [yaa] at hlen
 by_cases hlt : 128 ≤ m
 ·refine GO ?_
  rw [tmod_nat]
  refine GO ?_
  rw [show ((m % 128 : Nat) : Int) + 128 = ((m % 128 + 128 : Nat) : Int) by omega, zhU OM]
  refine Ya (Tryz.call123 _ _) (zdA (b8 (m % 128 + 128)) wr hb OM hK.size) ?_
  rintro e w1 ⟨rfl, hb1, hbe, _⟩
  refine RT ?_
  refine GO ?_
  rw [zli]
  refine GO ?_
  rw [zkX hlt hm] at he
  exact ⟨(m / 128, pre ++ [b8 (m % 128 + 128)]), ⟨v_int (wrap_i64 OM OM), rfl, rfl, trivial⟩, ⟨hK.below' hbe (yag _), hb1, by rw [← he]; simp, OM⟩, DO⟩
 refine GO ?_
 rw [zhU OM]
 refine Ya (Tryz.call123 _ _) (zdA (b8 m) wr hb OM hK.size) ?_
 rintro e w1 ⟨rfl, hb1, hbe, _⟩
 refine RT ?_
 have hK1 := hK.below' hbe (yag _)
 refine Ya (Tryz.call71 _ _) (zdo w1 hb1 hK1.size) ?_
 rintro e w2 ⟨rfl, hb2, hbe2, _⟩
 refine RT ?_
 rw [zhc OM] at he
 exact ⟨by rw [he], hK1.below' hbe2 (yag _)⟩
end
end Go.Proofs.YtennokckmjcefaaGreatDoor
