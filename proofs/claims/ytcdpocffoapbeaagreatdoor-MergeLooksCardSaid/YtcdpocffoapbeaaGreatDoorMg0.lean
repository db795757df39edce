/- Helper text of this claim: Mg0: lemmas and contracts that the proved statement rests on; no conditions of its own. -/
import Derived.Test.YtcdpocffoapbeaaGreatDoorGCt2
import Derived.Test.YtcdpocffoapbeaaGreatDoorGBw11
/-! Postings, plain (chapter 33). -/
namespace Go.Mg
set_option linter.unusedVariables false
open Go.Cs Go.Lib Go.Cd
set_option linter.unusedVariables false
structure Pst where
  doc : Int
  places : List Int
deriving DecidableEq, Inhabited
theorem numR_enc {n : Nat} (h : n < 2 ^ 63) (r : List UInt8) : numR (some (numE n ++ r)) = (n, some r) := by
  show (match numD 9 false (numE n ++ r) with | none => ((0 : Nat), (none : St)) | some (n, r) => (n, some r)) = _
  simp only [dec_enc h]
/-! ### Ascending within a range -/
def risesB : Int → List Int → Bool
  | _, [] => true
  | low, n :: l => decide (low ≤ n ∧ n ≤ 1099511627776) && risesB (n + 1) l
theorem risesB_iff : ∀ (l : List Int) (low : Int), risesB low l = true ↔ AscB ltI l ∧ ∀ n ∈ l, low ≤ n ∧ n ≤ 1099511627776
  | [], low => by simp [risesB, AscB]
  | n :: l, low => by
    rw [risesB, Bool.and_eq_true, decide_eq_true_eq, risesB_iff l (n + 1)]
    unfold AscB
    rw [List.pairwise_cons]
    constructor
    · rintro ⟨⟨h1, h2⟩, h3, h4⟩
      refine ⟨⟨fun a ha => ?_, h3⟩, fun m hm => ?_⟩
      · have := h4 a ha; simp only [ltI, decide_eq_true_eq]; omega
      · rcases List.mem_cons.1 hm with rfl | hm
        · exact ⟨h1, h2⟩
        · have := h4 m hm; omega
    · rintro ⟨⟨h1, h2⟩, h3⟩
      refine ⟨h3 n List.mem_cons_self, h2, fun m hm => ?_⟩
      have a := h1 m hm
      have b := h3 m (List.mem_cons_of_mem _ hm)
      simp only [ltI, decide_eq_true_eq] at a; omega
theorem rises_len : ∀ (l : List Int) (low : Int), risesB low l = true → low ≤ 1099511627777 → (l.length : Int) ≤ 1099511627777 - low
  | [], low, _, h => by simp only [List.length_nil]; omega
  | n :: l, low, h, _ => by
    rw [risesB, Bool.and_eq_true, decide_eq_true_eq] at h
    have := rises_len l (n + 1) h.2 (by omega)
    simp only [List.length_cons]; omega
def okPl (p : Pst) : Bool := !p.places.isEmpty && risesB 0 p.places
def rightP (l : List Pst) : Bool := l.all okPl && risesB 1 (l.map (·.doc))
theorem rightP_iff {l : List Pst} : rightP l = true ↔ (∀ p ∈ l, p.places ≠ [] ∧ risesB 0 p.places = true) ∧ risesB 1 (l.map (·.doc)) = true := by
  unfold rightP okPl
  simp
/-! ### The encoding -/
def difs : Int → List Int → List Nat
  | _, [] => []
  | at_, n :: l => (n - at_).toNat :: difs n l
def encN : Int → List Pst → List Nat
  | _, [] => []
  | d, p :: l => (p.doc - d).toNat :: p.places.length :: (difs 0 p.places ++ encN p.doc l)
def encP (l : List Pst) : List UInt8 := if rightP l = true then numE l.length ++ (encN 0 l).flatMap numE else []
def stL : St → Nat
  | none => 0
  | some u => u.length
def stepN (n b : Nat) : Nat := if 1099511627776 < b then 1099511627777 else min (n + b) 1099511627777
def dPl : Nat → Nat → St → List Int × St
  | 0, _, s => ([], s)
  | k + 1, a, s => if stL s = 0 then ([], s) else
    (((stepN a (numR s).1 : Nat) : Int) :: (dPl k (stepN a (numR s).1) (numR s).2).1, (dPl k (stepN a (numR s).1) (numR s).2).2)
def dDoc : Nat → Nat → St → List Pst × St
  | 0, _, s => ([], s)
  | k + 1, d, s => if stL s = 0 then ([], s) else
    (⟨((stepN d (numR s).1 : Nat) : Int), (dPl (numR (numR s).2).1 0 (numR (numR s).2).2).1⟩ :: (dDoc k (stepN d (numR s).1) (dPl (numR (numR s).2).1 0 (numR (numR s).2).2).2).1,
      (dDoc k (stepN d (numR s).1) (dPl (numR (numR s).2).1 0 (numR (numR s).2).2).2).2)
def decL (s : List UInt8) : List Pst × St := dDoc (numR (some s)).1 0 (numR (some s)).2
def decP (s : List UInt8) : Option (List Pst) := if (decL s).2 = some [] ∧ encP (decL s).1 = s then some (decL s).1 else none
theorem stepN_to {a : Nat} {n : Int} (h1 : (a : Int) ≤ n) (h2 : n ≤ 1099511627776) : stepN a (n - a).toNat = n.toNat := by
  unfold stepN
  rw [if_neg (by omega)]
  omega
theorem numE_ne (n : Nat) (r : List UInt8) : stL (some (numE n ++ r)) ≠ 0 := by
  have := numE_pos n
  simp only [stL, List.length_append]; omega
theorem dPl_enc : ∀ (l : List Int) (a : Nat) (low : Int) (r : List UInt8), risesB low l = true → (a : Int) ≤ low → dPl l.length a (some ((difs a l).flatMap numE ++ r)) = (l, some r)
  | [], a, low, r, _, _ => rfl
  | n :: l, a, low, r, h, ha => by
    rw [risesB, Bool.and_eq_true, decide_eq_true_eq] at h
    obtain ⟨⟨h1, h2⟩, h3⟩ := h
    have e : ((n.toNat : Nat) : Int) = n := by omega
    have ih := dPl_enc l n.toNat (n + 1) r h3 (by omega)
    rw [e] at ih
    rw [difs, List.flatMap_cons, List.append_assoc, List.length_cons, dPl, if_neg (numE_ne _ _), numR_enc (by omega)]
    dsimp only
    rw [stepN_to (by omega) h2, ih, e]
theorem dDoc_enc : ∀ (l : List Pst) (d : Nat) (low : Int) (r : List UInt8), (∀ p ∈ l, risesB 0 p.places = true) → risesB low (l.map (·.doc)) = true → (d : Int) ≤ low → dDoc l.length d (some ((encN d l).flatMap numE ++ r)) = (l, some r)
  | [], d, low, r, _, _, _ => rfl
  | p :: l, d, low, r, hp, h, hd => by
    rw [List.map_cons, risesB, Bool.and_eq_true, decide_eq_true_eq] at h
    obtain ⟨⟨h1, h2⟩, h3⟩ := h
    have hp1 := hp p List.mem_cons_self
    have hl := rises_len _ _ hp1 (by omega)
    have e : ((p.doc.toNat : Nat) : Int) = p.doc := by omega
    have ih := dDoc_enc l p.doc.toNat (p.doc + 1) r (fun q hq => hp q (List.mem_cons_of_mem _ hq)) h3 (by omega)
    rw [e] at ih
    have h0 := dPl_enc p.places 0 0 ((encN p.doc l).flatMap numE ++ r) hp1 (by omega)
    rw [encN, List.flatMap_cons, List.flatMap_cons, List.flatMap_append, List.append_assoc, List.append_assoc, List.append_assoc, List.length_cons, dDoc, if_neg (numE_ne _ _), numR_enc (by omega)]
    dsimp only
    rw [numR_enc (by omega)]
    dsimp only
    rw [show (0 : Int) = ((0 : Nat) : Int) from rfl, h0]
    dsimp only
    rw [stepN_to (by omega) h2, ih, e]
theorem enc_right {l : List Pst} (h : rightP l = true) : encP l = numE l.length ++ (encN 0 l).flatMap numE := if_pos h
theorem rises_mono {l : List Int} {low low' : Int} (h : risesB low l = true) (hl : low' ≤ low) : risesB low' l = true := by
  rw [risesB_iff] at h ⊢
  exact ⟨h.1, fun n hn => by have := h.2 n hn; omega⟩
theorem difs_small : ∀ (l : List Int) (a : Int), risesB a l = true → 0 ≤ a → ∀ n ∈ difs a l, n ≤ 1099511627776
  | [], a, _, _, n, h => by cases h
  | x :: l, a, hr, ha, n, h => by
    rw [risesB, Bool.and_eq_true, decide_eq_true_eq] at hr
    rcases List.mem_cons.1 h with rfl | h
    · omega
    · exact difs_small l x (rises_mono hr.2 (by omega)) (by omega) n h
theorem difs_len : ∀ (l : List Int) (a : Int), (difs a l).length = l.length
  | [], _ => rfl
  | x :: l, a => by rw [difs, List.length_cons, difs_len l x, List.length_cons]
theorem encN_small : ∀ (l : List Pst) (d : Int), (∀ p ∈ l, risesB 0 p.places = true) → risesB d (l.map (·.doc)) = true → 0 ≤ d → ∀ n ∈ encN d l, n ≤ 1099511627777
  | [], d, _, _, _, n, h => by cases h
  | p :: l, d, hp, hr, hd, n, h => by
    rw [List.map_cons, risesB, Bool.and_eq_true, decide_eq_true_eq] at hr
    have hp1 := hp p List.mem_cons_self
    have hl := rises_len _ _ hp1 (by omega)
    rw [encN] at h
    rcases List.mem_cons.1 h with rfl | h
    · omega
    rcases List.mem_cons.1 h with rfl | h
    · omega
    rcases List.mem_append.1 h with h | h
    · have := difs_small _ _ hp1 (by omega) n h; omega
    · exact encN_small l p.doc (fun q hq => hp q (List.mem_cons_of_mem _ hq)) (rises_mono hr.2 (by omega)) (by omega) n h
theorem encN_len : ∀ (l : List Pst) (d : Int), (encN d l).length = (encN 0 l).length
  | [], _ => rfl
  | p :: l, d => by rw [encN, encN, List.length_cons, List.length_cons, List.length_append, List.length_cons, List.length_cons, List.length_append]
theorem encN_snoc : ∀ (l : List Pst) (p : Pst), (encN 0 (l ++ [p])).length = (encN 0 l).length + 2 + p.places.length
  | [], p => by simp [encN, difs_len]; omega
  | q :: l, p => by
    rw [List.cons_append, encN, encN, List.length_cons, List.length_cons, List.length_append, encN_len (l ++ [p]), encN_snoc l p, List.length_cons, List.length_cons, List.length_append, encN_len l q.doc]; omega
theorem encN_mem : ∀ (l : List Pst) (p : Pst), p ∈ l → p.places.length ≤ (encN 0 l).length
  | q :: l, p, h => by
    rw [encN, List.length_cons, List.length_cons, List.length_append, difs_len, encN_len l]
    rcases List.mem_cons.1 h with rfl | h
    · omega
    · have := encN_mem l p h; omega
theorem encN_ge : ∀ l : List Pst, 2 * l.length ≤ (encN 0 l).length
  | [] => by simp
  | q :: l => by
    have := encN_ge l
    have e := encN_len l q.doc
    simp only [encN, List.length_cons, List.length_append]; omega
theorem docs_len {l : List Pst} (h : rightP l = true) : l.length ≤ 1099511627776 := by
  have := rises_len _ _ (rightP_iff.1 h).2 (by omega)
  rw [List.length_map] at this; omega
theorem numsF_len (l : List Nat) (h : ∀ n ∈ l, n < 2 ^ 63) : (l.flatMap numE).length ≤ 9 * l.length := by
  induction l with
  | nil => simp
  | cons n l ih =>
    have h1 := numE_len (h n List.mem_cons_self)
    have h2 := ih fun m hm => h m (List.mem_cons_of_mem _ hm)
    simp only [List.flatMap_cons, List.length_append, List.length_cons]; omega
theorem enc_len (l : List Pst) : (encP l).length ≤ 9 + 9 * (encN 0 l).length := by
  unfold encP
  split
  · rename_i h
    have h1 := rightP_iff.1 h
    have h2 := numsF_len (encN 0 l) fun n hn => by have := encN_small l 0 (fun p hp => (h1.1 p hp).2) (rises_mono h1.2 (by omega)) (by omega) n hn; omega
    have h3 := docs_len h
    have h4 := numE_len (show l.length < 2 ^ 63 by omega)
    rw [List.length_append]; omega
  · simp
theorem decL_enc {l : List Pst} (h : rightP l = true) : decL (encP l) = (l, some []) := by
  obtain ⟨h1, h2⟩ := rightP_iff.1 h
  have hl := docs_len h
  have := dDoc_enc l 0 1 [] (fun p hp => (h1 p hp).2) h2 (by omega)
  rw [List.append_nil] at this
  unfold decL
  rw [enc_right h, numR_enc (by omega)]
  exact this
theorem decP_enc {l : List Pst} (h : rightP l = true) : decP (encP l) = some l := by
  unfold decP
  rw [decL_enc h, if_pos ⟨rfl, rfl⟩]
theorem decL_nil : decL [] = ([], none) := rfl
theorem decP_some {s : List UInt8} {l : List Pst} : decP s = some l ↔ rightP l = true ∧ encP l = s := by
  constructor
  · intro h
    unfold decP at h
    split at h
    · rename_i hc
      injection h with h; subst h
      refine ⟨?_, hc.2⟩
      cases hr : rightP (decL s).1 with
      | true => rfl
      | false =>
        have h1 := hc.2
        unfold encP at h1
        rw [hr, if_neg (by decide)] at h1
        have h2 := hc.1
        rw [← h1, decL_nil] at h2; cases h2
    · cases h
  · rintro ⟨h, rfl⟩; exact decP_enc h
/-! ### Two lists together -/
section
variable {α : Type} (c : α → α → Int)
def bothA (a : α) (f : List α → List (Option α × Option α)) : List α → List (Option α × Option α)
  | [] => (some a, none) :: f []
  | b :: bs => if c a b < 0 then (some a, none) :: f (b :: bs) else if c a b = 0 then (some a, some b) :: f bs else (none, some b) :: bothA a f bs
def bothL : List α → List α → List (Option α × Option α)
  | [], bs => bs.map fun b => (none, some b)
  | a :: aas, bs => bothA c a (bothL aas) bs
theorem bothL_nil (aas : List α) : bothL c aas [] = aas.map fun a => (some a, none) := by
  induction aas with
  | nil => rfl
  | cons a aas ih => show (some a, none) :: bothL c aas [] = _; rw [ih]; rfl
theorem bothL_cons (a b : α) (aas bs : List α) : bothL c (a :: aas) (b :: bs) = if c a b < 0 then (some a, none) :: bothL c aas (b :: bs) else if c a b = 0 then (some a, some b) :: bothL c aas bs else (none, some b) :: bothL c (a :: aas) bs := rfl
end
section
variable {α : Type} (c : α → α → Int)
theorem bothA_spec (a : α) (aas : List α) (f : List α → List (Option α × Option α)) (hf : ∀ bs, ∀ p ∈ f bs, (p.1 ≠ none ∨ p.2 ≠ none) ∧ (∀ x, p.1 = some x → x ∈ aas) ∧ ∀ y, p.2 = some y → y ∈ bs) (hl : ∀ bs, (f bs).length ≤ aas.length + bs.length) :
    ∀ bs, (∀ p ∈ bothA c a f bs, (p.1 ≠ none ∨ p.2 ≠ none) ∧ (∀ x, p.1 = some x → x ∈ a :: aas) ∧ ∀ y, p.2 = some y → y ∈ bs) ∧ (bothA c a f bs).length ≤ aas.length + 1 + bs.length
  | [] => by
    constructor
    · intro p hp
      rcases List.mem_cons.1 hp with rfl | hp
      · exact ⟨.inl (by simp), fun x e => by injection e with e; subst e; exact List.mem_cons_self, fun y e => by cases e⟩
      · obtain ⟨h1, h2, h3⟩ := hf _ p hp
        exact ⟨h1, fun x e => List.mem_cons_of_mem _ (h2 x e), h3⟩
    · have := hl []
      simp only [bothA, List.length_cons]; simp only [List.length_nil] at *; omega
  | b :: bs => by
    have ih := bothA_spec a aas f hf hl bs
    have hlb := hl (b :: bs)
    have hlb2 := hl bs
    unfold bothA
    constructor
    · intro p hp
      split at hp
      · rcases List.mem_cons.1 hp with rfl | hp
        · exact ⟨.inl (by simp), fun x e => by injection e with e; subst e; exact List.mem_cons_self, fun y e => by cases e⟩
        · obtain ⟨h1, h2, h3⟩ := hf _ p hp
          exact ⟨h1, fun x e => List.mem_cons_of_mem _ (h2 x e), h3⟩
      · split at hp
        · rcases List.mem_cons.1 hp with rfl | hp
          · exact ⟨.inl (by simp), fun x e => by injection e with e; subst e; exact List.mem_cons_self, fun y e => by injection e with e; subst e; exact List.mem_cons_self⟩
          · obtain ⟨h1, h2, h3⟩ := hf _ p hp
            exact ⟨h1, fun x e => List.mem_cons_of_mem _ (h2 x e), fun y e => List.mem_cons_of_mem _ (h3 y e)⟩
        · rcases List.mem_cons.1 hp with rfl | hp
          · exact ⟨.inr (by simp), fun x e => (by cases e), fun y e => by injection e with e; subst e; exact List.mem_cons_self⟩
          · obtain ⟨h1, h2, h3⟩ := ih.1 p hp
            exact ⟨h1, h2, fun y e => List.mem_cons_of_mem _ (h3 y e)⟩
    · split
      · simp only [List.length_cons] at *; omega
      · split
        · simp only [List.length_cons] at *; omega
        · have := ih.2; simp only [List.length_cons] at *; omega
theorem bothL_spec : ∀ (aas bs : List α), (∀ p ∈ bothL c aas bs, (p.1 ≠ none ∨ p.2 ≠ none) ∧ (∀ x, p.1 = some x → x ∈ aas) ∧ ∀ y, p.2 = some y → y ∈ bs) ∧ (bothL c aas bs).length ≤ aas.length + bs.length
  | [], bs => by
    refine ⟨fun p hp => ?_, by simp [bothL]⟩
    obtain ⟨b, hb, rfl⟩ := List.mem_map.1 hp
    exact ⟨.inr (by simp), fun x e => (by cases e), fun y e => by injection e with e; subst e; exact hb⟩
  | a :: aas, bs => by
    have := bothA_spec c a aas (bothL c aas) (fun bs => (bothL_spec aas bs).1) (fun bs => (bothL_spec aas bs).2) bs
    exact ⟨this.1, by have := this.2; rw [List.length_cons]; exact this⟩
theorem bothL_map {β : Type} (f : β → α) : ∀ (aas bs : List β), bothL c (aas.map f) (bs.map f) = (bothL (fun x y => c (f x) (f y)) aas bs).map fun p => (p.1.map f, p.2.map f)
  | [], bs => by simp [bothL, List.map_map]
  | a :: aas, bs => by
    have ih := bothL_map f aas
    induction bs with
    | nil => rw [List.map_nil, bothL_nil, bothL_nil, List.map_map, List.map_map]; rfl
    | cons b bs ihb =>
      rw [List.map_cons, List.map_cons, bothL_cons, bothL_cons]
      split
      · rw [List.map_cons, ← ih]; rfl
      · split
        · rw [List.map_cons, ← ih]; rfl
        · rw [List.map_cons, ← ihb]; rfl
end
def cmpI (x y : Int) : Int := if x < y then -1 else if y < x then 1 else 0
def fstO (p : Option Int × Option Int) : Int := p.1.getD (p.2.getD 0)
def unI (x y : List Int) : List Int := (bothL cmpI x y).map fstO
def orO : Option Pst × Option Pst → Pst
  | (some x, some y) => ⟨x.doc, unI x.places y.places⟩
  | (some x, none) => x
  | (none, some y) => y
  | (none, none) => default
def cmpD (x y : Pst) : Int := cmpI x.doc y.doc
def orP (a b : List Pst) : List Pst := (bothL cmpD a b).map orO
theorem unI_nil (x : List Int) : unI x [] = x := by
  unfold unI; rw [bothL_nil, List.map_map]
  conv => rhs; rw [← List.map_id x]
  rfl
theorem nil_unI (x : List Int) : unI [] x = x := by
  show (x.map fun b => (none, some b)).map fstO = x
  rw [List.map_map]
  conv => rhs; rw [← List.map_id x]
  rfl
theorem unI_cons (a b : Int) (x y : List Int) : unI (a :: x) (b :: y) = if a < b then a :: unI x (b :: y) else if b < a then b :: unI (a :: x) y else a :: unI x y := by
  unfold unI
  rw [bothL_cons]
  unfold cmpI
  by_cases h1 : a < b
  · rw [if_pos h1, if_pos h1, if_pos (by decide)]; rfl
  · rw [if_neg h1, if_neg h1]
    by_cases h2 : b < a
    · rw [if_pos h2, if_pos h2, if_neg (by decide), if_neg (by decide)]; rfl
    · rw [if_neg h2, if_neg h2, if_neg (by decide), if_pos rfl]; rfl
theorem unI_spec : ∀ (n : Nat) (x y : List Int), x.length + y.length ≤ n → AscB ltI x → AscB ltI y → AscB ltI (unI x y) ∧ ∀ z, z ∈ unI x y ↔ z ∈ x ∨ z ∈ y
  | _, [], y, _, _, hy => by rw [nil_unI]; exact ⟨hy, fun z => by simp⟩
  | _, a :: x, [], _, hx, _ => by rw [unI_nil]; exact ⟨hx, fun z => by simp⟩
  | 0, a :: x, b :: y, h, _, _ => by simp at h
  | n + 1, a :: x, b :: y, h, hx, hy => by
    have hx' := List.pairwise_cons.1 hx
    have hy' := List.pairwise_cons.1 hy
    have hxx := hx'.1
    have hyy := hy'.1
    simp only [ltI, decide_eq_true_eq] at hxx hyy
    simp only [List.length_cons] at h
    rw [unI_cons]
    by_cases h1 : a < b
    · rw [if_pos h1]
      obtain ⟨i1, i2⟩ := unI_spec n x (b :: y) (by simp only [List.length_cons]; omega) hx'.2 hy
      refine ⟨List.pairwise_cons.2 ⟨fun z hz => ?_, i1⟩, fun z => by rw [List.mem_cons, i2]; simp only [List.mem_cons]; exact or_assoc.symm⟩
      simp only [ltI, decide_eq_true_eq]
      rcases (i2 z).1 hz with h | h
      · exact hxx z h
      · rcases List.mem_cons.1 h with rfl | h
        · exact h1
        · have := hyy z h; omega
    · rw [if_neg h1]
      by_cases h2 : b < a
      · rw [if_pos h2]
        obtain ⟨i1, i2⟩ := unI_spec n (a :: x) y (by simp only [List.length_cons]; omega) hx hy'.2
        refine ⟨List.pairwise_cons.2 ⟨fun z hz => ?_, i1⟩, fun z => by rw [List.mem_cons, i2]; simp only [List.mem_cons]; exact or_left_comm⟩
        simp only [ltI, decide_eq_true_eq]
        rcases (i2 z).1 hz with h | h
        · rcases List.mem_cons.1 h with rfl | h
          · exact h2
          · have := hxx z h; omega
        · exact hyy z h
      · rw [if_neg h2]
        obtain rfl : a = b := by omega
        obtain ⟨i1, i2⟩ := unI_spec n x y (by omega) hx'.2 hy'.2
        refine ⟨List.pairwise_cons.2 ⟨fun z hz => ?_, i1⟩, fun z => by
          rw [List.mem_cons, i2]; simp only [List.mem_cons]
          constructor
          · rintro (h | h | h)
            · exact .inl (.inl h)
            · exact .inl (.inr h)
            · exact .inr (.inr h)
          · rintro ((h | h) | (h | h))
            · exact .inl h
            · exact .inr (.inl h)
            · exact .inl h
            · exact .inr (.inr h)⟩
        simp only [ltI, decide_eq_true_eq]
        rcases (i2 z).1 hz with h | h
        · exact hxx z h
        · exact hyy z h
theorem asc_unI {x y : List Int} (hx : AscB ltI x) (hy : AscB ltI y) : AscB ltI (unI x y) := (unI_spec _ x y (Nat.le_refl _) hx hy).1
theorem mem_unI {x y : List Int} (hx : AscB ltI x) (hy : AscB ltI y) (z : Int) : z ∈ unI x y ↔ z ∈ x ∨ z ∈ y := (unI_spec _ x y (Nat.le_refl _) hx hy).2 z
/-! ### The places of a document -/
def atD (l : List Pst) (d : Int) : List Int := match l.find? (fun p => decide (p.doc = d)) with | some p => p.places | none => []
theorem atD_cons (p : Pst) (l : List Pst) (d : Int) : atD (p :: l) d = if p.doc = d then p.places else atD l d := by
  unfold atD
  rw [List.find?_cons]
  by_cases h : p.doc = d
  · rw [if_pos h, decide_eq_true h]
  · rw [if_neg h, decide_eq_false h]
def AscP (l : List Pst) : Prop := l.Pairwise fun a b => a.doc < b.doc
theorem ascP_map {l : List Pst} : AscP l ↔ AscB ltI (l.map (·.doc)) := by
  unfold AscP AscB
  rw [List.pairwise_map]
  simp only [ltI, decide_eq_true_eq]
theorem atD_lt {l : List Pst} {d : Int} (h : ∀ p ∈ l, d < p.doc) : atD l d = [] := by
  unfold atD
  rw [List.find?_eq_none.2 fun p hp => by have := h p hp; simp only [decide_eq_true_eq]; omega]
theorem atD_mem {l : List Pst} (h : AscP l) {p : Pst} (hp : p ∈ l) : atD l p.doc = p.places := by
  induction l with
  | nil => cases hp
  | cons q l ih =>
    rw [atD_cons]
    have h' := List.pairwise_cons.1 h
    rcases List.mem_cons.1 hp with rfl | hp
    · rw [if_pos rfl]
    · have := h'.1 p hp
      rw [if_neg (by omega)]; exact ih h'.2 hp
theorem atD_ne {l : List Pst} {d : Int} (h : atD l d ≠ []) : ∃ p ∈ l, p.doc = d ∧ p.places = atD l d := by
  unfold atD at h ⊢
  cases hf : l.find? (fun p => decide (p.doc = d)) with
  | none => rw [hf] at h; exact absurd rfl h
  | some p => exact ⟨p, List.mem_of_find?_eq_some hf, of_decide_eq_true (List.find?_some (p := fun p => decide (Pst.doc p = d)) hf), rfl⟩
theorem orP_cons (a b : Pst) (x y : List Pst) : orP (a :: x) (b :: y) = if a.doc < b.doc then a :: orP x (b :: y) else if b.doc < a.doc then b :: orP (a :: x) y else ⟨a.doc, unI a.places b.places⟩ :: orP x y := by
  unfold orP
  rw [bothL_cons]
  unfold cmpD cmpI
  by_cases h1 : a.doc < b.doc
  · rw [if_pos h1, if_pos h1, if_pos (by decide)]; rfl
  · rw [if_neg h1, if_neg h1]
    by_cases h2 : b.doc < a.doc
    · rw [if_pos h2, if_pos h2, if_neg (by decide), if_neg (by decide)]; rfl
    · rw [if_neg h2, if_neg h2, if_neg (by decide), if_pos rfl]; rfl
theorem orP_nil (x : List Pst) : orP x [] = x := by
  unfold orP; rw [bothL_nil, List.map_map]
  conv => rhs; rw [← List.map_id x]
  rfl
theorem nil_orP (x : List Pst) : orP [] x = x := by
  show (x.map fun b => (none, some b)).map orO = x
  rw [List.map_map]
  conv => rhs; rw [← List.map_id x]
  rfl
theorem orP_spec : ∀ (n : Nat) (x y : List Pst), x.length + y.length ≤ n → AscP x → AscP y →
    AscP (orP x y) ∧ (∀ p ∈ orP x y, (∃ q ∈ x, q.doc = p.doc) ∨ ∃ q ∈ y, q.doc = p.doc) ∧ ∀ d, atD (orP x y) d = unI (atD x d) (atD y d)
  | _, [], y, _, _, hy => by rw [nil_orP]; exact ⟨hy, fun p hp => .inr ⟨p, hp, rfl⟩, fun d => (nil_unI _).symm⟩
  | _, a :: x, [], _, hx, _ => by rw [orP_nil]; exact ⟨hx, fun p hp => .inl ⟨p, hp, rfl⟩, fun d => (unI_nil _).symm⟩
  | 0, a :: x, b :: y, h, _, _ => by simp at h
  | n + 1, a :: x, b :: y, h, hx, hy => by
    have hx' := List.pairwise_cons.1 hx
    have hy' := List.pairwise_cons.1 hy
    simp only [List.length_cons] at h
    rw [orP_cons]
    by_cases h1 : a.doc < b.doc
    · rw [if_pos h1]
      obtain ⟨i1, i2, i3⟩ := orP_spec n x (b :: y) (by simp only [List.length_cons]; omega) hx'.2 hy
      refine ⟨List.pairwise_cons.2 ⟨fun z hz => ?_, i1⟩, fun p hp => ?_, fun d => ?_⟩
      · rcases i2 z hz with ⟨q, hq, e⟩ | ⟨q, hq, e⟩
        · have := hx'.1 q hq; omega
        · rcases List.mem_cons.1 hq with rfl | hq
          · omega
          · have := hy'.1 q hq; omega
      · rcases List.mem_cons.1 hp with rfl | hp
        · exact .inl ⟨p, List.mem_cons_self, rfl⟩
        · rcases i2 p hp with ⟨q, hq, e⟩ | h
          · exact .inl ⟨q, List.mem_cons_of_mem _ hq, e⟩
          · exact .inr h
      · rw [atD_cons, i3, atD_cons a x]
        by_cases hd : a.doc = d
        · rw [if_pos hd, if_pos hd, atD_lt (l := b :: y) (fun p hp => by rcases List.mem_cons.1 hp with rfl | hp; · omega
                                                                         · have := hy'.1 p hp; omega), unI_nil]
        · rw [if_neg hd, if_neg hd]
    · rw [if_neg h1]
      by_cases h2 : b.doc < a.doc
      · rw [if_pos h2]
        obtain ⟨i1, i2, i3⟩ := orP_spec n (a :: x) y (by simp only [List.length_cons]; omega) hx hy'.2
        refine ⟨List.pairwise_cons.2 ⟨fun z hz => ?_, i1⟩, fun p hp => ?_, fun d => ?_⟩
        · rcases i2 z hz with ⟨q, hq, e⟩ | ⟨q, hq, e⟩
          · rcases List.mem_cons.1 hq with rfl | hq
            · omega
            · have := hx'.1 q hq; omega
          · have := hy'.1 q hq; omega
        · rcases List.mem_cons.1 hp with rfl | hp
          · exact .inr ⟨p, List.mem_cons_self, rfl⟩
          · rcases i2 p hp with h | ⟨q, hq, e⟩
            · exact .inl h
            · exact .inr ⟨q, List.mem_cons_of_mem _ hq, e⟩
        · rw [atD_cons, i3, atD_cons b y]
          by_cases hd : b.doc = d
          · rw [if_pos hd, if_pos hd, atD_lt (l := a :: x) (fun p hp => by rcases List.mem_cons.1 hp with rfl | hp; · omega
                                                                           · have := hx'.1 p hp; omega), nil_unI]
          · rw [if_neg hd, if_neg hd]
      · rw [if_neg h2]
        have he : a.doc = b.doc := by omega
        obtain ⟨i1, i2, i3⟩ := orP_spec n x y (by omega) hx'.2 hy'.2
        refine ⟨List.pairwise_cons.2 ⟨fun z hz => ?_, i1⟩, fun p hp => ?_, fun d => ?_⟩
        · dsimp only
          rcases i2 z hz with ⟨q, hq, e⟩ | ⟨q, hq, e⟩
          · have := hx'.1 q hq; omega
          · have := hy'.1 q hq; omega
        · rcases List.mem_cons.1 hp with rfl | hp
          · exact .inl ⟨a, List.mem_cons_self, rfl⟩
          · rcases i2 p hp with ⟨q, hq, e⟩ | ⟨q, hq, e⟩
            · exact .inl ⟨q, List.mem_cons_of_mem _ hq, e⟩
            · exact .inr ⟨q, List.mem_cons_of_mem _ hq, e⟩
        · rw [atD_cons, i3, atD_cons a x, atD_cons b y]
          dsimp only
          by_cases hd : a.doc = d
          · rw [if_pos hd, if_pos hd, if_pos (by omega)]
          · rw [if_neg hd, if_neg hd, if_neg (by omega)]
theorem right_asc {l : List Pst} (h : rightP l = true) : AscP l := ascP_map.2 ((risesB_iff _ _).1 (rightP_iff.1 h).2).1
/-- What a right list is. -/
theorem right_iff2 {l : List Pst} : rightP l = true ↔ AscP l ∧ ∀ p ∈ l, 1 ≤ p.doc ∧ p.doc ≤ 1099511627776 ∧ p.places ≠ [] ∧ AscB ltI p.places ∧ ∀ n ∈ p.places, 0 ≤ n ∧ n ≤ 1099511627776 := by
  rw [rightP_iff, risesB_iff, ← ascP_map]
  constructor
  · rintro ⟨h1, h2, h3⟩
    exact ⟨h2, fun p hp => ⟨(h3 p.doc (List.mem_map_of_mem hp)).1, (h3 p.doc (List.mem_map_of_mem hp)).2, (h1 p hp).1, (risesB_iff _ _).1 (h1 p hp).2⟩⟩
  · rintro ⟨h1, h2⟩
    refine ⟨fun p hp => ⟨(h2 p hp).2.2.1, (risesB_iff _ _).2 (h2 p hp).2.2.2⟩, h1, fun n hn => ?_⟩
    obtain ⟨p, hp, rfl⟩ := List.mem_map.1 hn
    exact ⟨(h2 p hp).1, (h2 p hp).2.1⟩
theorem right_ext {a b : List Pst} (ha : rightP a = true) (hb : rightP b = true) (h : ∀ d, atD a d = atD b d) : a = b := by
  rw [right_iff2] at ha hb
  have key : ∀ {x y : List Pst}, AscP x → AscP y → (∀ p ∈ x, p.places ≠ []) → (∀ d, atD x d = atD y d) → ∀ p ∈ x, p ∈ y := fun {x y} hx hy hn hxy p hp => by
    have h1 := atD_mem hx hp
    obtain ⟨q, hq, e1, e2⟩ := atD_ne (l := y) (d := p.doc) (by rw [← hxy, h1]; exact hn p hp)
    rw [← hxy, h1] at e2
    obtain ⟨d1, l1⟩ := p
    obtain ⟨d2, l2⟩ := q
    dsimp only at e1 e2
    subst e1 e2
    exact hq
  have h1 := key ha.1 hb.1 (fun p hp => (ha.2 p hp).2.2.1) h
  have h2 := key hb.1 ha.1 (fun p hp => (hb.2 p hp).2.2.1) fun d => (h d).symm
  have sto : ∀ {x y : List Pst}, AscP x → AscP y → (∀ p, p ∈ x ↔ p ∈ y) → x = y := by
    intro x
    induction x with
    | nil => intro y _ _ hm; cases y with
      | nil => rfl
      | cons q y => exact absurd ((hm q).2 List.mem_cons_self) (by simp)
    | cons p x ih =>
      intro y hx hy hm
      cases y with
      | nil => exact absurd ((hm p).1 List.mem_cons_self) (by simp)
      | cons q y =>
        have hx' := List.pairwise_cons.1 hx
        have hy' := List.pairwise_cons.1 hy
        have e : p = q := by
          rcases List.mem_cons.1 ((hm p).1 List.mem_cons_self) with h | h
          · exact h
          · rcases List.mem_cons.1 ((hm q).2 List.mem_cons_self) with h' | h'
            · exact h'.symm
            · have := hx'.1 q h'; have := hy'.1 p h; omega
        subst e
        congr 1
        refine ih hx'.2 hy'.2 fun z => ?_
        have := hm z
        simp only [List.mem_cons] at this
        constructor
        · intro hz
          rcases this.1 (.inr hz) with rfl | h
          · have := hx'.1 z hz; omega
          · exact h
        · intro hz
          rcases this.2 (.inr hz) with rfl | h
          · have := hy'.1 z hz; omega
          · exact h
  exact sto ha.1 hb.1 fun p => ⟨h1 p, h2 p⟩
theorem unI_ne {x y : List Int} (h : x ≠ []) : unI x y ≠ [] := by
  cases x with
  | nil => exact absurd rfl h
  | cons a x =>
    cases y with
    | nil => rw [unI_nil]; exact h
    | cons b y => rw [unI_cons]; split; · simp
                  · split <;> simp
theorem unI_eq_nil {x y : List Int} : unI x y = [] ↔ x = [] ∧ y = [] := by
  constructor
  · intro h
    cases x with
    | nil => rw [nil_unI] at h; exact ⟨rfl, h⟩
    | cons a x => exact absurd h (unI_ne (by simp))
  · rintro ⟨rfl, rfl⟩; rfl
theorem atD_pl {l : List Pst} (h : rightP l = true) (d : Int) : AscB ltI (atD l d) ∧ ∀ n ∈ atD l d, 0 ≤ n ∧ n ≤ 1099511627776 := by
  by_cases hn : atD l d = []
  · rw [hn]; exact ⟨.nil, fun n h => by cases h⟩
  · obtain ⟨p, hp, _, e⟩ := atD_ne hn
    rw [← e]; exact ((right_iff2.1 h).2 p hp).2.2.2
theorem right_orP {a b : List Pst} (ha : rightP a = true) (hb : rightP b = true) : rightP (orP a b) = true := by
  have ha' := right_iff2.1 ha
  have hb' := right_iff2.1 hb
  obtain ⟨h1, h2, h3⟩ := orP_spec _ a b (Nat.le_refl _) ha'.1 hb'.1
  rw [right_iff2]
  refine ⟨h1, fun p hp => ?_⟩
  have hat := h3 p.doc
  rw [atD_mem h1 hp] at hat
  have pa := atD_pl ha p.doc
  have pb := atD_pl hb p.doc
  have hne : p.places ≠ [] := by
    rw [hat]
    intro e
    obtain ⟨e1, e2⟩ := unI_eq_nil.1 e
    rcases h2 p hp with ⟨q, hq, e⟩ | ⟨q, hq, e⟩
    · rw [← e, atD_mem ha'.1 hq] at e1; exact (ha'.2 q hq).2.2.1 e1
    · rw [← e, atD_mem hb'.1 hq] at e2; exact (hb'.2 q hq).2.2.1 e2
  refine ⟨?_, ?_, hne, by rw [hat]; exact asc_unI pa.1 pb.1, fun n hn => ?_⟩
  · rcases h2 p hp with ⟨q, hq, e⟩ | ⟨q, hq, e⟩
    · rw [← e]; exact (ha'.2 q hq).1
    · rw [← e]; exact (hb'.2 q hq).1
  · rcases h2 p hp with ⟨q, hq, e⟩ | ⟨q, hq, e⟩
    · rw [← e]; exact (ha'.2 q hq).2.1
    · rw [← e]; exact (hb'.2 q hq).2.1
  · rw [hat, mem_unI pa.1 pb.1] at hn
    rcases hn with h | h
    · exact pa.2 n h
    · exact pb.2 n h
theorem atD_orP {a b : List Pst} (ha : rightP a = true) (hb : rightP b = true) (d : Int) : atD (orP a b) d = unI (atD a d) (atD b d) :=
  (orP_spec _ a b (Nat.le_refl _) (right_asc ha) (right_asc hb)).2.2 d
end Go.Mg
