/- Helper lemmas that the proved statement rests on; no conditions of their own. -/
import Derived.Lib.SlicesCompact
import Derived.Test.YtennokckmjcefaaGreatDoorGRowP
set_option linter.unusedVariables false
namespace Go.Cs
open Go.Lib
def Zeros (u : List (Nat × Nat)) : Prop := ∀ q ∈ u, q.1 = 0
def Chain (u0 : List (Nat × Nat)) : Nat → List (Nat × Nat) → Prop
 | e, [] => ∃ a b, u0 = a ++ b ∧ W a = e ∧ Zeros b
 | e, p :: ps => ∃ a z s c, u0 = a ++ z ++ s ++ c ∧ W a = e ∧ Zeros z ∧ p = (W a + W z, W a + W z + W s) ∧ Seg s ∧ Chain u0 p.2 ps
theorem zbU (u0 : List (Nat × Nat)) : ∀ (r pre z mid : List (Nat × Nat)) (f : Option Nat), u0 = pre ++ z ++ mid ++ r → Zeros z → (∀ q ∈ r, q.1 ≤ 2 ∧ q.2 ≤ 4) → ((f = none ∧ mid = []) ∨ (f = some (W pre + W z) ∧ Ones mid)) →
  Chain u0 (W pre) (wd r (W pre + W z + W mid) f)
 | [], pre, z, mid, f, he, hz, _, hf => by
  rcases hf with ⟨rfl, rfl⟩ | ⟨rfl, ho⟩
  ·exact ⟨pre, z, by simpa using he, rfl, hz⟩
  ·refine ⟨pre, z, mid, [], he, rfl, hz, rfl, .inl ho, pre ++ z ++ mid, [], by simpa using he, by simp only [W_app], by simp [Zeros]⟩
 | (k, n) :: r, pre, z, mid, f, he, hz, hk, hf => by
  have hk0 := hk (k, n) (by simp)
  have hkr : ∀ q ∈ r, q.1 ≤ 2 ∧ q.2 ≤ 4 := fun q hq => hk q (by simp [hq])
  have nil0 : Zeros [] := by simp [Zeros]
  simp only [wd]
  split
  ·rename_i h0
   subst h0
   rcases hf with ⟨rfl, rfl⟩ | ⟨rfl, ho⟩
   ·have g := zbU u0 r pre (z ++ [(0, n)]) [] none (by rw [he]; simp) (fun q hq => by
     rcases List.mem_append.1 hq with h | h
     ·exact hz q h
     ·simp at h; rw [h]) hkr (.inl ⟨rfl, rfl⟩)
    simp only [W_app, W_cons, W_nil, Nat.add_zero] at g
    simp only [close, List.nil_append, W_nil, Nat.add_zero]
    rw [← Nat.add_assoc] at g
    exact g
   ·have g := zbU u0 r (pre ++ z ++ mid) [(0, n)] [] none (by rw [he]; simp) (by simp [Zeros]) hkr (.inl ⟨rfl, rfl⟩)
    simp only [W_app, W_cons, W_nil, Nat.add_zero] at g
    exact ⟨pre, z, mid, (0, n) :: r, he, rfl, hz, rfl, .inl ho, g⟩
  ·split
   ·rename_i h0 h2
    subst h2
    rcases hf with ⟨rfl, rfl⟩ | ⟨rfl, ho⟩
    ·have g := zbU u0 r (pre ++ z ++ [(2, n)]) [] [] none (by rw [he]; simp) nil0 hkr (.inl ⟨rfl, rfl⟩)
     simp only [W_app, W_cons, W_nil, Nat.add_zero] at g
     simp only [close, List.nil_append, W_nil, Nat.add_zero]
     exact ⟨pre, z, [(2, n)], r, by rw [he]; simp, rfl, hz, by simp only [W_cons, W_nil, Nat.add_zero], .inr ⟨n, rfl⟩, g⟩
    ·have g := zbU u0 r (pre ++ z ++ mid ++ [(2, n)]) [] [] none (by rw [he]; simp) nil0 hkr (.inl ⟨rfl, rfl⟩)
     simp only [W_app, W_cons, W_nil, Nat.add_zero] at g
     refine ⟨pre, z, mid, (2, n) :: r, he, rfl, hz, rfl, .inl ho, pre ++ z ++ mid, [], [(2, n)], r, by rw [he]; simp, by simp only [W_app], nil0, by simp only [W_app, W_cons, W_nil, Nat.add_zero], .inr ⟨n, rfl⟩, g⟩
   ·rename_i h0 h2
    have hk1 : k = 1 := by dsimp only at hk0; omega
    subst hk1
    have hone : Ones [(1, n)] := ⟨by simp, by simp, by simp only [W_cons, W_nil]; dsimp only at hk0 ⊢; omega⟩
    rcases hf with ⟨rfl, rfl⟩ | ⟨rfl, ho⟩
    ·have g := zbU u0 r pre z [(1, n)] _ (by rw [he]; simp) hz hkr (.inr ⟨rfl, hone⟩)
     simp only [W_cons, W_nil, Nat.add_zero] at g ⊢
     exact g
    ·simp only
     split
     ·rename_i h40
      have g := zbU u0 r (pre ++ z ++ mid) [] [(1, n)] _ (by rw [he]; simp) nil0 hkr (.inr ⟨rfl, hone⟩)
      simp only [W_app, W_cons, W_nil, Nat.add_zero] at g
      exact ⟨pre, z, mid, (1, n) :: r, he, rfl, hz, rfl, .inl ho, g⟩
     ·rename_i h40
      have ho3 : Ones (mid ++ [(1, n)]) := ⟨by simp, fun q hq => by
       rcases List.mem_append.1 hq with h | h
       ·exact ho.2.1 q h
       ·simp at h; rw [h], by simp only [W_app, W_cons, W_nil]; omega⟩
      have g := zbU u0 r pre z (mid ++ [(1, n)]) _ (by rw [he]; simp) hz hkr (.inr ⟨rfl, ho3⟩)
      simp only [W_app, W_cons, W_nil, Nat.add_zero] at g
      rw [← Nat.add_assoc] at g
      exact g
def unF : Nat → List UInt8 → List (List UInt8)
 | 0, _ => []
 | _ + 1, [] => []
 | n + 1, b :: t => (b :: t).take (decodeL (b :: t)).2 :: unF n ((b :: t).drop (decodeL (b :: t)).2)
def units (l : List UInt8) : List (List UInt8) := unF l.length l
theorem zjw : ∀ (n m : Nat) (l : List UInt8), l.length ≤ n → l.length ≤ m → unF n l = unF m l
 | 0, m, l, hn, _ => by
  have : l = [] := List.eq_nil_of_length_eq_zero (by omega)
  subst this
  cases m <;> rfl
 | n + 1, 0, l, _, hm => by
  have : l = [] := List.eq_nil_of_length_eq_zero (by omega)
  subst this; rfl
 | n + 1, m + 1, [], _, _ => rfl
 | n + 1, m + 1, b :: t, hn, hm => by
  have hw := decodeL_width (b :: t)
  simp only [unF]
  rw [zjw n m _ (by rw [List.length_drop]; omega) (by rw [List.length_drop]; omega)]
theorem zhx : units [] = [] := rfl
theorem zcT (l : List UInt8) (hne : l ≠ []) : units l = l.take (decodeL l).2 :: units (l.drop (decodeL l).2) := by
 obtain ⟨b, t, rfl⟩ := List.exists_cons_of_ne_nil hne
 have hw := decodeL_width (b :: t)
 show (b :: t).take (decodeL (b :: t)).2 :: unF t.length _ = _
 rw [zjw t.length ((b :: t).drop (decodeL (b :: t)).2).length _ (by rw [List.length_drop, List.length_cons]; omega) (Nat.le_refl _)]
 rfl
theorem zkV (l : List UInt8) : (units l).flatten = l := by
 induction l using zcO with
 | nil => rfl
 | step l hne ih => rw [zcT l hne, List.flatten_cons, ih, List.take_append_drop]
theorem zlq (l : List UInt8) : (units l).length ≤ l.length := by
 induction l using zcO with
 | nil => exact Nat.le_refl _
 | step l hne ih =>
  have hw := decodeL_width l
  have hl := decodeL_le l hne
  rw [List.length_drop] at ih
  rw [zcT l hne, List.length_cons]; omega
def need (l : List UInt8) : Nat := if 194 ≤ (l.getD 0 0).toNat ∧ (l.getD 0 0).toNat ≤ 223 then 2 else if 224 ≤ (l.getD 0 0).toNat ∧ (l.getD 0 0).toNat ≤ 239 then 3 else if 240 ≤ (l.getD 0 0).toNat ∧ (l.getD 0 0).toNat ≤ 244 then 4 else 1
abbrev Wd3 := List UInt8 × Nat × Nat
def soughtL (words : List (List UInt8)) : List (List UInt8) := words.flatMap fun x => (wordsL x).map (·.1)
def seenL (ks : List (List UInt8)) : List Wd3 → List (List UInt8) → List (List UInt8)
 | [], seen => seen
 | x :: r, seen => seenL ks r (if x.1 ∈ ks ∧ ¬ x.1 ∈ seen then seen ++ [x.1] else seen)
def showsL (ks : List (List UInt8)) (ws : List Wd3) : Nat := (seenL ks ws []).length
theorem zgN (ks : List (List UInt8)) : ∀ (ws : List Wd3) (seen : List (List UInt8)) (t : List UInt8), t ∈ seenL ks ws seen ↔ t ∈ seen ∨ (t ∈ ks ∧ ∃ x ∈ ws, x.1 = t)
 | [], seen, t => by simp [seenL]
 | x :: r, seen, t => by
  rw [seenL, zgN ks r]
  by_cases h : x.1 ∈ ks ∧ ¬ x.1 ∈ seen
  ·rw [if_pos h]
   simp only [List.mem_append, List.mem_cons, List.not_mem_nil, or_false]
   constructor
   ·rintro ((h1 | rfl) | ⟨h1, y, h2, h3⟩)
    ·exact .inl h1
    ·exact .inr ⟨h.1, x, .inl rfl, rfl⟩
    ·exact .inr ⟨h1, y, .inr h2, h3⟩
   ·rintro (h1 | ⟨h1, y, rfl | h2, h3⟩)
    ·exact .inl (.inl h1)
    ·exact .inl (.inr h3.symm)
    ·exact .inr ⟨h1, y, h2, h3⟩
  ·rw [if_neg h]
   simp only [List.mem_cons]
   constructor
   ·rintro (h1 | ⟨h1, y, h2, h3⟩)
    ·exact .inl h1
    ·exact .inr ⟨h1, y, .inr h2, h3⟩
   ·rintro (h1 | ⟨h1, y, rfl | h2, h3⟩)
    ·exact .inl h1
    ·subst h3
     by_cases hs : y.1 ∈ seen
     ·exact .inl hs
     ·exact (h ⟨h1, hs⟩).elim
    ·exact .inr ⟨h1, y, h2, h3⟩
theorem zea (ks : List (List UInt8)) : ∀ (ws : List Wd3) (seen : List (List UInt8)), seen.Nodup → (seenL ks ws seen).Nodup
 | [], seen, h => h
 | x :: r, seen, h => by
  rw [seenL]
  refine zea ks r _ ?_
  split
  ·rename_i hx
   rw [List.nodup_append]
   refine ⟨h, by simp, fun a ha b hb => ?_⟩
   simp at hb; subst hb
   rintro rfl
   exact hx.2 ha
  ·exact h
theorem zaI {α : Type} [DecidableEq α] : ∀ (a b : List α), a.Nodup → (∀ x ∈ a, x ∈ b) → a.length ≤ b.length
 | [], b, _, _ => Nat.zero_le _
 | x :: r, b, hn, hs => by
  rw [List.nodup_cons] at hn
  have hx : x ∈ b := hs x (by simp)
  have h1 := zaI r (b.erase x) hn.2 fun y hy => by
   have hne : y ≠ x := fun e => hn.1 (e ▸ hy)
   exact (List.mem_erase_of_ne hne).2 (hs y (by simp [hy]))
  have h2 := List.length_erase_of_mem hx
  have h3 : 0 < b.length := List.length_pos_iff.2 fun e => by rw [e] at hx; cases hx
  simp only [List.length_cons]
  omega
theorem zhQ {α : Type} [DecidableEq α] (a b : List α) (ha : a.Nodup) (hb : b.Nodup) (h : ∀ x, x ∈ a ↔ x ∈ b) : a.length = b.length :=
 Nat.le_antisymm (zaI a b ha fun x hx => (h x).1 hx) (zaI b a hb fun x hx => (h x).2 hx)
theorem zoW (ks : List (List UInt8)) (ws : List Wd3) (a : List (List UInt8)) (ha : a.Nodup) (h : ∀ t, t ∈ a ↔ t ∈ ks ∧ ∃ x ∈ ws, x.1 = t) : a.length = showsL ks ws :=
 zhQ _ _ ha (zea ks ws [] (by simp)) fun t => by rw [h, zgN]; simp
theorem zkE (ks : List (List UInt8)) (ws vs : List Wd3) (h : ∀ x ∈ ws, ∃ y ∈ vs, y.1 = x.1) : showsL ks ws ≤ showsL ks vs :=
 zaI _ _ (zea ks ws [] (by simp)) fun t ht => by
  rw [zgN] at ht ⊢
  rcases ht with h0 | ⟨h1, x, hx, rfl⟩
  ·cases h0
  ·obtain ⟨y, hy, e⟩ := h x hx
   exact .inr ⟨h1, y, hy, e⟩
def fitB (f : Nat) (width : Int) (x : Wd3) : Bool := decide (((x.2.2 : Nat) : Int) - ((f : Nat) : Int) ≤ width)
def winE (l : List Wd3) (width : Int) (i : Nat) : Nat := i + ((l.drop i).takeWhile (fitB (l.getD i ([], 0, 0)).2.1 width)).length
theorem zmf (l : List Wd3) (width : Int) (i : Nat) (hi : i ≤ l.length) : i ≤ winE l width i ∧ winE l width i ≤ l.length := by
 unfold winE
 have := (List.takeWhile_prefix (fitB (l.getD i ([], 0, 0)).2.1 width) (l := l.drop i)).length_le
 rw [List.length_drop] at this
 omega
theorem zcJ {α : Type} (p : α → Bool) : ∀ (l : List α) (j : Nat), (∀ x ∈ l.take j, p x = true) → (j ≤ l.length) → (∀ x, l[j]? = some x → p x = false) → (l.takeWhile p).length = j
 | [], j, _, hj, _ => by simp at hj; simp [hj]
 | a :: r, 0, _, _, h => by
  have := h a rfl
  simp [this]
 | a :: r, j + 1, h1, hj, h => by
  have ha := h1 a (by simp)
  simp only [List.takeWhile_cons, ha, if_true, List.length_cons]
  rw [zcJ p r j (fun x hx => h1 x (by simp [hx])) (by simpa using hj) (fun x hx => h x (by simpa using hx))]
def winW (l : List Wd3) (width : Int) (i : Nat) : List Wd3 := (l.take (winE l width i)).drop i
def bestN (ks : List (List UInt8)) (l : List Wd3) (width : Int) : Nat → Option Nat
 | 0 => none
 | i + 1 => match bestN ks l width i with
  | none => if i < winE l width i then some i else none
  | some f => if i < winE l width i ∧ showsL ks (winW l width f) < showsL ks (winW l width i) then some i else some f
def startN : List (List UInt8) → Nat → Int → Nat
 | [], n, _ => n
 | u :: r, n, width => if ((n + u.length : Nat) : Int) ≤ width then startN r (n + u.length) width else n
def marksL (ks : List (List UInt8)) (at_ : Nat) (ws : List Wd3) : List (Nat × Nat) := (ws.filter fun x => decide (x.1 ∈ ks)).map fun x => (x.2.1 - at_, x.2.2 - at_)
def fromOf (l : List Wd3) (i : Nat) : Nat := (l.getD i ([], 0, 0)).2.1
def toOf (l : List Wd3) (i : Nat) : Nat := (l.getD i ([], 0, 0)).2.2
def snipL (ks : List (List UInt8)) (text : List UInt8) (width : Int) : List UInt8 × List (Nat × Nat) :=
 match bestN ks (wordsL text) width (wordsL text).length with
 | none => (text.take (startN (units text) 0 width), [])
 | some f => (cutL text (fromOf (wordsL text) f, toOf (wordsL text) (winE (wordsL text) width f - 1)), marksL ks (fromOf (wordsL text) f) (winW (wordsL text) width f))
theorem zfR (ks : List (List UInt8)) (l : List Wd3) (width : Int) : ∀ n f, bestN ks l width n = some f → f < n ∧ f < winE l width f ∧ (∀ i, i < n → i < winE l width i → showsL ks (winW l width i) ≤ showsL ks (winW l width f))
 | 0, f, h => by cases h
 | n + 1, f, h => by
  rw [bestN] at h
  cases hb : bestN ks l width n with
  | none =>
   rw [hb] at h
   dsimp only at h
   have hno : ∀ i, i < n → ¬ i < winE l width i := bestN_none ks l width n hb
   split at h
   ·rename_i hw
    injection h with h
    subst h
    refine ⟨by omega, hw, fun i hi hwi => ?_⟩
    rcases (show i < n ∨ i = n by omega) with h1 | h1
    ·exact (hno i h1 hwi).elim
    ·subst h1; exact Nat.le_refl _
   ·cases h
  | some g =>
   rw [hb] at h
   dsimp only at h
   obtain ⟨h1, h2, h3⟩ := zfR ks l width n g hb
   split at h
   ·rename_i hw
    injection h with h
    subst h
    refine ⟨by omega, hw.1, fun i hi hwi => ?_⟩
    rcases (show i < n ∨ i = n by omega) with h4 | h4
    ·exact Nat.le_trans (h3 i h4 hwi) (Nat.le_of_lt hw.2)
    ·subst h4; exact Nat.le_refl _
   ·rename_i hw
    injection h with h
    subst h
    refine ⟨by omega, h2, fun i hi hwi => ?_⟩
    rcases (show i < n ∨ i = n by omega) with h4 | h4
    ·exact h3 i h4 hwi
    ·subst h4
     exact Nat.le_of_not_lt fun hlt => hw ⟨hwi, hlt⟩
where
 bestN_none (ks : List (List UInt8)) (l : List Wd3) (width : Int) : ∀ n, bestN ks l width n = none → ∀ i, i < n → ¬ i < winE l width i
 | 0, _, i, hi => by omega
 | n + 1, h, i, hi => by
  rw [bestN] at h
  cases hb : bestN ks l width n with
  | none =>
   rw [hb] at h
   dsimp only at h
   split at h
   ·cases h
   ·rename_i hw
    rcases (show i < n ∨ i = n by omega) with h1 | h1
    ·exact bestN_none ks l width n hb i h1
    ·subst h1; exact hw
  | some g =>
   rw [hb] at h
   dsimp only at h
   split at h <;> cases h
set_option linter.unusedSectionVars false
def Dep (l : List Bx) : Nat → Int → Prop
 | 0, id => id = 0
 | d + 1, id => id ≠ 0 ∧ ∃ u, upOf l id = some u ∧ Dep l d u
theorem ziB (l : List Bx) : ∀ (n d : Nat) (id : Int), dep l n id = some d ↔ Dep l d id ∧ d ≤ n
 | 0, 0, id => by unfold dep Dep; by_cases h : id = 0 <;> simp [h]
 | 0, d + 1, id => by unfold dep; by_cases h : id = 0 <;> simp [h]
 | n + 1, 0, id => by
  unfold dep Dep
  by_cases h : id = 0
  ·simp [h]
  ·rw [if_neg h]
   constructor
   ·intro e
    cases hu : upOf l id with
    | none => rw [hu] at e; cases e
    | some u =>
     rw [hu] at e
     dsimp only at e
     cases hd : dep l n u with
     | none => rw [hd] at e; cases e
     | some x => rw [hd] at e; simp at e
   ·intro e; exact absurd e.1 h
 | n + 1, d + 1, id => by
  unfold dep Dep
  by_cases h : id = 0
  ·simp [h]
  ·rw [if_neg h]
   constructor
   ·intro e
    cases hu : upOf l id with
    | none => rw [hu] at e; cases e
    | some u =>
     rw [hu] at e
     dsimp only at e
     cases hd : dep l n u with
     | none => rw [hd] at e; cases e
     | some x =>
      rw [hd] at e
      simp at e
      subst e
      obtain ⟨h1, h2⟩ := (ziB l n x u).1 hd
      exact ⟨⟨h, u, rfl, h1⟩, by omega⟩
   ·rintro ⟨⟨_, u, hu, h1⟩, h2⟩
    rw [hu]
    dsimp only
    rw [(ziB l n d u).2 ⟨h1, by omega⟩]; rfl
theorem Dep.inj {l : List Bx} : ∀ {d e : Nat} {id : Int}, Dep l d id → Dep l e id → d = e
 | 0, 0, id, _, _ => rfl
 | 0, e + 1, id, h, k => absurd h k.1
 | d + 1, 0, id, h, k => absurd k h.1
 | d + 1, e + 1, id, ⟨_, u, hu, h⟩, ⟨_, v, hv, k⟩ => by
  rw [hu] at hv
  obtain rfl := Option.some.inj hv
  rw [Dep.inj h k]
theorem Dep.len {l : List Bx} {d : Nat} {id : Int} (h : Dep l d id) : d ≤ l.length := by
 have key : ∀ (d : Nat) (id : Int), Dep l d id → ∃ c : List Int, c.length = d ∧ c.Nodup ∧ (∀ x ∈ c, x ∈ l.map (·.id)) ∧ ∀ x ∈ c, ∃ e, e ≤ d ∧ Dep l e x := by
  intro d
  induction d with
  | zero => intro id _; exact ⟨[], rfl, .nil, by simp, by simp⟩
  | succ d ih =>
   rintro id ⟨h0, u, hu, hd⟩
   obtain ⟨c, h1, h2, h3, h4⟩ := ih u hd
   obtain ⟨b, hb, hid, _⟩ := zoy hu
   refine ⟨id :: c, by simp [h1], List.nodup_cons.2 ⟨fun hm => ?_, h2⟩, fun x hx => ?_, fun x hx => ?_⟩
   ·obtain ⟨e, he, hde⟩ := h4 id hm
    have := Dep.inj hde (show Dep l (d + 1) id from ⟨h0, u, hu, hd⟩)
    omega
   ·rcases List.mem_cons.1 hx with rfl | hx
    ·exact List.mem_map.2 ⟨b, hb, hid⟩
    ·exact h3 x hx
   ·rcases List.mem_cons.1 hx with rfl | hx
    ·exact ⟨d + 1, Nat.le_refl _, h0, u, hu, hd⟩
    ·obtain ⟨e, he, hde⟩ := h4 x hx
     exact ⟨e, by omega, hde⟩
 obtain ⟨c, h1, h2, h3, _⟩ := key d id h
 have := zaI c (l.map (·.id)) h2 h3
 rw [List.length_map] at this
 omega
theorem RightP.dep {l : List Bx} (hr : RightP l) {b : Bx} (hb : b ∈ l) : ∃ d, Dep l d b.id ∧ d ≤ 8 := by
 obtain ⟨d, h1, h2⟩ := hr.deep b hb
 exact ⟨d, ((ziB _ _ _ _).1 h1).1, h2⟩
inductive Reach (l : List Bx) (b : Int) : Int → Prop
 | here : Reach l b b
 | up {id u : Int} : upOf l id = some u → Reach l b u → Reach l b id
def hasId (l : List Bx) (id : Int) : Bool := l.any fun b => decide (b.id = id)
theorem Dep.congr {l l' : List Bx} (S : Int → Prop) (hS : ∀ id u, S id → upOf l id = some u → upOf l' id = some u ∧ S u) : ∀ (d : Nat) (id : Int), S id → Dep l d id → Dep l' d id
 | 0, id, _, h => h
 | d + 1, id, hs, ⟨h0, u, hu, h⟩ => ⟨h0, u, (hS id u hs hu).1, Dep.congr S hS d u (hS id u hs hu).2 h⟩
section
end
theorem Reach.dep {l : List Bx} (hz : upOf l 0 = none) {b y : Int} (h : Reach l b y) : ∀ {d : Nat}, Dep l d y → ∃ e, e ≤ d ∧ Dep l e b := by
 induction h with
 | here => intro d hd; exact ⟨d, Nat.le_refl _, hd⟩
 | @up id u hu _ ih =>
  intro d hd
  cases d with
  | zero =>
   have h0 : id = 0 := hd
   rw [h0, hz] at hu; cases hu
  | succ d =>
   obtain ⟨h0, v, hv, hd⟩ := hd
   rw [hu] at hv
   obtain rfl := Option.some.inj hv
   obtain ⟨e, h1, h2⟩ := ih hd
   exact ⟨e, by omega, h2⟩
theorem RightP.zero {l : List Bx} (hr : RightP l) : upOf l 0 = none := by rw [zoO, zpO hr]; rfl
section
end
section
end
theorem zeP : RightP [] := ⟨by simp, by simp, .nil, by simp, by simp, .nil, .nil, by simp⟩
structure Dg where
 (d0 d1 d2 d3 d4 d5 d6 d7 d8 d9 d10 d11 d12 d13 d14 d15 d16 d17 d18 d19 d20 d21 d22 d23 d24 d25 d26 d27 d28 d29 d30 d31 : Int)
deriving DecidableEq
structure Ml where
 id : Int
 blob : Dg
 boxes : List Int
 flags : List (List UInt8)
 at_ : Int
 size : Int
 mod : Int
deriving DecidableEq
structure Sc where
 name : List UInt8
 text : List UInt8
deriving DecidableEq
structure Sn where
 key : List UInt8
 at_ : Int
deriving DecidableEq
structure Acc where
 boxes : List Bx
 mails : List Ml
 scripts : List Sc
 active : List UInt8
 seen : List Sn
 nm : Int
 nb : Int
 st : Int
deriving DecidableEq
structure Opr where
 kind : Int
 id : Int
 box : Int
 up : Int
 name : List UInt8
 role : List UInt8
 text : List UInt8
 blob : Dg
 boxes : List Int
 add : List (List UInt8)
 drop : List (List UInt8)
 at_ : Int
 size : Int
 if_ : Int
structure STO {α : Type} (lt : α → α → Bool) : Prop where
 irr : ∀ a, lt a a = false
 tr : ∀ a b c, lt a b = true → lt b c = true → lt a c = true
 tri : ∀ a b, lt a b = false → lt b a = false → a = b
def insD {α : Type} (lt : α → α → Bool) (x : α) : List α → List α
 | [] => [x]
 | y :: r => if lt y x = true then y :: insD lt x r else if lt x y = true then x :: y :: r else y :: r
def sortD {α : Type} (lt : α → α → Bool) (l : List α) : List α := l.foldl (fun a x => insD lt x a) []
def AscB {α : Type} (lt : α → α → Bool) (l : List α) : Prop := l.Pairwise fun a b => lt a b = true
section
variable {α : Type} {lt : α → α → Bool}
theorem zgL (h : STO lt) (x z : α) : ∀ l : List α, z ∈ insD lt x l ↔ z = x ∨ z ∈ l
 | [] => by simp [insD]
 | y :: r => by
  unfold insD
  split
  ·rw [List.mem_cons, zgL h x z r, List.mem_cons]
   constructor
   ·rintro (e | e | e)
    ·exact .inr (.inl e)
    ·exact .inl e
    ·exact .inr (.inr e)
   ·rintro (e | e | e)
    ·exact .inr (.inl e)
    ·exact .inl e
    ·exact .inr (.inr e)
  ·rename_i h1
   split
   ·simp
   ·rename_i h2
    obtain rfl : y = x := h.tri y x (by simpa using h1) (by simpa using h2)
    simp
theorem zjR (h : STO lt) (x : α) : ∀ l : List α, AscB lt l → AscB lt (insD lt x l)
 | [], _ => by simp [insD, AscB]
 | y :: r, hl => by
  obtain ⟨h1, h2⟩ := List.pairwise_cons.1 hl
  unfold insD
  split
  ·rename_i hy
   refine List.pairwise_cons.2 ⟨fun z hz => ?_, zjR h x r h2⟩
   rcases (zgL h x z r).1 hz with rfl | hz
   ·exact hy
   ·exact h1 z hz
  ·split
   ·rename_i hy
    refine List.pairwise_cons.2 ⟨fun z hz => ?_, hl⟩
    rcases List.mem_cons.1 hz with rfl | hz
    ·exact hy
    ·exact h.tr _ _ _ hy (h1 z hz)
   ·exact hl
theorem zgP (h : STO lt) : ∀ (l a : List α), AscB lt a → AscB lt (l.foldl (fun a x => insD lt x a) a) ∧ ∀ z, z ∈ l.foldl (fun a x => insD lt x a) a ↔ z ∈ a ∨ z ∈ l
 | [], a, ha => ⟨ha, by simp⟩
 | x :: l, a, ha => by
  obtain ⟨h1, h2⟩ := zgP h l (insD lt x a) (zjR h x a ha)
  refine ⟨h1, fun z => ?_⟩
  rw [List.foldl_cons, h2, zgL h, List.mem_cons]
  constructor
  ·rintro ((e | e) | e)
   ·exact .inr (.inl e)
   ·exact .inl e
   ·exact .inr (.inr e)
  ·rintro (e | e | e)
   ·exact .inl (.inr e)
   ·exact .inl (.inl e)
   ·exact .inr e
theorem zbB (h : STO lt) (l : List α) : AscB lt (sortD lt l) := (zgP h l [] .nil).1
theorem zaZ (h : STO lt) (l : List α) (z : α) : z ∈ sortD lt l ↔ z ∈ l := by
 rw [show z ∈ sortD lt l ↔ _ from (zgP h l [] .nil).2 z]; simp
theorem zdb (h : STO lt) : ∀ (a b : List α), AscB lt a → AscB lt b → (∀ z, z ∈ a ↔ z ∈ b) → a = b
 | [], [], _, _, _ => rfl
 | [], y :: b, _, _, hm => by have := (hm y).2 (by simp); simp at this
 | x :: a, [], _, _, hm => by have := (hm x).1 (by simp); simp at this
 | x :: a, y :: b, ha, hb, hm => by
  obtain ⟨a1, a2⟩ := List.pairwise_cons.1 ha
  obtain ⟨b1, b2⟩ := List.pairwise_cons.1 hb
  have no : ∀ {u v : α}, lt u v = true → lt v u = true → False := fun p q => by
   have := h.tr _ _ _ p q
   rw [h.irr] at this; cases this
  obtain rfl : x = y := by
   rcases List.mem_cons.1 ((hm x).1 (by simp)) with e | e
   ·exact e
   rcases List.mem_cons.1 ((hm y).2 (by simp)) with f | f
   ·exact f.symm
   ·exact (no (a1 y f) (b1 x e)).elim
  have hne : ∀ {z : α} {l : List α}, (∀ u ∈ l, lt x u = true) → z ∈ l → z ≠ x := fun hl hz e => by
   subst e
   have := hl _ hz
   rw [h.irr] at this; cases this
  rw [zdb h a b a2 b2 fun z => ?_]
  constructor
  ·intro hz
   rcases List.mem_cons.1 ((hm z).1 (List.mem_cons_of_mem _ hz)) with e | e
   ·exact absurd e (hne a1 hz)
   ·exact e
  ·intro hz
   rcases List.mem_cons.1 ((hm z).2 (List.mem_cons_of_mem _ hz)) with e | e
   ·exact absurd e (hne b1 hz)
   ·exact e
theorem znZ (h : STO lt) {l m : List α} (ha : AscB lt m) (hm : ∀ z, z ∈ m ↔ z ∈ l) : m = sortD lt l := zdb h _ _ ha (zbB h l) fun z => by rw [hm, zaZ h]
theorem zjf (x : α) : ∀ l : List α, (insD lt x l).length ≤ l.length + 1
 | [] => by simp [insD]
 | y :: r => by
  unfold insD
  have := zjf x r
  split
  ·simp only [List.length_cons]; omega
  ·split <;> simp
theorem zhp (l : List α) : (sortD lt l).length ≤ l.length := by
 have : ∀ (l a : List α), (l.foldl (fun a x => insD lt x a) a).length ≤ a.length + l.length := by
  intro l
  induction l with
  | nil => simp
  | cons x l ih =>
   intro a
   have := ih (insD lt x a)
   have := zjf (lt := lt) x a
   simp only [List.foldl_cons, List.length_cons]; omega
 have := this l []
 unfold sortD
 simpa using this
end
def ltI (a b : Int) : Bool := decide (a < b)
def ltT (a b : List UInt8) : Bool := decide (a < b)
theorem stoI : STO ltI := ⟨fun a => by simp [ltI], fun a b c h1 h2 => by simp only [ltI, decide_eq_true_eq] at *; omega, fun a b h1 h2 => by simp only [ltI, decide_eq_false_iff_not] at *; omega⟩
theorem stoT : STO ltT := ⟨fun a => by simp only [ltT, decide_eq_false_iff_not]; exact List.lt_irrefl a, fun a b c h1 h2 => by simp only [ltT, decide_eq_true_eq] at *; exact List.lt_trans h1 h2, fun a b h1 h2 => by
 simp only [ltT, decide_eq_false_iff_not] at *
 exact List.le_antisymm h2 h1⟩
def sortI (l : List Int) : List Int := sortD ltI l
theorem zfN {α : Type} [DecidableEq α] [Inhabited α] {lt : α → α → Bool} (h : STO lt) (le : α → α → Bool) (hle : ∀ a b, le a b = !lt b a) (l : List α) : compact (l.mergeSort le) = sortD lt l := by
 have htr : ∀ a b c, le a b = true → le b c = true → le a c = true := fun a b c h1 h2 => by
  rw [hle, Bool.not_eq_true'] at *
  cases hca : lt c a with
  | false => rfl
  | true =>
   cases hcb : lt c b with
   | true => rw [hcb] at h2; cases h2
   | false =>
    cases hbc : lt b c with
    | true => have := h.tr _ _ _ hbc hca; rw [this] at h1; cases h1
    | false =>
     obtain rfl := h.tri _ _ hbc hcb
     rw [hca] at h1; cases h1
 have hto : ∀ a b, (le a b || le b a) = true := fun a b => by
  rw [hle, hle]
  cases hab : lt a b with
  | false => simp
  | true =>
   cases hba : lt b a with
   | false => rfl
   | true => have := h.tr _ _ _ hab hba; rw [h.irr] at this; cases this
 have hs : (l.mergeSort le).Pairwise fun a b => le a b = true := List.pairwise_mergeSort htr hto l
 have hm : ∀ z, z ∈ l.mergeSort le ↔ z ∈ l := fun z => (List.mergeSort_perm l le).mem_iff
 generalize l.mergeSort le = s at *
 have key : ∀ m, m ≤ s.length → AscB lt (compactUpTo s.toArray m) ∧ (∀ z, z ∈ compactUpTo s.toArray m ↔ z ∈ s.take m) := by
  intro m
  induction m with
  | zero => intro _; simp [compactUpTo, AscB]
  | succ m ih =>
   intro hmle
   obtain ⟨i1, i2⟩ := ih (by omega)
   have hlt : m < s.length := by omega
   rw [compactUpTo_succ]
   have hsm : s.toArray[m]! = s[m] := by simp [hlt]
   have htk : s.take (m + 1) = s.take m ++ [s[m]] := List.take_succ_eq_append_getElem hlt
   rw [htk, hsm]
   have hkp : keeps s.toArray m = true ↔ (m = 0 ∨ ∃ h : m - 1 < s.length, s[m] ≠ s[m - 1]) := by
    unfold keeps
    have e2 : s.toArray[m - 1]! = s[m - 1]'(by omega) := by simp [show m - 1 < s.length by omega]
    simp only [hsm, e2, decide_eq_true_eq, ne_eq]
    constructor
    ·rintro (e | e)
     ·exact .inl e
     ·exact .inr ⟨by omega, e⟩
    ·rintro (e | ⟨_, e⟩)
     ·exact .inl e
     ·exact .inr e
   have hle' : ∀ z ∈ s.take m, le z s[m] = true := fun z hz => by
    have hp := hs
    rw [← List.take_append_drop m s, List.pairwise_append] at hp
    exact hp.2.2 z hz s[m] (by rw [List.drop_eq_getElem_cons hlt]; exact List.mem_cons_self)
   by_cases hk : keeps s.toArray m = true
   ·rw [if_pos hk]
    refine ⟨?_, fun z => by rw [List.mem_append, List.mem_append, i2]⟩
    unfold AscB
    rw [List.pairwise_append]
    refine ⟨i1, by simp, fun a ha b hb => ?_⟩
    rw [List.mem_singleton] at hb
    subst hb
    have ha2 := (i2 a).1 ha
    have hane : a ≠ s[m] := by
     rintro rfl
     rcases hkp.1 hk with e | ⟨hm1, e⟩
     ·subst e; simp at ha2
     ·-- the one before m is at most s[m], and at least a
      apply e
      have hm0 : m ≠ 0 := by rintro rfl; simp at ha2
      have hp : le (s[m - 1]'hm1) s[m] = true := hle' _ (by
       rw [List.mem_take_iff_getElem]
       exact ⟨m - 1, by omega, rfl⟩)
      obtain ⟨i, hi, hie⟩ := List.mem_take_iff_getElem.1 ha2
      have hq : le s[m] (s[m - 1]'hm1) = true ∨ i = m - 1 := by
       by_cases hi1 : i = m - 1
       ·exact .inr hi1
       ·left
        have hi2 : i < m - 1 := by omega
        have := (List.pairwise_iff_getElem.1 hs) i (m - 1) (by omega) hm1 hi2
        rwa [hie] at this
      rcases hq with hq | hq
      ·rw [hle, Bool.not_eq_true'] at hp hq
       exact h.tri _ _ hp hq
      ·subst hq; exact hie.symm
    have := hle' a ha2
    rw [hle, Bool.not_eq_true'] at this
    cases hal : lt a s[m] with
    | true => rfl
    | false => exact absurd (h.tri _ _ hal this) hane
   ·rw [if_neg hk]
    rw [List.append_nil]
    refine ⟨i1, fun z => ?_⟩
    rw [i2, List.mem_append, List.mem_singleton]
    constructor
    ·exact .inl
    ·rintro (e | rfl)
     ·exact e
     ·have hm0 : m ≠ 0 := fun e => hk (hkp.2 (.inl e))
      have hm1 : m - 1 < s.length := by omega
      have e : s[m] = s[m - 1] := Classical.byContradiction fun hne => hk (hkp.2 (.inr ⟨hm1, hne⟩))
      rw [e]
      rw [List.mem_take_iff_getElem]
      exact ⟨m - 1, by omega, rfl⟩
 unfold compact
 obtain ⟨k1, k2⟩ := key s.length (Nat.le_refl _)
 exact znZ h k1 fun z => by rw [k2, List.take_length, hm]
theorem zfl (l : List Int) : compact (l.mergeSort fun x y => decide (x ≤ y)) = sortI l := zfN stoI _ (fun a b => by simp only [ltI]; rw [← decide_not]; exact decide_eq_decide.2 (by omega)) l
def flagCh (c : UInt8) : Bool := (decide (97 ≤ c.toNat) && decide (c.toNat ≤ 122)) || (decide (48 ≤ c.toNat) && decide (c.toNat ≤ 57)) || decide (c ∈ ([36, 92, 45, 95, 46] : List UInt8))
def flagB (s : List UInt8) : Bool := s.all flagCh && decide (1 ≤ s.length ∧ s.length ≤ 30)
def scCh (c : UInt8) : Bool := decide (32 ≤ c.toNat) && decide (c.toNat ≠ 127)
def scB (s : List UInt8) : Bool := s.all scCh && decide (1 ≤ s.length ∧ s.length ≤ 100)
end Go.Cs
