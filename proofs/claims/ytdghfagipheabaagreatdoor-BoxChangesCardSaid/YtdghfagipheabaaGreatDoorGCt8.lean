/- Helper text of this claim: Ct8, Ct9, Ct10, Cw4, Cw5, Cw6, Cw7: lemmas and contracts that the proved statement rests on; no conditions of its own. -/
import Derived.Test.YtdghfagipheabaaGreatDoorGCw3
import Derived.Test.YtdghfagipheabaaGreatDoorKit6
import Derived.Laws.StructEq
namespace Go.Cs
open Go.Lib
set_option linter.unusedVariables false
/-! ### Two texts with a separator between -/
theorem wd_sep (n : Nat) (v : List (Nat × Nat)) : ∀ (u : List (Nat × Nat)) (p : Nat) (f : Option Nat), wd (u ++ (0, n) :: v) p f = wd u p f ++ wd v (p + W u + n) none
  | [], p, f => by rw [List.nil_append, wd_0, W_nil, Nat.add_zero]; rfl
  | (k, m) :: u, p, f => by
    have h := fun f' => wd_sep n v u (p + m) f'
    simp only [List.cons_append, wd, W_cons]
    rw [h, h, ← Nat.add_assoc]
    split
    · rw [List.append_assoc]
    · split
      · simp [List.append_assoc]
      · split
        · split
          · rfl
          · rw [h]
        · rfl
def shiftP (d : Nat) (p : Nat × Nat) : Nat × Nat := (p.1 + d, p.2 + d)
theorem wd_shift (d : Nat) : ∀ (u : List (Nat × Nat)) (p : Nat) (f : Option Nat), wd u (p + d) (f.map (· + d)) = (wd u p f).map (shiftP d)
  | [], p, f => by cases f <;> simp [wd, close, shiftP]
  | (k, n) :: u, p, f => by
    have h1 := wd_shift d u (p + n) none
    have h2 := wd_shift d u (p + n) (some p)
    have e : p + d + n = p + n + d := by omega
    simp only [Option.map_none, Option.map_some] at h1 h2
    cases f with
    | none =>
      simp only [wd, Option.map_none, close, List.nil_append]
      rw [e, h1, h2]
      split
      · rfl
      · split
        · simp [shiftP]
        · rfl
    | some a =>
      have h3 := wd_shift d u (p + n) (some a)
      simp only [Option.map_some] at h3
      simp only [wd, Option.map_some, close]
      rw [e, h1, h2, h3]
      split
      · simp [shiftP]
      · split
        · simp [shiftP]
        · have : (40 < p + n + d - (a + d)) ↔ (40 < p + n - a) := by omega
          simp only [this]
          split
          · simp [shiftP]
          · rfl
def shiftW (d : Nat) (x : List UInt8 × Nat × Nat) : List UInt8 × Nat × Nat := (x.1, x.2.1 + d, x.2.2 + d)
theorem us_sep (a b : List UInt8) (c : Nat) (hc : scal c) (hk : kindN c = 0) : us (a ++ enc c ++ b) = us a ++ (0, (enc c).length) :: us b := by
  obtain ⟨x, t, he, hx, _⟩ := enc_shape c hc
  rw [List.append_assoc, us_app a _ (fun y hy => by rw [he] at hy; simp at hy; subst hy; exact hx)]
  congr 1
  have hd := dec_enc c hc b
  rw [us_step _ (by rw [he]; simp), hd, clsN_eq]
  simp only [List.drop_left', hk]
theorem words_both (a b : List UInt8) (c : Nat) (hc : scal c) (hk : kindN c = 0) : wordsL (a ++ enc c ++ b) = wordsL a ++ (wordsL b).map (shiftW (a.length + (enc c).length)) := by
  unfold wordsL
  rw [us_sep a b c hc hk, wd_sep, us_W, Nat.zero_add]
  have h := wd_shift (a.length + (enc c).length) (us b) 0 none
  rw [Nat.zero_add] at h
  have h : wd (us b) (a.length + (enc c).length) none = _ := h
  rw [h, List.map_append, List.map_map, List.map_map]
  congr 1
  · refine List.map_congr_left fun p hp => ?_
    obtain ⟨h1, h2, h3⟩ := places_bd a p hp
    have e : cutL (a ++ enc c ++ b) p = cutL a p := by
      unfold cutL
      rw [List.append_assoc, List.take_append_of_le_length h2.le]
    rw [e]
  · refine List.map_congr_left fun p hp => ?_
    have e : cutL (a ++ enc c ++ b) (shiftP (a.length + (enc c).length) p) = cutL b p := by
      unfold cutL shiftP
      dsimp only
      have hl : (a ++ enc c).length = a.length + (enc c).length := List.length_append
      rw [← hl, Nat.add_comm p.2, Nat.add_comm p.1, List.take_append, List.take_of_length_le (by omega), Nat.add_sub_cancel_left, List.drop_append, List.drop_of_length_le (by omega), Nat.add_sub_cancel_left, List.nil_append]
    show (foldL (cutL (a ++ enc c ++ b) (shiftP (a.length + (enc c).length) p)), _, _) = _
    rw [e]; rfl
end Go.Cs
namespace Go.Cs
open Go.Lib
theorem runes_one (r : Int) (h1 : (runes (encodeRune r)).length = 1) (he : (((runes (encodeRune r)).getD 0 0 : Nat) : Int) = r) : ∃ c : Nat, scal c ∧ r = (c : Int) := by
  by_cases hne : encodeRune r = []
  · rw [hne] at h1; exact absurd h1 (by decide)
  · rw [runes_step _ hne] at he
    exact ⟨(decodeL (encodeRune r)).1, dec_scal _ hne, he.symm⟩
theorem words_small (l : List UInt8) (x : List UInt8 × Nat × Nat) (hx : x ∈ wordsL l) : x.2.1 ≤ l.length ∧ x.2.2 ≤ l.length := by
  unfold wordsL at hx
  obtain ⟨p, hp, rfl⟩ := List.mem_map.1 hx
  obtain ⟨h1, h2, h3⟩ := places_bd l p hp
  exact ⟨h1.le, h2.le⟩
end Go.Cs

namespace Go.Cs
open Go.Lib
set_option linter.unusedVariables false
/-! ### Places in order, and what lies between them -/
def Zeros (u : List (Nat × Nat)) : Prop := ∀ q ∈ u, q.1 = 0
def Chain (u0 : List (Nat × Nat)) : Nat → List (Nat × Nat) → Prop
  | e, [] => ∃ a b, u0 = a ++ b ∧ W a = e ∧ Zeros b
  | e, p :: ps => ∃ a z s c, u0 = a ++ z ++ s ++ c ∧ W a = e ∧ Zeros z ∧ p = (W a + W z, W a + W z + W s) ∧ Seg s ∧ Chain u0 p.2 ps
theorem wd_chain (u0 : List (Nat × Nat)) : ∀ (r pre z mid : List (Nat × Nat)) (f : Option Nat), u0 = pre ++ z ++ mid ++ r → Zeros z → (∀ q ∈ r, q.1 ≤ 2 ∧ q.2 ≤ 4) → ((f = none ∧ mid = []) ∨ (f = some (W pre + W z) ∧ Ones mid)) →
    Chain u0 (W pre) (wd r (W pre + W z + W mid) f)
  | [], pre, z, mid, f, he, hz, _, hf => by
    rcases hf with ⟨rfl, rfl⟩ | ⟨rfl, ho⟩
    · exact ⟨pre, z, by simpa using he, rfl, hz⟩
    · refine ⟨pre, z, mid, [], he, rfl, hz, rfl, .inl ho, pre ++ z ++ mid, [], by simpa using he, by simp only [W_app], by simp [Zeros]⟩
  | (k, n) :: r, pre, z, mid, f, he, hz, hk, hf => by
    have hk0 := hk (k, n) (by simp)
    have hkr : ∀ q ∈ r, q.1 ≤ 2 ∧ q.2 ≤ 4 := fun q hq => hk q (by simp [hq])
    have nil0 : Zeros [] := by simp [Zeros]
    simp only [wd]
    split
    · rename_i h0
      subst h0
      rcases hf with ⟨rfl, rfl⟩ | ⟨rfl, ho⟩
      · have g := wd_chain u0 r pre (z ++ [(0, n)]) [] none (by rw [he]; simp) (fun q hq => by
          rcases List.mem_append.1 hq with h | h
          · exact hz q h
          · simp at h; rw [h]) hkr (.inl ⟨rfl, rfl⟩)
        simp only [W_app, W_cons, W_nil, Nat.add_zero] at g
        simp only [close, List.nil_append, W_nil, Nat.add_zero]
        rw [← Nat.add_assoc] at g
        exact g
      · have g := wd_chain u0 r (pre ++ z ++ mid) [(0, n)] [] none (by rw [he]; simp) (by simp [Zeros]) hkr (.inl ⟨rfl, rfl⟩)
        simp only [W_app, W_cons, W_nil, Nat.add_zero] at g
        exact ⟨pre, z, mid, (0, n) :: r, he, rfl, hz, rfl, .inl ho, g⟩
    · split
      · rename_i h0 h2
        subst h2
        rcases hf with ⟨rfl, rfl⟩ | ⟨rfl, ho⟩
        · have g := wd_chain u0 r (pre ++ z ++ [(2, n)]) [] [] none (by rw [he]; simp) nil0 hkr (.inl ⟨rfl, rfl⟩)
          simp only [W_app, W_cons, W_nil, Nat.add_zero] at g
          simp only [close, List.nil_append, W_nil, Nat.add_zero]
          exact ⟨pre, z, [(2, n)], r, by rw [he]; simp, rfl, hz, by simp only [W_cons, W_nil, Nat.add_zero], .inr ⟨n, rfl⟩, g⟩
        · have g := wd_chain u0 r (pre ++ z ++ mid ++ [(2, n)]) [] [] none (by rw [he]; simp) nil0 hkr (.inl ⟨rfl, rfl⟩)
          simp only [W_app, W_cons, W_nil, Nat.add_zero] at g
          refine ⟨pre, z, mid, (2, n) :: r, he, rfl, hz, rfl, .inl ho, pre ++ z ++ mid, [], [(2, n)], r, by rw [he]; simp, by simp only [W_app], nil0, by simp only [W_app, W_cons, W_nil, Nat.add_zero], .inr ⟨n, rfl⟩, g⟩
      · rename_i h0 h2
        have hk1 : k = 1 := by dsimp only at hk0; omega
        subst hk1
        have hone : Ones [(1, n)] := ⟨by simp, by simp, by simp only [W_cons, W_nil]; dsimp only at hk0 ⊢; omega⟩
        rcases hf with ⟨rfl, rfl⟩ | ⟨rfl, ho⟩
        · have g := wd_chain u0 r pre z [(1, n)] _ (by rw [he]; simp) hz hkr (.inr ⟨rfl, hone⟩)
          simp only [W_cons, W_nil, Nat.add_zero] at g ⊢
          exact g
        · simp only
          split
          · rename_i h40
            have g := wd_chain u0 r (pre ++ z ++ mid) [] [(1, n)] _ (by rw [he]; simp) nil0 hkr (.inr ⟨rfl, hone⟩)
            simp only [W_app, W_cons, W_nil, Nat.add_zero] at g
            exact ⟨pre, z, mid, (1, n) :: r, he, rfl, hz, rfl, .inl ho, g⟩
          · rename_i h40
            have ho3 : Ones (mid ++ [(1, n)]) := ⟨by simp, fun q hq => by
              rcases List.mem_append.1 hq with h | h
              · exact ho.2.1 q h
              · simp at h; rw [h], by simp only [W_app, W_cons, W_nil]; omega⟩
            have g := wd_chain u0 r pre z (mid ++ [(1, n)]) _ (by rw [he]; simp) hz hkr (.inr ⟨rfl, ho3⟩)
            simp only [W_app, W_cons, W_nil, Nat.add_zero] at g
            rw [← Nat.add_assoc] at g
            exact g
/-- Classes and code points. -/
theorem us_runes (l : List UInt8) : (us l).map (·.1) = (runes l).map kindN := by
  induction l using dec_ind with
  | nil => rfl
  | step l hne ih =>
    rw [us_step l hne, runes_step l hne, List.map_cons, List.map_cons, ih, clsN_eq]
def lettersB (l : List UInt8) : Bool := decide (runes l ≠ []) && (runes l).all fun c => decide (kindN c ≠ 0)
def noneB (l : List UInt8) : Bool := (runes l).all fun c => decide (kindN c = 0)
theorem none_of {l : List UInt8} (h : Zeros (us l)) : noneB l = true := by
  unfold noneB
  rw [List.all_eq_true]
  intro c hc
  have : kindN c ∈ (us l).map (·.1) := by rw [us_runes]; exact List.mem_map_of_mem hc
  obtain ⟨q, hq, e⟩ := List.mem_map.1 this
  rw [← e, h q hq]; rfl
theorem letters_of {l : List UInt8} (h : Seg (us l)) : lettersB l = true := by
  unfold lettersB
  have hall : ∀ q ∈ us l, q.1 ≠ 0 := by
    rcases h with ⟨_, h, _⟩ | ⟨n, h⟩
    · intro q hq; rw [h q hq]; decide
    · intro q hq; rw [h] at hq; simp at hq; rw [hq]; show (2 : Nat) ≠ 0; decide
  have hne : us l ≠ [] := by
    rcases h with ⟨h, _⟩ | ⟨n, h⟩
    · exact h
    · rw [h]; simp
  rw [Bool.and_eq_true, List.all_eq_true, decide_eq_true_eq]
  refine ⟨fun e => ?_, fun c hc => ?_⟩
  · have := us_runes l
    rw [e] at this
    exact hne (List.map_eq_nil_iff.1 this)
  · have : kindN c ∈ (us l).map (·.1) := by rw [us_runes]; exact List.mem_map_of_mem hc
    obtain ⟨q, hq, e⟩ := List.mem_map.1 this
    rw [← e]; exact decide_eq_true (hall q hq)
end Go.Cs

namespace Go.Cs
open Go.Lib
set_option linter.unusedVariables false
/-! ### The reference's pieces, runes, places: plain -/
/-- The pieces of a text. -/
def unF : Nat → List UInt8 → List (List UInt8)
  | 0, _ => []
  | _ + 1, [] => []
  | n + 1, b :: t => (b :: t).take (decodeL (b :: t)).2 :: unF n ((b :: t).drop (decodeL (b :: t)).2)
def units (l : List UInt8) : List (List UInt8) := unF l.length l
theorem unF_fuel : ∀ (n m : Nat) (l : List UInt8), l.length ≤ n → l.length ≤ m → unF n l = unF m l
  | 0, m, l, hn, _ => by
    have : l = [] := List.eq_nil_of_length_eq_zero (by omega)
    subst this
    cases m <;> rfl
  | n + 1, 0, l, _, hm => by
    have : l = [] := List.eq_nil_of_length_eq_zero (by omega)
    subst this; rfl
  | n + 1, m + 1, [], _, _ => rfl
  | n + 1, m + 1, b :: t, hn, hm => by
    have hw := decodeL_width (b :: t)
    simp only [unF]
    rw [unF_fuel n m _ (by rw [List.length_drop]; omega) (by rw [List.length_drop]; omega)]
theorem units_nil : units [] = [] := rfl
theorem units_step (l : List UInt8) (hne : l ≠ []) : units l = l.take (decodeL l).2 :: units (l.drop (decodeL l).2) := by
  obtain ⟨b, t, rfl⟩ := List.exists_cons_of_ne_nil hne
  have hw := decodeL_width (b :: t)
  show (b :: t).take (decodeL (b :: t)).2 :: unF t.length _ = _
  rw [unF_fuel t.length ((b :: t).drop (decodeL (b :: t)).2).length _ (by rw [List.length_drop, List.length_cons]; omega) (Nat.le_refl _)]
  rfl
theorem units_flat (l : List UInt8) : (units l).flatten = l := by
  induction l using dec_ind with
  | nil => rfl
  | step l hne ih => rw [units_step l hne, List.flatten_cons, ih, List.take_append_drop]
/-- A piece of a text. -/
def IsUnit (u : List UInt8) : Prop := u ≠ [] ∧ (decodeL u).2 = u.length
theorem isUnit_take (l : List UInt8) (hne : l ≠ []) : IsUnit (l.take (decodeL l).2) ∧ decodeL (l.take (decodeL l).2) = decodeL l := by
  have hw := decodeL_width l
  have hl := decodeL_le l hne
  have h0 := List.length_pos_iff.2 hne
  have h := dec_take l (decodeL l).2 hne (Nat.le_refl _)
  refine ⟨⟨fun e => ?_, ?_⟩, h⟩
  · have := congrArg List.length e
    rw [List.length_take, List.length_nil] at this; omega
  · rw [h, List.length_take]; omega
theorem units_unit (l : List UInt8) : ∀ u ∈ units l, IsUnit u := by
  induction l using dec_ind with
  | nil => intro u hu; cases hu
  | step l hne ih =>
    intro u hu
    rw [units_step l hne] at hu
    rcases List.mem_cons.1 hu with rfl | hu
    · exact (isUnit_take l hne).1
    · exact ih u hu
theorem units_us (l : List UInt8) : us l = (units l).map fun u => (clsN (decodeL u), u.length) := by
  induction l using dec_ind with
  | nil => rfl
  | step l hne ih =>
    have hl := decodeL_le l hne
    rw [units_step l hne, us_step l hne, List.map_cons, ih, (isUnit_take l hne).2, List.length_take, Nat.min_eq_left hl]
theorem units_fold (l : List UInt8) : foldL l = (units l).flatMap head1 := by
  induction l using dec_ind with
  | nil => rfl
  | step l hne ih =>
    have hl := decodeL_le l hne
    have hw := decodeL_width l
    rw [units_step l hne, foldL_step l hne, List.flatMap_cons, ih]
    congr 1
    unfold head1
    rw [(isUnit_take l hne).2]
    obtain ⟨b, t, rfl⟩ := List.exists_cons_of_ne_nil hne
    congr 2
    obtain ⟨k, hk⟩ : ∃ k, (decodeL (b :: t)).2 = k + 1 := ⟨(decodeL (b :: t)).2 - 1, by omega⟩
    rw [hk]; rfl
theorem units_len (l : List UInt8) : (units l).length ≤ l.length := by
  induction l using dec_ind with
  | nil => exact Nat.le_refl _
  | step l hne ih =>
    have hw := decodeL_width l
    have hl := decodeL_le l hne
    rw [List.length_drop] at ih
    rw [units_step l hne, List.length_cons]; omega
/-- A rune put together from a piece, as the reference does. -/
def runeU (u : List UInt8) : Nat :=
  if u.length = 1 then (u.getD 0 0).toNat
  else if u.length = 2 then (u.getD 0 0).toNat % 32 * 64 + (u.getD 1 0).toNat % 64
  else if u.length = 3 then (u.getD 0 0).toNat % 16 * 4096 + (u.getD 1 0).toNat % 64 * 64 + (u.getD 2 0).toNat % 64
  else (u.getD 0 0).toNat % 8 * 262144 + (u.getD 1 0).toNat % 64 * 4096 + (u.getD 2 0).toNat % 64 * 64 + (u.getD 3 0).toNat % 64
/-- What the reference asks of a piece of n bytes at the head of l. -/
def need (l : List UInt8) : Nat := if 194 ≤ (l.getD 0 0).toNat ∧ (l.getD 0 0).toNat ≤ 223 then 2 else if 224 ≤ (l.getD 0 0).toNat ∧ (l.getD 0 0).toNat ≤ 239 then 3 else if 240 ≤ (l.getD 0 0).toNat ∧ (l.getD 0 0).toNat ≤ 244 then 4 else 1
def lowN (n : Nat) : Nat := if n = 2 then 128 else if n = 3 then 2048 else if n = 4 then 65536 else 0
def contB (l : List UInt8) (i : Nat) : Prop := 128 ≤ (l.getD i 0).toNat ∧ (l.getD i 0).toNat ≤ 191
instance (l : List UInt8) (i : Nat) : Decidable (contB l i) := by unfold contB; infer_instance
theorem getD_take (l : List UInt8) (n i : Nat) (h : i < n) : (l.take n).getD i 0 = l.getD i 0 := by
  rw [List.getD_eq_getElem?_getD, List.getD_eq_getElem?_getD, List.getElem?_take_of_lt h]
def badC (l : List UInt8) (n : Nat) : Prop := (2 ≤ n ∧ ¬ contB l 1) ∨ (3 ≤ n ∧ ¬ contB l 2) ∨ (4 ≤ n ∧ ¬ contB l 3)
instance (l : List UInt8) (n : Nat) : Decidable (badC l n) := by unfold badC; infer_instance
/-- The width of a step, as the reference finds it. -/
def refLen (l : List UInt8) : Nat :=
  if need l = 1 ∨ l.length < need l then 1
  else if badC l (need l) then 1
  else if runeU (l.take (need l)) < lowN (need l) ∨ 1114111 < runeU (l.take (need l)) ∨ (55296 ≤ runeU (l.take (need l)) ∧ runeU (l.take (need l)) ≤ 57343) then 1
  else need l
theorem runeU2 (l : List UInt8) (h : 2 ≤ l.length) : runeU (l.take 2) = (l.getD 0 0).toNat % 32 * 64 + (l.getD 1 0).toNat % 64 := by
  unfold runeU
  rw [List.length_take, Nat.min_eq_left h, if_neg (by omega), if_pos rfl, getD_take l 2 0 (by omega), getD_take l 2 1 (by omega)]
theorem runeU3 (l : List UInt8) (h : 3 ≤ l.length) : runeU (l.take 3) = (l.getD 0 0).toNat % 16 * 4096 + (l.getD 1 0).toNat % 64 * 64 + (l.getD 2 0).toNat % 64 := by
  unfold runeU
  rw [List.length_take, Nat.min_eq_left h, if_neg (by omega), if_neg (by omega), if_pos rfl, getD_take l 3 0 (by omega), getD_take l 3 1 (by omega), getD_take l 3 2 (by omega)]
theorem runeU4 (l : List UInt8) (h : 4 ≤ l.length) : runeU (l.take 4) = (l.getD 0 0).toNat % 8 * 262144 + (l.getD 1 0).toNat % 64 * 4096 + (l.getD 2 0).toNat % 64 * 64 + (l.getD 3 0).toNat % 64 := by
  unfold runeU
  rw [List.length_take, Nat.min_eq_left h, if_neg (by omega), if_neg (by omega), if_neg (by omega), getD_take l 4 0 (by omega), getD_take l 4 1 (by omega), getD_take l 4 2 (by omega), getD_take l 4 3 (by omega)]
set_option maxHeartbeats 4000000 in
theorem refLen_eq (l : List UInt8) (hne : l ≠ []) : refLen l = (decodeL l).2 ∧ (decodeL l = (65533, 1) ∨ runeU (l.take (decodeL l).2) = (decodeL l).1) := by
  have hl0 : 0 < l.length := List.length_pos_iff.2 hne
  rw [decodeL_N]
  unfold refLen
  have h0 := UInt8.toNat_lt (l.getD 0 0)
  have hr1 : runeU (l.take 1) = (l.getD 0 0).toNat := by
    unfold runeU
    rw [List.length_take, Nat.min_eq_left hl0, if_pos rfl, getD_take l 1 0 (by omega)]
  have hr2 := runeU2 l
  have hr3 := runeU3 l
  have hr4 := runeU4 l
  have hc1 : contB l 1 ↔ (128 ≤ (l.getD 1 0).toNat ∧ (l.getD 1 0).toNat ≤ 191) := Iff.rfl
  have hc2 : contB l 2 ↔ (128 ≤ (l.getD 2 0).toNat ∧ (l.getD 2 0).toNat ≤ 191) := Iff.rfl
  have hc3 : contB l 3 ↔ (128 ≤ (l.getD 3 0).toNat ∧ (l.getD 3 0).toNat ≤ 191) := Iff.rfl
  have hnd : need l = if 194 ≤ (l.getD 0 0).toNat ∧ (l.getD 0 0).toNat ≤ 223 then 2 else if 224 ≤ (l.getD 0 0).toNat ∧ (l.getD 0 0).toNat ≤ 239 then 3 else if 240 ≤ (l.getD 0 0).toNat ∧ (l.getD 0 0).toNat ≤ 244 then 4 else 1 := rfl
  have h1 := UInt8.toNat_lt (l.getD 1 0)
  have h2 := UInt8.toNat_lt (l.getD 2 0)
  have h3 := UInt8.toNat_lt (l.getD 3 0)
  generalize (l.getD 0 0).toNat = x0 at *
  generalize (l.getD 1 0).toNat = x1 at *
  generalize (l.getD 2 0).toNat = x2 at *
  generalize (l.getD 3 0).toNat = x3 at *
  generalize l.length = n at *
  by_cases hA : x0 < 128
  · have hD : decodeN n x0 x1 x2 x3 = (x0, 1) := by unfold decodeN; rw [if_pos hA]
    rw [hD, if_pos (.inl (by rw [hnd, if_neg (by omega), if_neg (by omega), if_neg (by omega)]))]
    exact ⟨rfl, .inr hr1⟩
  by_cases hB : 194 ≤ x0 ∧ x0 ≤ 223
  · rw [if_pos hB] at hnd
    rw [hnd]
    by_cases hl : n < 2
    · have hD : decodeN n x0 x1 x2 x3 = (65533, 1) := by unfold decodeN; rw [if_neg (by omega), if_neg (by omega), if_neg (by omega), if_neg (by omega)]
      rw [hD, if_pos (.inr hl)]
      exact ⟨rfl, .inl rfl⟩
    have hb2 : badC l 2 ↔ ¬ contB l 1 := by unfold badC; simp
    by_cases hc : 128 ≤ x1 ∧ x1 ≤ 191
    · have hD : decodeN n x0 x1 x2 x3 = (x0 % 32 * 64 + x1 % 64, 2) := by unfold decodeN; rw [if_neg hA, if_pos (by omega), if_pos (by omega)]
      rw [hD, if_neg (by omega), if_neg (fun h => hb2.1 h (hc1.2 hc)), hr2 (by omega), show lowN 2 = 128 from rfl, if_neg (by omega)]
      exact ⟨rfl, .inr rfl⟩
    · have hD : decodeN n x0 x1 x2 x3 = (65533, 1) := by unfold decodeN; rw [if_neg hA, if_neg (by omega), if_neg (by omega), if_neg (by omega)]
      rw [hD, if_neg (by omega), if_pos (hb2.2 fun h => hc (hc1.1 h))]
      exact ⟨rfl, .inl rfl⟩
  by_cases hC : 224 ≤ x0 ∧ x0 ≤ 239
  · rw [if_neg hB, if_pos hC] at hnd
    rw [hnd]
    by_cases hl : n < 3
    · have hD : decodeN n x0 x1 x2 x3 = (65533, 1) := by unfold decodeN; rw [if_neg (by omega), if_neg (by omega), if_neg (by omega), if_neg (by omega)]
      rw [hD, if_pos (.inr hl)]
      exact ⟨rfl, .inl rfl⟩
    have hb3 : badC l 3 ↔ (¬ contB l 1 ∨ ¬ contB l 2) := by unfold badC; simp
    by_cases hc : (128 ≤ x1 ∧ x1 ≤ 191) ∧ 128 ≤ x2 ∧ x2 ≤ 191
    · rw [if_neg (by omega), if_neg (fun h => (hb3.1 h).elim (fun h => h (hc1.2 hc.1)) (fun h => h (hc2.2 hc.2))), hr3 (by omega), show lowN 3 = 2048 from rfl]
      by_cases hv : x0 % 16 * 4096 + x1 % 64 * 64 + x2 % 64 < 2048 ∨ 1114111 < x0 % 16 * 4096 + x1 % 64 * 64 + x2 % 64 ∨ (55296 ≤ x0 % 16 * 4096 + x1 % 64 * 64 + x2 % 64 ∧ x0 % 16 * 4096 + x1 % 64 * 64 + x2 % 64 ≤ 57343)
      · have hD : decodeN n x0 x1 x2 x3 = (65533, 1) := by unfold decodeN; rw [if_neg hA, if_neg (by omega), if_pos (by omega), if_neg (by omega)]
        rw [if_pos hv, hD]
        exact ⟨rfl, .inl rfl⟩
      · have hD : decodeN n x0 x1 x2 x3 = (x0 % 16 * 4096 + x1 % 64 * 64 + x2 % 64, 3) := by unfold decodeN; rw [if_neg hA, if_neg (by omega), if_pos (by omega), if_pos (by omega)]
        rw [if_neg hv, hD]
        exact ⟨rfl, .inr (hr3 (by omega))⟩
    · have hD : decodeN n x0 x1 x2 x3 = (65533, 1) := by unfold decodeN; rw [if_neg hA, if_neg (by omega), if_neg (by omega), if_neg (by omega)]
      rw [hD, if_neg (by omega), if_pos (by rw [hb3, hc1, hc2]; omega)]
      exact ⟨rfl, .inl rfl⟩
  by_cases hD4 : 240 ≤ x0 ∧ x0 ≤ 244
  · rw [if_neg hB, if_neg hC, if_pos hD4] at hnd
    rw [hnd]
    by_cases hl : n < 4
    · have hD : decodeN n x0 x1 x2 x3 = (65533, 1) := by unfold decodeN; rw [if_neg (by omega), if_neg (by omega), if_neg (by omega), if_neg (by omega)]
      rw [hD, if_pos (.inr hl)]
      exact ⟨rfl, .inl rfl⟩
    have hb4 : badC l 4 ↔ (¬ contB l 1 ∨ ¬ contB l 2 ∨ ¬ contB l 3) := by unfold badC; simp
    by_cases hc : (128 ≤ x1 ∧ x1 ≤ 191) ∧ (128 ≤ x2 ∧ x2 ≤ 191) ∧ 128 ≤ x3 ∧ x3 ≤ 191
    · rw [if_neg (by omega), if_neg (fun h => (hb4.1 h).elim (fun h => h (hc1.2 hc.1)) (fun h => h.elim (fun h => h (hc2.2 hc.2.1)) (fun h => h (hc3.2 hc.2.2)))), hr4 (by omega), show lowN 4 = 65536 from rfl]
      by_cases hv : x0 % 8 * 262144 + x1 % 64 * 4096 + x2 % 64 * 64 + x3 % 64 < 65536 ∨ 1114111 < x0 % 8 * 262144 + x1 % 64 * 4096 + x2 % 64 * 64 + x3 % 64
      · have hD : decodeN n x0 x1 x2 x3 = (65533, 1) := by unfold decodeN; rw [if_neg hA, if_neg (by omega), if_neg (by omega), if_pos (by omega), if_neg (by omega)]
        rw [if_pos (by omega), hD]
        exact ⟨rfl, .inl rfl⟩
      · have hD : decodeN n x0 x1 x2 x3 = (x0 % 8 * 262144 + x1 % 64 * 4096 + x2 % 64 * 64 + x3 % 64, 4) := by unfold decodeN; rw [if_neg hA, if_neg (by omega), if_neg (by omega), if_pos (by omega), if_pos (by omega)]
        rw [if_neg (by omega), hD]
        exact ⟨rfl, .inr (hr4 (by omega))⟩
    · have hD : decodeN n x0 x1 x2 x3 = (65533, 1) := by unfold decodeN; rw [if_neg hA, if_neg (by omega), if_neg (by omega), if_neg (by omega)]
      rw [hD, if_neg (by omega), if_pos (by rw [hb4, hc1, hc2, hc3]; omega)]
      exact ⟨rfl, .inl rfl⟩
  · rw [if_neg hB, if_neg hC, if_neg hD4] at hnd
    rw [if_pos (.inl hnd)]
    have hD : decodeN n x0 x1 x2 x3 = (65533, 1) := by
      unfold decodeN
      rw [if_neg hA]
      have h1 : ¬ (x0 / 16 = 14) := by omega
      have h2 : ¬ (x0 % 8 * 262144 + x1 % 64 * 4096 + x2 % 64 * 64 + x3 % 64 ≥ 65536 ∧ (x0 % 8 * 262144 + x1 % 64 * 4096 + x2 % 64 * 64 + x3 % 64 < 55296 ∨ (57344 ≤ x0 % 8 * 262144 + x1 % 64 * 4096 + x2 % 64 * 64 + x3 % 64 ∧ x0 % 8 * 262144 + x1 % 64 * 4096 + x2 % 64 * 64 + x3 % 64 ≤ 1114111))) ∨ ¬ x0 / 8 = 30 := by omega
      by_cases ha : x0 / 32 = 6 ∧ (1 < n ∧ x1 / 64 = 2)
      · rw [if_pos ha, if_neg (by omega)]
      rw [if_neg ha, if_neg (fun h => h1 h.1)]
      split
      · rename_i h
        rcases h2 with h2 | h2
        · rw [if_neg h2]
        · exact (h2 h.1).elim
      · rfl
    rw [hD]
    exact ⟨rfl, .inl rfl⟩
theorem enc_len' (c : Nat) (h1 : ¬ c < 128) : 2 ≤ (enc c).length := by
  unfold enc encodeRune
  by_cases h2 : c ≤ 2047
  · rw [encodeRuneZ_two (by omega) (by omega)]; simp
  by_cases hb : (55296 ≤ c ∧ c ≤ 57343) ∨ 1114111 < c
  · rw [encodeRuneZ_bad (by omega)]; simp
  by_cases h3 : c ≤ 65535
  · rw [encodeRuneZ_three (by omega)]; simp
  · rw [encodeRuneZ_four (by omega) (by omega)]; simp
/-- The class of a piece, as the reference finds it. -/
def clsU (u : List UInt8) : Nat := if u.length = 1 ∧ 128 ≤ (u.getD 0 0).toNat then 0 else kindN (runeU u)
theorem dec_one (l : List UInt8) (h : (decodeL l).2 = 1) (hne : l ≠ []) : (128 ≤ (l.getD 0 0).toNat ∧ decodeL l = (65533, 1)) ∨ ((l.getD 0 0).toNat < 128 ∧ decodeL l = ((l.getD 0 0).toNat, 1)) := by
  by_cases h0 : (l.getD 0 0).toNat < 128
  · refine .inr ⟨h0, ?_⟩
    rw [decodeL_N]; unfold decodeN; rw [if_pos h0]
  · refine .inl ⟨by omega, ?_⟩
    rcases dec_whole l hne with h' | ⟨h1, h2, h3, _⟩
    · exact h'
    · exfalso
      rw [h] at h2 h3
      have hl0 : 0 < l.length := List.length_pos_iff.2 hne
      have hd := dec_enc _ h1 (l.drop 1)
      rw [← h2, List.take_append_drop] at hd
      have h4 : (decodeL l).1 < 128 ∨ ¬ (decodeL l).1 < 128 := by omega
      rcases h4 with h4 | h4
      · rw [enc1 h4] at h2
        have := congrArg (fun x => (x.getD 0 0).toNat) h2
        simp only [getD_take l 1 0 (by omega), List.getD_cons_zero] at this
        rw [this] at h0
        simp at h0
        omega
      · have := enc_len' _ h4
        omega
theorem clsU_eq (u : List UInt8) (h : IsUnit u) : clsU u = clsN (decodeL u) := by
  obtain ⟨hne, hu⟩ := h
  have ht : u.take (decodeL u).2 = u := by rw [hu, List.take_length]
  obtain ⟨_, hr⟩ := refLen_eq u hne
  rw [ht] at hr
  rw [clsN_eq]
  unfold clsU
  by_cases h1 : u.length = 1
  · rcases dec_one u (by omega) hne with ⟨h2, h3⟩ | ⟨h2, h3⟩
    · rw [if_pos ⟨h1, h2⟩, h3]; rfl
    · rw [if_neg (by omega), h3]
      unfold runeU; rw [if_pos h1]
  · rw [if_neg (by omega)]
    rcases hr with hr | hr
    · rw [hr] at hu; exact (h1 hu.symm).elim
    · rw [hr]
/-- The reference's places. -/
def refW : List (Nat × Nat) → Nat → List (Nat × Nat) → Bool → List (Nat × Nat)
  | [], _, out, _ => out
  | (k, n) :: r, at_, out, op =>
    refW r (at_ + n) (if k = 1 ∧ op = true ∧ (out.getLastD (0, 0)).2 - (out.getLastD (0, 0)).1 + n ≤ 40 then out.dropLast ++ [((out.getLastD (0, 0)).1, (out.getLastD (0, 0)).2 + n)] else if 0 < k then out ++ [(at_, at_ + n)] else out) (decide (k = 1))
theorem refW_eq : ∀ (u : List (Nat × Nat)), (∀ q ∈ u, q.1 ≤ 2) → ∀ (p : Nat) (C : List (Nat × Nat)), refW u p C false = C ++ wd u p none ∧ ∀ a, a ≤ p → refW u p (C ++ [(a, p)]) true = C ++ wd u p (some a)
  | [], _, p, C => ⟨by simp [refW, wd, close], fun a ha => by simp [refW, wd, close]⟩
  | (k, n) :: r, hk, p, C => by
    have ih := refW_eq r fun q hq => hk q (by simp [hq])
    have hk0 : k ≤ 2 := hk (k, n) (by simp)
    have h012 : k = 0 ∨ k = 1 ∨ k = 2 := by omega
    rcases h012 with rfl | rfl | rfl
    · refine ⟨?_, fun a ha => ?_⟩
      · rw [refW, if_neg (by omega), if_neg (by omega), wd_0, show decide ((0 : Nat) = 1) = false from rfl, (ih _ _).1]; rfl
      · rw [refW, if_neg (by omega), if_neg (by omega), wd_0, show decide ((0 : Nat) = 1) = false from rfl, (ih _ _).1]
        simp [close]
    · refine ⟨?_, fun a ha => ?_⟩
      · rw [refW, if_neg (by simp), if_pos (by omega), wd_1n, show decide ((1 : Nat) = 1) = true from rfl, (ih _ _).2 p (by omega)]
      · rw [refW, wd_1s, show decide ((1 : Nat) = 1) = true from rfl, List.getLastD_concat, List.dropLast_concat]
        by_cases h40 : 40 < p + n - a
        · rw [if_neg (by simp; omega), if_pos (by omega), if_pos h40, (ih _ _).2 p (by omega)]
          simp
        · rw [if_pos ⟨rfl, rfl, by simp; omega⟩, if_neg h40, (ih _ _).2 a (by omega)]
    · refine ⟨?_, fun a ha => ?_⟩
      · rw [refW, if_neg (by omega), if_pos (by omega), wd_2, show decide ((2 : Nat) = 1) = false from rfl, (ih _ _).1]
        simp [close]
      · rw [refW, if_neg (by omega), if_pos (by omega), wd_2, show decide ((2 : Nat) = 1) = false from rfl, (ih _ _).1]
        simp [close]
end Go.Cs

-- alias Tryz
namespace Go.Proofs.YtdghfagipheabaaGreatDoor
open Go.RowKit Go.Pw Go.Vc Go.Cs Go.Lib
set_option linter.unusedVariables false
set_option maxRecDepth 100000
theorem _root_.Go.Pw.Keeps.ofGrown {w w' : World} {row : Option Nat} (h : w.grownBy w' row) : Keeps w w' (fun k => row = some k) :=
  ⟨h.os, h.tape, h.output, h.size, fun k hk hn => h.block k hk fun e => hn e.symm⟩
abbrev Wd := List UInt8 × Nat × Nat
def wordCells (x : Wd) : List Value := [.string (str x.1), .int .i64 (x.2.1 : Nat), .int .i64 (x.2.2 : Nat)]
section
variable {w0 w : World} {bs bo bf : Nat} {s : ByteArray} {v : Value} {l : List Wd} {fr : Int}
/-- The iterators are as they were. -/
def IterKept (w w' : World) : Prop := ∀ (bi : Nat) (t : ByteArray) (p : Nat), w.heap[bi]? = some (.stringIter t p) → w'.heap[bi]? = some (.stringIter t p)
theorem IterKept.trans {a b c : World} (h : IterKept a b) (k : IterKept b c) : IterKept a c := fun bi t p hi => k bi t p (h bi t p hi)
theorem IterKept.set {w : World} {b : Nat} {T : TypeId} {v : Value} (h : Var1 w b T v) (u : Value) : IterKept w (w.setCell ⟨b, 0, none⟩ u) := fun bi t p hi => by
  rw [RowKit.Below.heap_setCell _ _ _ _ (fun e => by have e : bi = b := e; subst e; unfold Var1 at h; rw [hi] at h; cases h)]
  exact hi
theorem IterKept.keep {w w' : World} (k : Keeps w w' none_) : IterKept w w' := fun bi t p hi => (k.block bi (lt_of_obj hi) id).trans hi
end
end Go.Proofs.YtdghfagipheabaaGreatDoor

-- alias Tryz
namespace Go.Proofs.YtdghfagipheabaaGreatDoor
open Go.RowKit Go.Pw Go.Vc Go.Cs Go.Lib
set_option linter.unusedVariables false
set_option maxRecDepth 100000
section
variable {w : World}
theorem map_close (L0 : List UInt8) (ps : List (Nat × Nat)) (f : Option Nat) (m : Nat) :
    (if frI f < 0 then ps.map (mk L0) else ps.map (mk L0) ++ [(foldL (cutL L0 ((frI f).toNat, m)), (frI f).toNat, m)]) = (ps ++ close f m).map (mk L0) := by
  cases f with
  | none => rw [if_pos (by simp [frI])]; simp [close]
  | some a => rw [if_neg (by simp [frI])]; simp [close, frI, mk]
end
end Go.Proofs.YtdghfagipheabaaGreatDoor

-- alias Tryz
namespace Go.Proofs.YtdghfagipheabaaGreatDoor
open Go.RowKit Go.Pw Go.Vc Go.Cs Go.Lib
set_option linter.unusedVariables false
set_option maxRecDepth 100000
/-- A row that can be read. -/
def Rd (w : World) (v : Value) (n : Nat) (xs : List Value) : Prop := ∃ a cap, v = .slice a n cap ∧ (0 < n → ∃ g, a = some ⟨g, 0, none⟩ ∧ g < w.heap.size ∧ At w g 0 xs)
theorem own_rd {w : World} {B s n : Nat} {e : TypeId} {v : Value} {xs : List Value} (h : w.ownsRow B e s v n xs) : Rd w v n xs := by
  obtain ⟨a, cap, rfl⟩ := own_shape h
  exact ⟨a, cap, rfl, fun h0 => let ⟨g, h1, _, h3, h4⟩ := own_at h h0; ⟨g, h1, h3, h4⟩⟩
theorem Rd.keep {w w' : World} {v : Value} {n : Nat} {xs : List Value} (h : Rd w v n xs) (k : Keeps w w' none_) : Rd w' v n xs := by
  obtain ⟨a, cap, rfl, h⟩ := h
  exact ⟨a, cap, rfl, fun h0 => let ⟨g, h1, h3, h4⟩ := h h0; ⟨g, h1, Nat.lt_of_lt_of_le h3 k.size, at_keep h4 k⟩⟩
theorem flat_get {α : Type} (f : α → List Value) (n : Nat) (hf : ∀ x, (f x).length = n) : ∀ (l : List α) (i j : Nat) (x : α), l[i]? = some x → j < n → (l.flatMap f)[i * n + j]? = (f x)[j]?
  | [], i, j, x, h, _ => by simp at h
  | y :: r, 0, j, x, h, hj => by
    simp at h; subst h
    rw [List.flatMap_cons, List.getElem?_append_left (by rw [hf]; omega)]; simp
  | y :: r, i + 1, j, x, h, hj => by
    rw [List.flatMap_cons, List.getElem?_append_right (by rw [hf, Nat.add_mul]; omega), hf, show (i + 1) * n + j - n = i * n + j by rw [Nat.add_mul]; omega]
    exact flat_get f n hf r i j x (by simpa using h) hj
theorem at_word {w : World} {g : Nat} {l : List Wd} (h : At w g 0 (l.flatMap wordCells)) {i : Nat} (hi : i < l.length) : At w g (0 + i * 3) (wordCells l[i]) := fun j v hj => by
  have h3 : j < 3 := (List.getElem?_eq_some_iff.1 hj).1
  rw [Nat.add_assoc]
  exact h (i * 3 + j) v ((flat_get wordCells 3 (fun _ => rfl) l i j _ (List.getElem?_eq_getElem hi) h3).trans hj)
theorem take_eq_step {α : Type} [DecidableEq α] {a b : List α} {i : Nat} (ha : i < a.length) (hb : i < b.length) (h : a.take i = b.take i) (e : a[i] = b[i]) : a.take (i + 1) = b.take (i + 1) := by
  rw [List.take_succ_eq_append_getElem ha, List.take_succ_eq_append_getElem hb, h, e]
end Go.Proofs.YtdghfagipheabaaGreatDoor

-- alias Tryz
namespace Go.Proofs.YtdghfagipheabaaGreatDoor
open Go.RowKit Go.Pw Go.Vc Go.Cs Go.Lib
set_option linter.unusedVariables false
set_option maxRecDepth 100000
def sv (s : List UInt8) : Value := .string (str s)
/-- A row of texts, the call's own. -/
def Txs (w : World) (B : Nat) (v : Value) (l : List (List UInt8)) : Prop := w.ownsRow B 9 1 v l.length (l.map sv)
theorem stringInfo : (Tryz.prog.info? 9).map (fun i => (i.zero, i.size, i.bytes)) = some (some (.string ⟨#[]⟩), 1, 16) := by kernel_rfl
theorem build_text (s : ByteArray) (w : World) : (Instr.buildSlice 44 1 [(0, .string s)].toArray).run Tryz.prog w = .ok (.slice (some ⟨w.heap.size, 0, none⟩) 1 1) (w.alloc (.cells #[.string s] 9)) := by
  simp [Instr.buildSlice, go_sem, Tryz.runUnderlying44]
theorem app_text {w : World} {K : Value → World → Prop} {B : Nat} {v : Value} {l : List (List UInt8)} {cs : Array Bool} (h : Txs w B v l) (hB : B ≤ w.heap.size) (x : List UInt8) (hl : l.length ≤ 1000000000)
    (k : ∀ v' w', Txs w' B v' (l ++ [x]) → (w.alloc (.cells #[sv x] 9)).grownBy w' v.ownBlock → K v' w') :
    RunN Tryz.prog (builtin .append #[44, 44] 44 cs [v, .slice (some ⟨w.heap.size, 0, none⟩) 1 1].toArray) (w.alloc (.cells #[sv x] 9)) K := by
  refine RunN.app Tryz.underlying44 stringInfo rfl (by decide) (own_keep0 h ((Keeps.refl _ _).alloc _)) (Nat.le_trans hB ((Keeps.refl w none_).alloc _).size) ⟨w.heap.size, 0, none⟩ 1 1 [sv x] rfl (new_cells _ _ _) (by simp [sv, Value.oneCell']) (by omega) (by omega) fun v' w' h2 h3 => k v' w' ?_ h3
  unfold Txs
  rw [List.length_append, List.map_append]
  simpa using h2
theorem at_text {w : World} {g : Nat} {l : List (List UInt8)} (h : At w g 0 (l.map sv)) {i : Nat} (hi : i < l.length) : w.cell? ⟨g, 0 + i, none⟩ = some (.string (str l[i])) := h i _ (by rw [List.getElem?_map, List.getElem?_eq_getElem hi]; rfl)
theorem str_eq (a b : List UInt8) : (str a = str b) ↔ a = b := ⟨fun e => by have := congrArg L e; rwa [L_str, L_str] at this, fun e => by rw [e]⟩
theorem wd_len : ∀ (u : List (Nat × Nat)) (p : Nat) (f : Option Nat), (wd u p f).length ≤ 2 * u.length + 1
  | [], p, f => by cases f <;> simp [wd, close]
  | (k, n) :: r, p, f => by
    have h1 := fun q g => wd_len r q g
    have hc : (close f p).length ≤ 1 := by cases f <;> simp [close]
    simp only [wd]
    split
    · have := h1 (p + n) none; simp; omega
    · split
      · have := h1 (p + n) none; simp; omega
      · split
        · split
          · rename_i a _; have := h1 (p + n) (some p); simp; omega
          · rename_i a _; have := h1 (p + n) (some a); simp; omega
        · have := h1 (p + n) (some p); simp; omega
theorem us_len : ∀ (n : Nat) (l : List UInt8), l.length ≤ n → (us l).length ≤ l.length
  | 0, l, h => by
    have : l = [] := List.eq_nil_of_length_eq_zero (by omega)
    subst this; simp [us_nil]
  | n + 1, [], _ => by simp [us_nil]
  | n + 1, b :: t, h => by
    rw [us_step (b :: t) (by simp)]
    have hw := decodeL_width (b :: t)
    have h1 := us_len n ((b :: t).drop (decodeL (b :: t)).2) (by rw [List.length_drop]; omega)
    rw [List.length_drop] at h1
    simp only [List.length_cons] at *
    omega
theorem wordsL_len (l : List UInt8) : (wordsL l).length ≤ 2 * l.length + 1 := by
  unfold wordsL
  rw [List.length_map]
  have := wd_len (us l) 0 none
  have := us_len _ l (Nat.le_refl _)
  omega
end Go.Proofs.YtdghfagipheabaaGreatDoor
