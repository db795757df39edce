/- Helper text of this claim: Ct6: lemmas and contracts that the proved statement rests on; no conditions of its own. -/
import Derived.Test.YtmipmlcolaaonaaDoorCt5
namespace Go.Cs
open Go.Lib
set_option linter.unusedVariables false
/-! ### Segments -/
/-- The width of steps. -/
def W (u : List (Nat × Nat)) : Nat := (u.map (·.2)).sum
theorem W_nil : W [] = 0 := rfl
theorem W_cons (q : Nat × Nat) (u : List (Nat × Nat)) : W (q :: u) = q.2 + W u := by simp [W]
theorem W_app (u v : List (Nat × Nat)) : W (u ++ v) = W u + W v := by simp [W]
def Ones (u : List (Nat × Nat)) : Prop := u ≠ [] ∧ (∀ q ∈ u, q.1 = 1) ∧ W u ≤ 40
def Seg (u : List (Nat × Nat)) : Prop := Ones u ∨ ∃ n, u = [(2, n)]
/-- Rest that ends an open word. -/
def Stops (r : List (Nat × Nat)) : Prop := r = [] ∨ ∃ n t, r = (0, n) :: t
theorem wd_ones (r : List (Nat × Nat)) (hr : Stops r) : ∀ (u : List (Nat × Nat)) (q a : Nat), (∀ x ∈ u, x.1 = 1) → q + W u ≤ a + 40 → wd (u ++ r) q (some a) = (a, q + W u) :: wd r (q + W u) none
  | [], q, a, _, _ => by
    rcases hr with rfl | ⟨n, t, rfl⟩
    · simp [wd, close, W_nil]
    · simp only [List.nil_append, W_nil, Nat.add_zero]
      rw [wd_0, wd_0]; simp [close]
  | (k, n) :: u, q, a, h1, h2 => by
    have hk : k = 1 := h1 (k, n) (by simp)
    subst hk
    rw [W_cons] at h2
    rw [List.cons_append, wd_1s, if_neg (by dsimp only at h2; omega), wd_ones r hr u (q + n) a (fun x hx => h1 x (by simp [hx])) (by dsimp only at h2; omega), W_cons, Nat.add_assoc]
theorem wd_seg_app (u r : List (Nat × Nat)) (hu : Seg u) (hr : Stops r) (q : Nat) : wd (u ++ r) q none = (q, q + W u) :: wd r (q + W u) none := by
  rcases hu with ⟨hne, h1, h2⟩ | ⟨n, rfl⟩
  · match u, hne with
    | (k, n) :: u, _ =>
      have hk : k = 1 := h1 (k, n) (by simp)
      subst hk
      rw [W_cons] at h2
      rw [List.cons_append, wd_1n, wd_ones r hr u (q + n) q (fun x hx => h1 x (by simp [hx])) (by dsimp only at h2; omega), W_cons, Nat.add_assoc]
  · rw [List.cons_append, List.nil_append, wd_2]; simp [close, W_cons, W_nil]
theorem wd_seg (u0 : List (Nat × Nat)) : ∀ (r pre mid : List (Nat × Nat)) (f : Option Nat), u0 = pre ++ mid ++ r → (∀ q ∈ r, q.1 ≤ 2 ∧ q.2 ≤ 4) → ((f = none ∧ mid = []) ∨ (f = some (W pre) ∧ Ones mid)) →
    ∀ p ∈ wd r (W pre + W mid) f, ∃ a b c, u0 = a ++ b ++ c ∧ p = (W a, W a + W b) ∧ Seg b
  | [], pre, mid, f, he, _, hf, p, hp => by
    rcases hf with ⟨rfl, rfl⟩ | ⟨rfl, ho⟩
    · simp [wd, close] at hp
    · simp only [wd, close, List.mem_singleton] at hp
      exact ⟨pre, mid, [], he, hp, .inl ho⟩
  | (k, n) :: r, pre, mid, f, he, hk, hf, p, hp => by
    have hk0 := hk (k, n) (by simp)
    have hkr : ∀ q ∈ r, q.1 ≤ 2 ∧ q.2 ≤ 4 := fun q hq => hk q (by simp [hq])
    have hcl : p ∈ close f (W pre + W mid) → ∃ a b c, u0 = a ++ b ++ c ∧ p = (W a, W a + W b) ∧ Seg b := by
      intro hp
      rcases hf with ⟨rfl, rfl⟩ | ⟨rfl, ho⟩
      · simp [close] at hp
      · simp only [close, List.mem_singleton] at hp
        exact ⟨pre, mid, (k, n) :: r, he, hp, .inl ho⟩
    have e1 : W (pre ++ mid ++ [(k, n)]) + W [] = W pre + W mid + n := by simp only [W_app, W_cons, W_nil]; omega
    have g1 := wd_seg u0 r (pre ++ mid ++ [(k, n)]) [] none (by rw [he]; simp) hkr (.inl ⟨rfl, rfl⟩) p
    rw [e1] at g1
    simp only [wd] at hp
    split at hp
    · rcases List.mem_append.1 hp with h | h
      · exact hcl h
      · exact g1 h
    · split at hp
      · rename_i hk2
        rcases List.mem_append.1 hp with h | h
        · exact hcl h
        · rcases List.mem_cons.1 h with h | h
          · exact ⟨pre ++ mid, [(k, n)], r, by rw [he]; simp, by rw [h]; simp only [W_app, W_cons, W_nil, Nat.add_zero], .inr ⟨n, by rw [hk2]⟩⟩
          · exact g1 h
      · rename_i h0 h2
        have hk1 : k = 1 := by dsimp only at hk0; omega
        subst hk1
        have hone : Ones [(1, n)] := ⟨by simp, by simp, by simp only [W_cons, W_nil]; dsimp only at hk0 ⊢; omega⟩
        have e2 : W (pre ++ mid) + W [(1, n)] = W pre + W mid + n := by simp only [W_app, W_cons, W_nil]; omega
        have g2 := wd_seg u0 r (pre ++ mid) [(1, n)] (some (W (pre ++ mid))) (by rw [he]; simp) hkr (.inr ⟨rfl, hone⟩) p
        rw [e2, W_app] at g2
        rcases hf with ⟨rfl, rfl⟩ | ⟨rfl, ho⟩
        · exact g2 hp
        · simp only at hp
          split at hp
          · rcases List.mem_cons.1 hp with h | h
            · exact ⟨pre, mid, (1, n) :: r, he, h, .inl ho⟩
            · exact g2 h
          · rename_i h40
            have ho3 : Ones (mid ++ [(1, n)]) := ⟨by simp, fun q hq => by
              rcases List.mem_append.1 hq with h | h
              · exact ho.2.1 q h
              · simp at h; rw [h], by simp only [W_app, W_cons, W_nil]; omega⟩
            have g3 := wd_seg u0 r pre (mid ++ [(1, n)]) (some (W pre)) (by rw [he]; simp) hkr (.inr ⟨rfl, ho3⟩) p
            rw [show W pre + W (mid ++ [(1, n)]) = W pre + W mid + n by simp only [W_app, W_cons, W_nil]; omega] at g3
            exact g3 hp
theorem us_class (l : List UInt8) : ∀ q ∈ us l, q.1 ≤ 2 ∧ q.2 ≤ 4 := by
  induction l using dec_ind with
  | nil => simp [us_nil]
  | step l hne ih =>
    rw [us_step l hne]
    intro q hq
    rcases List.mem_cons.1 hq with rfl | h
    · have hw : (decodeL l).2 ≤ 4 := by
        rcases bad_or l hne with h | ⟨c, _, h, _⟩
        · rw [h]; decide
        · rw [h]; exact (enc_len c).2
      refine ⟨?_, hw⟩
      rw [clsN_eq]; exact kind_le2 _
    · exact ih q h
theorem us_W (l : List UInt8) : W (us l) = l.length := by
  induction l using dec_ind with
  | nil => rfl
  | step l hne ih =>
    have := decodeL_le l hne
    rw [us_step l hne, W_cons, ih, List.length_drop]
    omega
theorem us_drop : ∀ (a b : List (Nat × Nat)) (l : List UInt8), us l = a ++ b → us (l.drop (W a)) = b
  | [], b, l, h => by simpa [W_nil] using h
  | q :: a, b, l, h => by
    by_cases hne : l = []
    · subst hne; rw [us_nil] at h; simp at h
    · rw [us_step l hne, List.cons_append] at h
      injection h with h1 h2
      have := us_drop a b _ h2
      rw [List.drop_drop] at this
      rw [W_cons, ← h1]
      exact this
theorem us_take' : ∀ (a b : List (Nat × Nat)) (l : List UInt8), us l = a ++ b → us (l.take (W a)) = a
  | [], b, l, h => by simp [W_nil, us_nil]
  | q :: a, b, l, h => by
    by_cases hne : l = []
    · subst hne; rw [us_nil] at h; simp at h
    · rw [us_step l hne, List.cons_append] at h
      injection h with h1 h2
      have h3 := us_take' a b _ h2
      have hw := decodeL_width l
      have hl : 0 < l.length := List.length_pos_iff.2 hne
      have hq : q.2 = (decodeL l).2 := by rw [← h1]
      have hd := dec_take l (q.2 + W a) hne (by omega)
      have hne' : l.take (q.2 + W a) ≠ [] := by
        intro e
        have := congrArg List.length e
        rw [List.length_take, List.length_nil] at this
        omega
      rw [W_cons, us_step _ hne', hd, h1, List.drop_take, hq, Nat.add_sub_cancel_left, h3]
theorem us_cut {a b c : List (Nat × Nat)} {l : List UInt8} (h : us l = a ++ b ++ c) : us (cutL l (W a, W a + W b)) = b := by
  unfold cutL
  dsimp only
  have h1 := us_take' (a ++ b) c l h
  rw [W_app] at h1
  exact us_drop a b _ h1
/-- Each place is a segment. -/
theorem place_seg (l : List UInt8) (p : Nat × Nat) (hp : p ∈ wd (us l) 0 none) : Seg (us (cutL l p)) := by
  obtain ⟨a, b, c, h1, h2, h3⟩ := wd_seg (us l) (us l) [] [] none rfl (us_class l) (.inl ⟨rfl, rfl⟩) p hp
  rw [h2, us_cut h1]
  exact h3
/-- A word's text. -/
def IsWord (x : List UInt8) : Prop := Seg (us x) ∧ foldL x = x
theorem word_good (l : List UInt8) (x : List UInt8 × Nat × Nat) (hx : x ∈ wordsL l) : IsWord x.1 := by
  unfold wordsL at hx
  obtain ⟨p, hp, rfl⟩ := List.mem_map.1 hx
  exact ⟨by rw [us_fold]; exact place_seg l p hp, fold_fold _⟩
theorem good_ne {x : List UInt8} (h : IsWord x) : x ≠ [] := by
  rintro rfl
  rcases h.1 with ⟨h, _⟩ | ⟨n, h⟩
  · exact h us_nil
  · rw [us_nil] at h; cases h
theorem good_len {x : List UInt8} (h : IsWord x) : x.length ≤ 40 := by
  rw [← us_W]
  rcases h.1 with ⟨_, _, h⟩ | ⟨n, h⟩
  · exact h
  · have := us_class x (2, n) (by rw [h]; simp)
    rw [h, W_cons, W_nil]; dsimp only at this ⊢; omega
/-- A word's own words. -/
theorem good_words {x : List UInt8} (h : IsWord x) : wordsL x = [(x, 0, x.length)] := by
  have := wd_seg_app (us x) [] h.1 (.inl rfl) 0
  rw [List.append_nil, us_W, Nat.zero_add] at this
  unfold wordsL
  rw [this]
  simp [wd, close, cutL, h.2]
/-! ### Joined words -/
def joinL (xs : List (List UInt8)) : List UInt8 := xs.flatMap fun x => 32 :: x
theorem us_app (x y : List UInt8) (hy : ∀ b, y[0]? = some b → ¬ cont b) : us (x ++ y) = us x ++ us y := by
  induction x using dec_ind with
  | nil => rfl
  | step x hne ih =>
    have hd := decodeL_le x hne
    rw [us_step _ (by simp [hne]), dec_app x y hne hy, us_step x hne, List.cons_append, List.drop_append_of_le_length hd, ih]
theorem us_space (y : List UInt8) : us (32 :: y) = (0, 1) :: us y := by
  have h : decodeL (32 :: y) = (32, 1) := dec_enc 32 (by decide) y
  rw [us_step _ (by simp), h]
  rfl
theorem join_head (xs : List (List UInt8)) : ∀ b, (joinL xs)[0]? = some b → ¬ cont b := by
  intro b hb
  cases xs with
  | nil => simp [joinL] at hb
  | cons x r => simp [joinL] at hb; subst hb; unfold cont; decide
theorem us_join (x : List UInt8) (xs : List (List UInt8)) : us (joinL (x :: xs)) = (0, 1) :: (us x ++ us (joinL xs)) := by
  show us (32 :: (x ++ joinL xs)) = _
  rw [us_space, us_app x _ (join_head xs)]
theorem join_stops (xs : List (List UInt8)) : Stops (us (joinL xs)) := by
  cases xs with
  | nil => exact .inl rfl
  | cons x r => exact .inr ⟨1, _, us_join x r⟩
theorem join_words : ∀ (xs : List (List UInt8)) (pre : List UInt8), (∀ x ∈ xs, IsWord x) → (wd (us (joinL xs)) pre.length none).map (fun p => foldL (cutL (pre ++ joinL xs) p)) = xs
  | [], pre, _ => by simp [joinL, us_nil, wd, close]
  | x :: xs, pre, h => by
    have hx := h x (by simp)
    have ih := join_words xs (pre ++ (32 :: x)) fun y hy => h y (by simp [hy])
    rw [us_join, wd_0, wd_seg_app _ _ hx.1 (join_stops xs), us_W]
    have e : pre ++ joinL (x :: xs) = pre ++ (32 :: x) ++ joinL xs := by simp [joinL]
    have el : (pre ++ (32 :: x)).length = pre.length + 1 + x.length := by simp; omega
    rw [el] at ih
    simp only [close, List.nil_append, List.map_cons]
    rw [e, ih]
    congr 1
    have hc : cutL (pre ++ (32 :: x) ++ joinL xs) (pre.length + 1, pre.length + 1 + x.length) = x := by
      unfold cutL
      dsimp only
      rw [← el, List.take_left', show pre ++ 32 :: x = (pre ++ [32]) ++ x by simp, List.drop_left']
      · simp
      · simp
    rw [hc, hx.2]
theorem list_join (xs : List (List UInt8)) (h : ∀ x ∈ xs, IsWord x) : (wordsL (joinL xs)).map (·.1) = xs := by
  have := join_words xs [] h
  unfold wordsL
  rw [List.map_map]
  exact this
end Go.Cs
