/- Helper text of this claim: Ct1: lemmas and contracts that the proved statement rests on; no conditions of its own. -/
import Derived.Test.YtmipmlcolaaonaaDoorCt0
namespace Go.Cs
open Go.Lib
set_option linter.unusedVariables false
/-! ### Folding keeps the steps -/
def cont (b : UInt8) : Prop := b.toNat / 64 = 2
theorem enc_shape (c : Nat) (h : scal c) : ∃ b t, enc c = b :: t ∧ ¬ cont b ∧ ∀ x ∈ t, cont x := by
  unfold scal at h
  unfold enc encodeRune cont
  by_cases h1 : c < 128
  · rw [encodeRuneZ_one (by omega) (by omega)]
    exact ⟨_, _, rfl, by rw [u8n _ (by omega)]; omega, by simp⟩
  by_cases h2 : c ≤ 2047
  · rw [encodeRuneZ_two (by omega) (by omega)]
    refine ⟨_, _, rfl, by rw [u8n _ (by omega)]; omega, fun x hx => ?_⟩
    simp only [List.map_cons, List.map_nil, List.mem_cons, List.not_mem_nil, or_false] at hx
    subst hx; rw [u8n _ (by omega)]; omega
  by_cases h3 : c ≤ 65535
  · rw [encodeRuneZ_three (by omega)]
    refine ⟨_, _, rfl, by rw [u8n _ (by omega)]; omega, fun x hx => ?_⟩
    simp only [List.map_cons, List.map_nil, List.mem_cons, List.not_mem_nil, or_false] at hx
    rcases hx with rfl | rfl <;> (rw [u8n _ (by omega)]; omega)
  · rw [encodeRuneZ_four (by omega) (by omega)]
    refine ⟨_, _, rfl, by rw [u8n _ (by omega)]; omega, fun x hx => ?_⟩
    simp only [List.map_cons, List.map_nil, List.mem_cons, List.not_mem_nil, or_false] at hx
    rcases hx with rfl | rfl | rfl <;> (rw [u8n _ (by omega)]; omega)
/-- A whole step is told by its bytes alone. -/
theorem whole_of (l : List UInt8) (c : Nat) (h : scal c) (e : l.take (enc c).length = enc c) : decodeL l = (c, (enc c).length) := by
  have h2 := List.take_append_drop (enc c).length l
  rw [e] at h2
  have := dec_enc c h (l.drop (enc c).length)
  rw [h2] at this
  exact this
theorem bad_or (l : List UInt8) (hne : l ≠ []) : decodeL l = (65533, 1) ∨ ∃ c, scal c ∧ decodeL l = (c, (enc c).length) ∧ l.take (enc c).length = enc c := by
  rcases dec_whole l hne with h | ⟨h1, h2, h3, _⟩
  · exact .inl h
  · exact .inr ⟨_, h1, Prod.ext rfl h3, by rw [← h3]; exact h2⟩
theorem bad_ne (c : Nat) : (65533, 1) ≠ (c, (enc c).length) := by
  intro h
  injection h with h1 h2
  rw [← h1] at h2
  have := enc_bad_len
  omega
/-- A cut behind a step does not turn it. -/
theorem dec_take (l : List UInt8) (n : Nat) (hne : l ≠ []) (hn : (decodeL l).2 ≤ n) : decodeL (l.take n) = decodeL l := by
  have hw := decodeL_width l
  have hl : 0 < l.length := List.length_pos_iff.2 hne
  have hne' : l.take n ≠ [] := by
    intro h
    have := congrArg List.length h
    rw [List.length_take, List.length_nil] at this
    omega
  rcases bad_or l hne with h | ⟨c, hs, hd, ht⟩
  · rcases bad_or (l.take n) hne' with h' | ⟨c, hs, hd, ht⟩
    · rw [h, h']
    · exfalso
      have hle := decodeL_le _ hne'
      rw [hd, List.length_take] at hle
      simp only at hle
      rw [List.take_take, Nat.min_eq_left (by omega)] at ht
      have := whole_of l c hs ht
      rw [h] at this
      exact bad_ne c this
  · rw [hd] at hn ⊢
    simp only at hn
    exact whole_of _ c hs (by rw [List.take_take, Nat.min_eq_left hn]; exact ht)
/-- What follows does not turn a step, if it begins with no byte of a continuation. -/
theorem dec_app (x y : List UInt8) (hne : x ≠ []) (hy : ∀ b, y[0]? = some b → ¬ cont b) : decodeL (x ++ y) = decodeL x := by
  have hl : 0 < x.length := List.length_pos_iff.2 hne
  rcases bad_or x hne with h | ⟨c, hs, hd, ht⟩
  · rcases bad_or (x ++ y) (by simp [hne]) with h' | ⟨c, hs, hd, ht⟩
    · rw [h, h']
    · exfalso
      by_cases hk : (enc c).length ≤ x.length
      · rw [List.take_append_of_le_length hk] at ht
        have := whole_of x c hs ht
        rw [h] at this
        exact bad_ne c this
      · obtain ⟨b, t, e1, e2, e3⟩ := enc_shape c hs
        have hle := decodeL_le (x ++ y) (by simp [hne])
        rw [hd, List.length_append] at hle
        simp only at hle
        obtain ⟨z, r, rfl⟩ := List.exists_cons_of_ne_nil (l := y) (by rintro rfl; simp at hle; omega)
        have hx : (enc c)[x.length]? = some z := by
          rw [← ht, List.getElem?_take, if_pos (by omega), List.getElem?_append_right (Nat.le_refl _), Nat.sub_self]; rfl
        rw [e1] at hx
        obtain ⟨m, hm⟩ : ∃ m, x.length = m + 1 := ⟨x.length - 1, by omega⟩
        rw [hm, List.getElem?_cons_succ] at hx
        exact hy z rfl (e3 z (List.mem_of_getElem? hx))
  · rw [hd]
    have hle := decodeL_le x hne
    rw [hd] at hle
    simp only at hle
    exact whole_of _ c hs (by rw [List.take_append_of_le_length hle]; exact ht)
theorem cont_bad (b : UInt8) (t : List UInt8) (h : cont b) : decodeL (b :: t) = (65533, 1) := by
  rw [decodeL_N]
  unfold cont at h
  exact decodeN_bad _ _ _ _ _ (.inl (by simp only [List.getD_cons_zero]; omega))
/-- Both begin with the same continuation bytes and no more. -/
def Alike (t t' : List UInt8) : Prop := ∃ p q q', t = p ++ q ∧ t' = p ++ q' ∧ (∀ b ∈ p, cont b) ∧ (∀ b, q[0]? = some b → ¬ cont b) ∧ ∀ b, q'[0]? = some b → ¬ cont b
theorem bad_alike (b : UInt8) {t t' : List UInt8} (h : Alike t t') (hb : decodeL (b :: t) = (65533, 1)) : decodeL (b :: t') = (65533, 1) := by
  obtain ⟨p, q, q', rfl, rfl, hp, hq, hq'⟩ := h
  rcases bad_or (b :: (p ++ q')) (by simp) with h' | ⟨c, hs, hd, ht⟩
  · exact h'
  · exfalso
    have e1 : decodeL (b :: (p ++ q)) = decodeL (b :: p) := dec_app (b :: p) q (by simp) hq
    have e2 : decodeL (b :: (p ++ q')) = decodeL (b :: p) := dec_app (b :: p) q' (by simp) hq'
    rw [e1] at hb
    rw [e2, hb] at hd
    exact bad_ne c hd
theorem head1_shape (l : List UInt8) (hne : l ≠ []) : (decodeL l = (65533, 1) ∧ ∃ b t, l = b :: t ∧ head1 l = [b]) ∨ ∃ c, scal c ∧ decodeL l = (c, (enc c).length) ∧ head1 l = enc (lowC c) ∧ ∃ b t, l = b :: t ∧ ¬ cont b := by
  obtain ⟨b, t, rfl⟩ := List.exists_cons_of_ne_nil hne
  rcases bad_or (b :: t) hne with h | ⟨c, hs, hd, ht⟩
  · exact .inl ⟨h, b, t, rfl, by unfold head1; rw [h]; rfl⟩
  · refine .inr ⟨c, hs, hd, ?_, b, t, rfl, ?_⟩
    · unfold head1
      rw [hd, if_neg]
      rintro ⟨h1, h2⟩
      simp only at h1 h2
      subst h1
      rw [enc_bad_len] at h2; omega
    · obtain ⟨x, y, e1, e2, _⟩ := enc_shape c hs
      rw [e1] at ht
      simp only [List.length_cons, List.take_succ_cons, List.cons.injEq] at ht
      rw [ht.1]; exact e2
theorem head1_len (l : List UInt8) (hne : l ≠ []) : (head1 l).length = (decodeL l).2 := by
  rcases head1_shape l hne with ⟨h, b, t, _, e⟩ | ⟨c, hs, hd, e, _⟩
  · rw [h, e]; rfl
  · rw [hd, e, low_len]
theorem fold_alike (t : List UInt8) : Alike t (foldL t) := by
  induction t using dec_ind with
  | nil => exact ⟨[], [], [], rfl, rfl, by simp, by simp, by simp⟩
  | step l hne ih =>
    rw [foldL_step l hne]
    rcases head1_shape l hne with ⟨h, b, t, rfl, e⟩ | ⟨c, hs, hd, e, b, t, rfl, hb⟩
    · rw [h] at ih ⊢
      simp only [List.drop_succ_cons, List.drop_zero] at ih ⊢
      rw [e]
      by_cases hc : cont b
      · obtain ⟨p, q, q', e1, e2, hp, hq, hq'⟩ := ih
        exact ⟨b :: p, q, q', by rw [e1]; rfl, by rw [e2]; rfl, fun x hx => by rcases List.mem_cons.1 hx with rfl | hx; exact hc; exact hp x hx, hq, hq'⟩
      · exact ⟨[], b :: t, b :: foldL t, rfl, rfl, by simp, fun x hx => by cases hx; exact hc, fun x hx => by cases hx; exact hc⟩
    · rw [e]
      obtain ⟨x, y, e1, e2, _⟩ := enc_shape (lowC c) (low_scal c hs)
      exact ⟨[], _, _, rfl, rfl, by simp, fun z hz => by cases hz; exact hb, fun z hz => by rw [e1] at hz; cases hz; exact e2⟩
theorem dec_fold (l : List UInt8) (hne : l ≠ []) : decodeL (foldL l) = (lowC (decodeL l).1, (decodeL l).2) := by
  rw [foldL_step l hne]
  rcases head1_shape l hne with ⟨h, b, t, rfl, e⟩ | ⟨c, hs, hd, e, _⟩
  · rw [e, h]
    simp only [List.drop_succ_cons, List.drop_zero, low_bad]
    exact bad_alike b (fold_alike t) h
  · rw [e, hd, dec_enc _ (low_scal c hs), low_len]
theorem fold_ne (l : List UInt8) (hne : l ≠ []) : foldL l ≠ [] := by
  rw [foldL_step l hne]
  have := head1_len l hne
  have hw := decodeL_width l
  intro h
  have h := congrArg List.length h
  rw [List.length_append, List.length_nil] at h
  omega
theorem fold_drop (l : List UInt8) (hne : l ≠ []) : (foldL l).drop (decodeL l).2 = foldL (l.drop (decodeL l).2) := by
  rw [foldL_step l hne, ← head1_len l hne, List.drop_left']
  rfl
theorem fold_len (l : List UInt8) : (foldL l).length = l.length := by
  induction l using dec_ind with
  | nil => rfl
  | step l hne ih =>
    have hle := decodeL_le l hne
    rw [foldL_step l hne, List.length_append, head1_len l hne, ih, List.length_drop]; omega
theorem clsN_low (p : Nat × Nat) (k : Nat) : clsN (lowC p.1, k) = clsN p := by rw [clsN_eq, clsN_eq, low_kind]
theorem us_fold (l : List UInt8) : us (foldL l) = us l := by
  induction l using dec_ind with
  | nil => rfl
  | step l hne ih =>
    rw [us_step _ (fold_ne l hne), dec_fold l hne, us_step l hne]
    simp only
    rw [fold_drop l hne, ih, clsN_low]
theorem fold_fold (l : List UInt8) : foldL (foldL l) = foldL l := by
  induction l using dec_ind with
  | nil => rfl
  | step l hne ih =>
    rw [foldL_step _ (fold_ne l hne), dec_fold l hne]
    simp only
    rw [fold_drop l hne, ih]
    conv => rhs; rw [foldL_step l hne]
    congr 1
    unfold head1
    rw [dec_fold l hne]
    simp only
    have hd0 : (foldL l).getD 0 0 = (head1 l).getD 0 0 := by
      have h1 := head1_len l hne
      have hw := decodeL_width l
      rw [foldL_step l hne]
      obtain ⟨x, y, e⟩ := List.exists_cons_of_ne_nil (l := head1 l) (by intro h; rw [h] at h1; simp at h1; omega)
      rw [e]; rfl
    by_cases hb : (decodeL l).1 = 65533 ∧ (decodeL l).2 = 1
    · rw [if_pos hb, if_pos ⟨by rw [hb.1]; exact low_bad, hb.2⟩, hd0]
      unfold head1
      rw [if_pos hb]; rfl
    · have : ¬ (lowC (decodeL l).1 = 65533 ∧ (decodeL l).2 = 1) := fun h => hb ⟨by
        by_cases hx : (decodeL l).1 = 65533
        · exact hx
        · exact absurd h.1 (low_ne_bad _ hx), h.2⟩
      rw [if_neg hb, if_neg this, low_low]
theorem runes_fold (l : List UInt8) : runes (foldL l) = (runes l).map lowC := by
  induction l using dec_ind with
  | nil => rfl
  | step l hne ih =>
    rw [runes_step _ (fold_ne l hne), dec_fold l hne, runes_step l hne]
    simp only
    rw [fold_drop l hne, ih]; rfl
/-- A place between two steps. -/
inductive Bd : List UInt8 → Nat → Prop
  | zero (l : List UInt8) : Bd l 0
  | step (l : List UInt8) (n : Nat) : l ≠ [] → Bd (l.drop (decodeL l).2) n → Bd l ((decodeL l).2 + n)
theorem Bd.le {l : List UInt8} {n : Nat} (h : Bd l n) : n ≤ l.length := by
  induction h with
  | zero l => omega
  | step l n hne _ ih =>
    have := decodeL_le l hne
    rw [List.length_drop] at ih; omega
theorem us_take {l : List UInt8} {n : Nat} (h : Bd l n) : us l = us (l.take n) ++ us (l.drop n) := by
  induction h with
  | zero l => rfl
  | step l n hne _ ih =>
    have hw := decodeL_width l
    have hl : 0 < l.length := List.length_pos_iff.2 hne
    have hne' : l.take ((decodeL l).2 + n) ≠ [] := by
      intro h
      have := congrArg List.length h
      rw [List.length_take, List.length_nil] at this
      omega
    rw [us_step _ hne', dec_take l _ hne (by omega), us_step l hne, ih, List.drop_take, List.drop_drop, Nat.add_sub_cancel_left]; rfl
theorem runes_take_bd {l : List UInt8} {n : Nat} (h : Bd l n) : runes l = runes (l.take n) ++ runes (l.drop n) := by
  induction h with
  | zero l => rfl
  | step l n hne _ ih =>
    have hw := decodeL_width l
    have hl : 0 < l.length := List.length_pos_iff.2 hne
    have hne' : l.take ((decodeL l).2 + n) ≠ [] := by
      intro h
      have := congrArg List.length h
      rw [List.length_take, List.length_nil] at this
      omega
    rw [runes_step _ hne', dec_take l _ hne (by omega), runes_step l hne, ih, List.drop_take, List.drop_drop, Nat.add_sub_cancel_left]; rfl
theorem fold_take {l : List UInt8} {n : Nat} (h : Bd l n) : foldL (l.take n) = (foldL l).take n ∧ foldL (l.drop n) = (foldL l).drop n := by
  induction h with
  | zero l => exact ⟨rfl, rfl⟩
  | step l n hne _ ih =>
    have hw := decodeL_width l
    have hl : 0 < l.length := List.length_pos_iff.2 hne
    have hne' : l.take ((decodeL l).2 + n) ≠ [] := by
      intro h
      have := congrArg List.length h
      rw [List.length_take, List.length_nil] at this
      omega
    have h1 := head1_len l hne
    have hhd : head1 (l.take ((decodeL l).2 + n)) = head1 l := by
      unfold head1
      rw [dec_take l _ hne (by omega)]
      congr 2
      obtain ⟨b, t, rfl⟩ := List.exists_cons_of_ne_nil hne
      obtain ⟨m, hm⟩ : ∃ m, (decodeL (b :: t)).2 + n = m + 1 := ⟨(decodeL (b :: t)).2 + n - 1, by omega⟩
      rw [hm]; rfl
    constructor
    · rw [foldL_step _ hne', dec_take l _ hne (by omega), hhd, List.drop_take, Nat.add_sub_cancel_left, ih.1, foldL_step l hne, ← h1, List.take_append]
      rw [List.take_of_length_le (l := head1 l) (i := (head1 l).length + n) (by omega), Nat.add_sub_cancel_left]
    · rw [← List.drop_drop, ih.2, foldL_step l hne, ← h1, ← List.drop_drop, List.drop_left' rfl]
end Go.Cs
