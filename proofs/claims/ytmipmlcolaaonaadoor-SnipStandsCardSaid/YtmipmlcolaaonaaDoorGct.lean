/- Helper text of this claim: Ct0, Ct1, Ct2, Ct3, Ct4, Ct5, Ct6, Ct8, Ct9, Ct10, Ct11, Ct7: lemmas and contracts that the proved statement rests on; no conditions of its own. -/
import Derived.Test.YtmipmlcolaaonaaDoorGcs
import Derived.Lib.Small
namespace Go.Cs
open Go.Lib
set_option linter.unusedVariables false
/-! ### Classes, lower case, words: plain -/
/-- The class of a code point. -/
def kindN (r : Nat) : Nat :=
  if 1114111 < r then 0
  else if r < 192 then (if 48 ≤ r ∧ r ≤ 57 then 1 else if 65 ≤ r ∧ r ≤ 90 then 1 else if 97 ≤ r ∧ r ≤ 122 then 1 else 0)
  else if r = 215 then 0 else if r = 247 then 0 else if 8192 ≤ r ∧ r ≤ 11263 then 0 else if 11904 ≤ r ∧ r ≤ 12255 then 2 else if 12288 ≤ r ∧ r ≤ 12351 then 0
  else if 12353 ≤ r ∧ r ≤ 12543 then 2 else if 12549 ≤ r ∧ r ≤ 12591 then 2 else if 12593 ≤ r ∧ r ≤ 12686 then 2 else if 13312 ≤ r ∧ r ≤ 19903 then 2 else if 19968 ≤ r ∧ r ≤ 40959 then 2
  else if 44032 ≤ r ∧ r ≤ 55203 then 2 else if 55296 ≤ r ∧ r ≤ 63743 then 0 else if 63744 ≤ r ∧ r ≤ 64255 then 2 else if 65024 ≤ r ∧ r ≤ 65039 then 0 else if 65072 ≤ r ∧ r ≤ 65135 then 0
  else if 65280 ≤ r ∧ r ≤ 65295 then 0 else if 65520 ≤ r ∧ r ≤ 65535 then 0 else if 126976 ≤ r ∧ r ≤ 129791 then 0 else if 131072 ≤ r ∧ r ≤ 262143 then 2 else 1
def kindI (r : Int) : Nat := if r < 0 then 0 else kindN r.toNat
/-- The lower case of a code point. -/
def lowC (r : Nat) : Nat :=
  if 65 ≤ r ∧ r ≤ 90 then r + 32 else if 192 ≤ r ∧ r ≤ 214 then r + 32 else if 216 ≤ r ∧ r ≤ 222 then r + 32
  else if 256 ≤ r ∧ r ≤ 303 then (if r % 2 = 0 then r + 1 else r) else if 306 ≤ r ∧ r ≤ 311 then (if r % 2 = 0 then r + 1 else r)
  else if 313 ≤ r ∧ r ≤ 328 then (if r % 2 = 1 then r + 1 else r) else if 330 ≤ r ∧ r ≤ 375 then (if r % 2 = 0 then r + 1 else r)
  else if r = 376 then 255 else if 377 ≤ r ∧ r ≤ 382 then (if r % 2 = 1 then r + 1 else r)
  else if r = 902 then 940 else if 904 ≤ r ∧ r ≤ 906 then r + 37 else if r = 908 then 972 else if 910 ≤ r ∧ r ≤ 911 then r + 63
  else if 913 ≤ r ∧ r ≤ 929 then r + 32 else if 931 ≤ r ∧ r ≤ 939 then r + 32 else if 1024 ≤ r ∧ r ≤ 1039 then r + 80 else if 1040 ≤ r ∧ r ≤ 1071 then r + 32 else r
theorem low_big (r : Nat) (h : 1072 ≤ r) : lowC r = r := by
  unfold lowC
  rw [if_neg (by omega), if_neg (by omega), if_neg (by omega), if_neg (by omega), if_neg (by omega), if_neg (by omega), if_neg (by omega), if_neg (by omega), if_neg (by omega), if_neg (by omega), if_neg (by omega), if_neg (by omega), if_neg (by omega), if_neg (by omega), if_neg (by omega), if_neg (by omega), if_neg (by omega)]
set_option maxRecDepth 100000 in
theorem low_small : ∀ r : Fin 1104, kindN (lowC r.val) = kindN r.val ∧ lowC (lowC r.val) = lowC r.val ∧ (enc (lowC r.val)).length = (enc r.val).length ∧ lowC r.val ≤ 1119 := by decide +kernel
theorem low_kind (r : Nat) : kindN (lowC r) = kindN r := by
  by_cases h : r < 1104
  · exact (low_small ⟨r, h⟩).1
  · rw [low_big r (by omega)]
theorem low_low (r : Nat) : lowC (lowC r) = lowC r := by
  by_cases h : r < 1104
  · exact (low_small ⟨r, h⟩).2.1
  · rw [low_big r (by omega), low_big r (by omega)]
theorem low_len (r : Nat) : (enc (lowC r)).length = (enc r).length := by
  by_cases h : r < 1104
  · exact (low_small ⟨r, h⟩).2.2.1
  · rw [low_big r (by omega)]
theorem low_scal (r : Nat) (h : scal r) : scal (lowC r) := by
  by_cases h' : r < 1104
  · have := (low_small ⟨r, h'⟩).2.2.2
    exact .inl (by simp only at this; omega)
  · rw [low_big r (by omega)]; exact h
theorem low_le (r : Nat) (h : r ≤ 1114111) : lowC r ≤ 1114111 := by
  by_cases h' : r < 1104
  · have := (low_small ⟨r, h'⟩).2.2.2
    simp only at this; omega
  · rw [low_big r (by omega)]; exact h
theorem low_bad : lowC 65533 = 65533 := low_big _ (by omega)
theorem low_ne_bad (r : Nat) (h : r ≠ 65533) : lowC r ≠ 65533 := by
  by_cases h' : r < 1104
  · have := (low_small ⟨r, h'⟩).2.2.2
    simp only at this; omega
  · rw [low_big r (by omega)]; exact h
theorem ite_le2 {c : Prop} [Decidable c] {a b : Nat} (h1 : a ≤ 2) (h2 : b ≤ 2) : (if c then a else b) ≤ 2 := by split <;> assumption
theorem kind_le2 (r : Nat) : kindN r ≤ 2 := by
  unfold kindN
  repeat (first | decide | refine ite_le2 ?_ ?_)
/-- The class of a step of the decoder. -/
def clsN (p : Nat × Nat) : Nat := if p.1 = 65533 then 0 else kindN p.1
theorem kind_bad : kindN 65533 = 0 := by decide
theorem clsN_eq (p : Nat × Nat) : clsN p = kindN p.1 := by
  unfold clsN
  split
  · rename_i h; rw [h, kind_bad]
  · rfl
/-- The steps of a text: class and width. -/
def usF : Nat → List UInt8 → List (Nat × Nat)
  | 0, _ => []
  | _ + 1, [] => []
  | n + 1, b :: t => (clsN (decodeL (b :: t)), (decodeL (b :: t)).2) :: usF n ((b :: t).drop (decodeL (b :: t)).2)
def us (l : List UInt8) : List (Nat × Nat) := usF l.length l
theorem usF_fuel : ∀ (n m : Nat) (l : List UInt8), l.length ≤ n → l.length ≤ m → usF n l = usF m l
  | 0, m, l, hn, _ => by
    have : l = [] := List.eq_nil_of_length_eq_zero (by omega)
    subst this
    cases m <;> rfl
  | n + 1, 0, l, _, hm => by
    have : l = [] := List.eq_nil_of_length_eq_zero (by omega)
    subst this; rfl
  | n + 1, m + 1, [], _, _ => rfl
  | n + 1, m + 1, b :: t, hn, hm => by
    have hw := decodeL_width (b :: t)
    simp only [usF]
    rw [usF_fuel n m _ (by rw [List.length_drop]; omega) (by rw [List.length_drop]; omega)]
theorem us_nil : us [] = [] := rfl
theorem us_step (l : List UInt8) (hne : l ≠ []) : us l = (clsN (decodeL l), (decodeL l).2) :: us (l.drop (decodeL l).2) := by
  obtain ⟨b, t, rfl⟩ := List.exists_cons_of_ne_nil hne
  have hw := decodeL_width (b :: t)
  show (clsN (decodeL (b :: t)), (decodeL (b :: t)).2) :: usF t.length _ = _
  rw [usF_fuel t.length ((b :: t).drop (decodeL (b :: t)).2).length _ (by rw [List.length_drop, List.length_cons]; omega) (Nat.le_refl _)]
  rfl
/-- A text in lower case. -/
def foldF : Nat → List UInt8 → List UInt8
  | 0, _ => []
  | _ + 1, [] => []
  | n + 1, b :: t => (if (decodeL (b :: t)).1 = 65533 ∧ (decodeL (b :: t)).2 = 1 then [b] else enc (lowC (decodeL (b :: t)).1)) ++ foldF n ((b :: t).drop (decodeL (b :: t)).2)
def foldL (l : List UInt8) : List UInt8 := foldF l.length l
theorem foldF_fuel : ∀ (n m : Nat) (l : List UInt8), l.length ≤ n → l.length ≤ m → foldF n l = foldF m l
  | 0, m, l, hn, _ => by
    have : l = [] := List.eq_nil_of_length_eq_zero (by omega)
    subst this
    cases m <;> rfl
  | n + 1, 0, l, _, hm => by
    have : l = [] := List.eq_nil_of_length_eq_zero (by omega)
    subst this; rfl
  | n + 1, m + 1, [], _, _ => rfl
  | n + 1, m + 1, b :: t, hn, hm => by
    have hw := decodeL_width (b :: t)
    simp only [foldF]
    rw [foldF_fuel n m _ (by rw [List.length_drop]; omega) (by rw [List.length_drop]; omega)]
/-- What the first step of a text becomes. -/
def head1 (l : List UInt8) : List UInt8 := if (decodeL l).1 = 65533 ∧ (decodeL l).2 = 1 then [l.getD 0 0] else enc (lowC (decodeL l).1)
theorem foldL_nil : foldL [] = [] := rfl
theorem foldL_step (l : List UInt8) (hne : l ≠ []) : foldL l = head1 l ++ foldL (l.drop (decodeL l).2) := by
  obtain ⟨b, t, rfl⟩ := List.exists_cons_of_ne_nil hne
  have hw := decodeL_width (b :: t)
  show (if (decodeL (b :: t)).1 = 65533 ∧ (decodeL (b :: t)).2 = 1 then [b] else enc (lowC (decodeL (b :: t)).1)) ++ foldF t.length _ = _
  rw [foldF_fuel t.length ((b :: t).drop (decodeL (b :: t)).2).length _ (by rw [List.length_drop, List.length_cons]; omega) (Nat.le_refl _)]
  rfl
def close (f : Option Nat) (at_ : Nat) : List (Nat × Nat) := match f with | none => [] | some a => [(a, at_)]
/-- The words' places. -/
def wd : List (Nat × Nat) → Nat → Option Nat → List (Nat × Nat)
  | [], p, f => close f p
  | (k, n) :: r, p, f =>
    if k = 0 then close f p ++ wd r (p + n) none
    else if k = 2 then close f p ++ (p, p + n) :: wd r (p + n) none
    else match f with
      | some a => if 40 < p + n - a then (a, p) :: wd r (p + n) (some p) else wd r (p + n) (some a)
      | none => wd r (p + n) (some p)
def cutL (l : List UInt8) (p : Nat × Nat) : List UInt8 := (l.take p.2).drop p.1
def wordsL (l : List UInt8) : List (List UInt8 × Nat × Nat) := (wd (us l) 0 none).map fun p => (foldL (cutL l p), p.1, p.2)
end Go.Cs

namespace Go.Cs
open Go.Lib
set_option linter.unusedVariables false
/-! ### Folding keeps the steps -/
def cont (b : UInt8) : Prop := b.toNat / 64 = 2
theorem enc_shape (c : Nat) (h : scal c) : ∃ b t, enc c = b :: t ∧ ¬ cont b ∧ ∀ x ∈ t, cont x := by
  unfold scal at h
  unfold enc encodeRune cont
  by_cases h1 : c < 128
  · rw [encodeRuneZ_one (by omega) (by omega)]
    exact ⟨_, _, rfl, by rw [u8n _ (by omega)]; omega, by simp⟩
  by_cases h2 : c ≤ 2047
  · rw [encodeRuneZ_two (by omega) (by omega)]
    refine ⟨_, _, rfl, by rw [u8n _ (by omega)]; omega, fun x hx => ?_⟩
    simp only [List.map_cons, List.map_nil, List.mem_cons, List.not_mem_nil, or_false] at hx
    subst hx; rw [u8n _ (by omega)]; omega
  by_cases h3 : c ≤ 65535
  · rw [encodeRuneZ_three (by omega)]
    refine ⟨_, _, rfl, by rw [u8n _ (by omega)]; omega, fun x hx => ?_⟩
    simp only [List.map_cons, List.map_nil, List.mem_cons, List.not_mem_nil, or_false] at hx
    rcases hx with rfl | rfl <;> (rw [u8n _ (by omega)]; omega)
  · rw [encodeRuneZ_four (by omega) (by omega)]
    refine ⟨_, _, rfl, by rw [u8n _ (by omega)]; omega, fun x hx => ?_⟩
    simp only [List.map_cons, List.map_nil, List.mem_cons, List.not_mem_nil, or_false] at hx
    rcases hx with rfl | rfl | rfl <;> (rw [u8n _ (by omega)]; omega)
/-- A whole step is told by its bytes alone. -/
theorem whole_of (l : List UInt8) (c : Nat) (h : scal c) (e : l.take (enc c).length = enc c) : decodeL l = (c, (enc c).length) := by
  have h2 := List.take_append_drop (enc c).length l
  rw [e] at h2
  have := dec_enc c h (l.drop (enc c).length)
  rw [h2] at this
  exact this
theorem bad_or (l : List UInt8) (hne : l ≠ []) : decodeL l = (65533, 1) ∨ ∃ c, scal c ∧ decodeL l = (c, (enc c).length) ∧ l.take (enc c).length = enc c := by
  rcases dec_whole l hne with h | ⟨h1, h2, h3, _⟩
  · exact .inl h
  · exact .inr ⟨_, h1, Prod.ext rfl h3, by rw [← h3]; exact h2⟩
theorem bad_ne (c : Nat) : (65533, 1) ≠ (c, (enc c).length) := by
  intro h
  injection h with h1 h2
  rw [← h1] at h2
  have := enc_bad_len
  omega
/-- A cut behind a step does not turn it. -/
theorem dec_take (l : List UInt8) (n : Nat) (hne : l ≠ []) (hn : (decodeL l).2 ≤ n) : decodeL (l.take n) = decodeL l := by
  have hw := decodeL_width l
  have hl : 0 < l.length := List.length_pos_iff.2 hne
  have hne' : l.take n ≠ [] := by
    intro h
    have := congrArg List.length h
    rw [List.length_take, List.length_nil] at this
    omega
  rcases bad_or l hne with h | ⟨c, hs, hd, ht⟩
  · rcases bad_or (l.take n) hne' with h' | ⟨c, hs, hd, ht⟩
    · rw [h, h']
    · exfalso
      have hle := decodeL_le _ hne'
      rw [hd, List.length_take] at hle
      simp only at hle
      rw [List.take_take, Nat.min_eq_left (by omega)] at ht
      have := whole_of l c hs ht
      rw [h] at this
      exact bad_ne c this
  · rw [hd] at hn ⊢
    simp only at hn
    exact whole_of _ c hs (by rw [List.take_take, Nat.min_eq_left hn]; exact ht)
/-- What follows does not turn a step, if it begins with no byte of a continuation. -/
theorem dec_app (x y : List UInt8) (hne : x ≠ []) (hy : ∀ b, y[0]? = some b → ¬ cont b) : decodeL (x ++ y) = decodeL x := by
  have hl : 0 < x.length := List.length_pos_iff.2 hne
  rcases bad_or x hne with h | ⟨c, hs, hd, ht⟩
  · rcases bad_or (x ++ y) (by simp [hne]) with h' | ⟨c, hs, hd, ht⟩
    · rw [h, h']
    · exfalso
      by_cases hk : (enc c).length ≤ x.length
      · rw [List.take_append_of_le_length hk] at ht
        have := whole_of x c hs ht
        rw [h] at this
        exact bad_ne c this
      · obtain ⟨b, t, e1, e2, e3⟩ := enc_shape c hs
        have hle := decodeL_le (x ++ y) (by simp [hne])
        rw [hd, List.length_append] at hle
        simp only at hle
        obtain ⟨z, r, rfl⟩ := List.exists_cons_of_ne_nil (l := y) (by rintro rfl; simp at hle; omega)
        have hx : (enc c)[x.length]? = some z := by
          rw [← ht, List.getElem?_take, if_pos (by omega), List.getElem?_append_right (Nat.le_refl _), Nat.sub_self]; rfl
        rw [e1] at hx
        obtain ⟨m, hm⟩ : ∃ m, x.length = m + 1 := ⟨x.length - 1, by omega⟩
        rw [hm, List.getElem?_cons_succ] at hx
        exact hy z rfl (e3 z (List.mem_of_getElem? hx))
  · rw [hd]
    have hle := decodeL_le x hne
    rw [hd] at hle
    simp only at hle
    exact whole_of _ c hs (by rw [List.take_append_of_le_length hle]; exact ht)
theorem cont_bad (b : UInt8) (t : List UInt8) (h : cont b) : decodeL (b :: t) = (65533, 1) := by
  rw [decodeL_N]
  unfold cont at h
  exact decodeN_bad _ _ _ _ _ (.inl (by simp only [List.getD_cons_zero]; omega))
/-- Both begin with the same continuation bytes and no more. -/
def Alike (t t' : List UInt8) : Prop := ∃ p q q', t = p ++ q ∧ t' = p ++ q' ∧ (∀ b ∈ p, cont b) ∧ (∀ b, q[0]? = some b → ¬ cont b) ∧ ∀ b, q'[0]? = some b → ¬ cont b
theorem bad_alike (b : UInt8) {t t' : List UInt8} (h : Alike t t') (hb : decodeL (b :: t) = (65533, 1)) : decodeL (b :: t') = (65533, 1) := by
  obtain ⟨p, q, q', rfl, rfl, hp, hq, hq'⟩ := h
  rcases bad_or (b :: (p ++ q')) (by simp) with h' | ⟨c, hs, hd, ht⟩
  · exact h'
  · exfalso
    have e1 : decodeL (b :: (p ++ q)) = decodeL (b :: p) := dec_app (b :: p) q (by simp) hq
    have e2 : decodeL (b :: (p ++ q')) = decodeL (b :: p) := dec_app (b :: p) q' (by simp) hq'
    rw [e1] at hb
    rw [e2, hb] at hd
    exact bad_ne c hd
theorem head1_shape (l : List UInt8) (hne : l ≠ []) : (decodeL l = (65533, 1) ∧ ∃ b t, l = b :: t ∧ head1 l = [b]) ∨ ∃ c, scal c ∧ decodeL l = (c, (enc c).length) ∧ head1 l = enc (lowC c) ∧ ∃ b t, l = b :: t ∧ ¬ cont b := by
  obtain ⟨b, t, rfl⟩ := List.exists_cons_of_ne_nil hne
  rcases bad_or (b :: t) hne with h | ⟨c, hs, hd, ht⟩
  · exact .inl ⟨h, b, t, rfl, by unfold head1; rw [h]; rfl⟩
  · refine .inr ⟨c, hs, hd, ?_, b, t, rfl, ?_⟩
    · unfold head1
      rw [hd, if_neg]
      rintro ⟨h1, h2⟩
      simp only at h1 h2
      subst h1
      rw [enc_bad_len] at h2; omega
    · obtain ⟨x, y, e1, e2, _⟩ := enc_shape c hs
      rw [e1] at ht
      simp only [List.length_cons, List.take_succ_cons, List.cons.injEq] at ht
      rw [ht.1]; exact e2
theorem head1_len (l : List UInt8) (hne : l ≠ []) : (head1 l).length = (decodeL l).2 := by
  rcases head1_shape l hne with ⟨h, b, t, _, e⟩ | ⟨c, hs, hd, e, _⟩
  · rw [h, e]; rfl
  · rw [hd, e, low_len]
theorem fold_alike (t : List UInt8) : Alike t (foldL t) := by
  induction t using dec_ind with
  | nil => exact ⟨[], [], [], rfl, rfl, by simp, by simp, by simp⟩
  | step l hne ih =>
    rw [foldL_step l hne]
    rcases head1_shape l hne with ⟨h, b, t, rfl, e⟩ | ⟨c, hs, hd, e, b, t, rfl, hb⟩
    · rw [h] at ih ⊢
      simp only [List.drop_succ_cons, List.drop_zero] at ih ⊢
      rw [e]
      by_cases hc : cont b
      · obtain ⟨p, q, q', e1, e2, hp, hq, hq'⟩ := ih
        exact ⟨b :: p, q, q', by rw [e1]; rfl, by rw [e2]; rfl, fun x hx => by rcases List.mem_cons.1 hx with rfl | hx; exact hc; exact hp x hx, hq, hq'⟩
      · exact ⟨[], b :: t, b :: foldL t, rfl, rfl, by simp, fun x hx => by cases hx; exact hc, fun x hx => by cases hx; exact hc⟩
    · rw [e]
      obtain ⟨x, y, e1, e2, _⟩ := enc_shape (lowC c) (low_scal c hs)
      exact ⟨[], _, _, rfl, rfl, by simp, fun z hz => by cases hz; exact hb, fun z hz => by rw [e1] at hz; cases hz; exact e2⟩
theorem dec_fold (l : List UInt8) (hne : l ≠ []) : decodeL (foldL l) = (lowC (decodeL l).1, (decodeL l).2) := by
  rw [foldL_step l hne]
  rcases head1_shape l hne with ⟨h, b, t, rfl, e⟩ | ⟨c, hs, hd, e, _⟩
  · rw [e, h]
    simp only [List.drop_succ_cons, List.drop_zero, low_bad]
    exact bad_alike b (fold_alike t) h
  · rw [e, hd, dec_enc _ (low_scal c hs), low_len]
theorem fold_ne (l : List UInt8) (hne : l ≠ []) : foldL l ≠ [] := by
  rw [foldL_step l hne]
  have := head1_len l hne
  have hw := decodeL_width l
  intro h
  have h := congrArg List.length h
  rw [List.length_append, List.length_nil] at h
  omega
theorem fold_drop (l : List UInt8) (hne : l ≠ []) : (foldL l).drop (decodeL l).2 = foldL (l.drop (decodeL l).2) := by
  rw [foldL_step l hne, ← head1_len l hne, List.drop_left']
  rfl
theorem fold_len (l : List UInt8) : (foldL l).length = l.length := by
  induction l using dec_ind with
  | nil => rfl
  | step l hne ih =>
    have hle := decodeL_le l hne
    rw [foldL_step l hne, List.length_append, head1_len l hne, ih, List.length_drop]; omega
theorem clsN_low (p : Nat × Nat) (k : Nat) : clsN (lowC p.1, k) = clsN p := by rw [clsN_eq, clsN_eq, low_kind]
theorem us_fold (l : List UInt8) : us (foldL l) = us l := by
  induction l using dec_ind with
  | nil => rfl
  | step l hne ih =>
    rw [us_step _ (fold_ne l hne), dec_fold l hne, us_step l hne]
    simp only
    rw [fold_drop l hne, ih, clsN_low]
theorem fold_fold (l : List UInt8) : foldL (foldL l) = foldL l := by
  induction l using dec_ind with
  | nil => rfl
  | step l hne ih =>
    rw [foldL_step _ (fold_ne l hne), dec_fold l hne]
    simp only
    rw [fold_drop l hne, ih]
    conv => rhs; rw [foldL_step l hne]
    congr 1
    unfold head1
    rw [dec_fold l hne]
    simp only
    have hd0 : (foldL l).getD 0 0 = (head1 l).getD 0 0 := by
      have h1 := head1_len l hne
      have hw := decodeL_width l
      rw [foldL_step l hne]
      obtain ⟨x, y, e⟩ := List.exists_cons_of_ne_nil (l := head1 l) (by intro h; rw [h] at h1; simp at h1; omega)
      rw [e]; rfl
    by_cases hb : (decodeL l).1 = 65533 ∧ (decodeL l).2 = 1
    · rw [if_pos hb, if_pos ⟨by rw [hb.1]; exact low_bad, hb.2⟩, hd0]
      unfold head1
      rw [if_pos hb]; rfl
    · have : ¬ (lowC (decodeL l).1 = 65533 ∧ (decodeL l).2 = 1) := fun h => hb ⟨by
        by_cases hx : (decodeL l).1 = 65533
        · exact hx
        · exact absurd h.1 (low_ne_bad _ hx), h.2⟩
      rw [if_neg hb, if_neg this, low_low]
theorem runes_fold (l : List UInt8) : runes (foldL l) = (runes l).map lowC := by
  induction l using dec_ind with
  | nil => rfl
  | step l hne ih =>
    rw [runes_step _ (fold_ne l hne), dec_fold l hne, runes_step l hne]
    simp only
    rw [fold_drop l hne, ih]; rfl
/-- A place between two steps. -/
inductive Bd : List UInt8 → Nat → Prop
  | zero (l : List UInt8) : Bd l 0
  | step (l : List UInt8) (n : Nat) : l ≠ [] → Bd (l.drop (decodeL l).2) n → Bd l ((decodeL l).2 + n)
theorem Bd.le {l : List UInt8} {n : Nat} (h : Bd l n) : n ≤ l.length := by
  induction h with
  | zero l => omega
  | step l n hne _ ih =>
    have := decodeL_le l hne
    rw [List.length_drop] at ih; omega
theorem us_take {l : List UInt8} {n : Nat} (h : Bd l n) : us l = us (l.take n) ++ us (l.drop n) := by
  induction h with
  | zero l => rfl
  | step l n hne _ ih =>
    have hw := decodeL_width l
    have hl : 0 < l.length := List.length_pos_iff.2 hne
    have hne' : l.take ((decodeL l).2 + n) ≠ [] := by
      intro h
      have := congrArg List.length h
      rw [List.length_take, List.length_nil] at this
      omega
    rw [us_step _ hne', dec_take l _ hne (by omega), us_step l hne, ih, List.drop_take, List.drop_drop, Nat.add_sub_cancel_left]; rfl
theorem runes_take_bd {l : List UInt8} {n : Nat} (h : Bd l n) : runes l = runes (l.take n) ++ runes (l.drop n) := by
  induction h with
  | zero l => rfl
  | step l n hne _ ih =>
    have hw := decodeL_width l
    have hl : 0 < l.length := List.length_pos_iff.2 hne
    have hne' : l.take ((decodeL l).2 + n) ≠ [] := by
      intro h
      have := congrArg List.length h
      rw [List.length_take, List.length_nil] at this
      omega
    rw [runes_step _ hne', dec_take l _ hne (by omega), runes_step l hne, ih, List.drop_take, List.drop_drop, Nat.add_sub_cancel_left]; rfl
theorem fold_take {l : List UInt8} {n : Nat} (h : Bd l n) : foldL (l.take n) = (foldL l).take n ∧ foldL (l.drop n) = (foldL l).drop n := by
  induction h with
  | zero l => exact ⟨rfl, rfl⟩
  | step l n hne _ ih =>
    have hw := decodeL_width l
    have hl : 0 < l.length := List.length_pos_iff.2 hne
    have hne' : l.take ((decodeL l).2 + n) ≠ [] := by
      intro h
      have := congrArg List.length h
      rw [List.length_take, List.length_nil] at this
      omega
    have h1 := head1_len l hne
    have hhd : head1 (l.take ((decodeL l).2 + n)) = head1 l := by
      unfold head1
      rw [dec_take l _ hne (by omega)]
      congr 2
      obtain ⟨b, t, rfl⟩ := List.exists_cons_of_ne_nil hne
      obtain ⟨m, hm⟩ : ∃ m, (decodeL (b :: t)).2 + n = m + 1 := ⟨(decodeL (b :: t)).2 + n - 1, by omega⟩
      rw [hm]; rfl
    constructor
    · rw [foldL_step _ hne', dec_take l _ hne (by omega), hhd, List.drop_take, Nat.add_sub_cancel_left, ih.1, foldL_step l hne, ← h1, List.take_append]
      rw [List.take_of_length_le (l := head1 l) (i := (head1 l).length + n) (by omega), Nat.add_sub_cancel_left]
    · rw [← List.drop_drop, ih.2, foldL_step l hne, ← h1, ← List.drop_drop, List.drop_left' rfl]
end Go.Cs

namespace Go.Cs
set_option linter.unusedVariables false
/-! ### The two tables -/
def cutT : List (Int × Int × Int) := [(215, 215, 0), (247, 247, 0), (8192, 11263, 0), (11904, 12255, 2), (12288, 12351, 0), (12353, 12543, 2), (12549, 12591, 2), (12593, 12686, 2), (13312, 19903, 2), (19968, 40959, 2), (44032, 55203, 2), (55296, 63743, 0), (63744, 64255, 2), (65024, 65039, 0), (65072, 65135, 0), (65280, 65295, 0), (65520, 65535, 0), (126976, 129791, 0), (131072, 262143, 2)]
def cutSp (i : Nat) : Int × Int × Int := cutT.getD i (0, 0, 0)
def foldT : List (Int × Int × Int × Int) := [(65, 90, 1, 32), (192, 214, 1, 32), (216, 222, 1, 32), (256, 303, 2, 1), (306, 311, 2, 1), (313, 328, 2, 1), (330, 375, 2, 1), (376, 376, 1, -121), (377, 382, 2, 1), (902, 902, 1, 38), (904, 906, 1, 37), (908, 908, 1, 64), (910, 911, 1, 63), (913, 929, 1, 32), (931, 939, 1, 32), (1024, 1039, 1, 80), (1040, 1071, 1, 32)]
def foldSp (i : Nat) : Int × Int × Int × Int := foldT.getD i (0, 0, 0, 0)
def cmp3 (a b : Int) : Int := if a < b then -1 else if b < a then 1 else 0
def cmpC (i : Nat) (r : Int) : Int := if (cutSp i).1 ≤ r ∧ r ≤ (cutSp i).2.1 then 0 else cmp3 (cutSp i).1 r
def cmpF (i : Nat) (r : Int) : Int := if (foldSp i).2.1 < r then -1 else if r < (foldSp i).1 then 1 else 0
theorem cutT_fact : ∀ i : Fin 19, (cutSp i.val).1 ≤ (cutSp i.val).2.1 ∧ 0 ≤ (cutSp i.val).1 ∧ (cutSp i.val).2.1 ≤ 1114111 ∧ 0 ≤ (cutSp i.val).2.2 ∧ (cutSp i.val).2.2 ≤ 2 := by decide
theorem cutT_up : ∀ i j : Fin 19, i.val < j.val → (cutSp i.val).2.1 < (cutSp j.val).1 := by decide
theorem foldT_fact : ∀ i : Fin 17, (foldSp i.val).1 ≤ (foldSp i.val).2.1 ∧ 0 ≤ (foldSp i.val).1 ∧ (foldSp i.val).2.1 ≤ 1114111 ∧ 1 ≤ (foldSp i.val).2.2.1 ∧ (foldSp i.val).2.2.1 ≤ 2 ∧ -200 ≤ (foldSp i.val).2.2.2 ∧ (foldSp i.val).2.2.2 ≤ 200 := by decide
theorem foldT_up : ∀ i j : Fin 17, i.val < j.val → (foldSp i.val).2.1 < (foldSp j.val).1 := by decide
theorem cmpC_neg (i : Nat) (hi : i < 19) (r : Int) : cmpC i r < 0 ↔ (cutSp i).2.1 < r := by
  have := cutT_fact ⟨i, hi⟩
  simp only at this
  unfold cmpC cmp3
  repeat' split
  all_goals omega
theorem cmpC_mono (i j : Nat) (h : i < j) (hj : j < 19) (r : Int) (hr : cmpC j r < 0) : cmpC i r < 0 := by
  rw [cmpC_neg _ (by omega)] at *
  have h1 := cutT_fact ⟨j, hj⟩
  have h2 := cutT_up ⟨i, by omega⟩ ⟨j, hj⟩ h
  simp only at h1 h2
  omega
theorem cmpF_neg (i : Nat) (r : Int) : cmpF i r < 0 ↔ (foldSp i).2.1 < r := by
  unfold cmpF
  repeat' split
  all_goals omega
theorem cmpF_mono (i j : Nat) (h : i < j) (hj : j < 17) (r : Int) (hr : cmpF j r < 0) : cmpF i r < 0 := by
  rw [cmpF_neg] at *
  have h1 := foldT_fact ⟨j, hj⟩
  have h2 := foldT_up ⟨i, by omega⟩ ⟨j, hj⟩ h
  simp only at h1 h2
  omega
/-- Where the search ends. -/
def Pos (cmp : Nat → Int) (n k : Nat) : Prop := k ≤ n ∧ (∀ m, m < k → cmp m < 0) ∧ ∀ m, k ≤ m → m < n → 0 ≤ cmp m
end Go.Cs

namespace Go.Cs
set_option linter.unusedVariables false
theorem cmpC_zero (k : Nat) (r : Int) (h : cmpC k r = 0) (hk : k < 19) : (cutSp k).1 ≤ r ∧ r ≤ (cutSp k).2.1 := by
  have := cutT_fact ⟨k, hk⟩
  simp only at this
  unfold cmpC cmp3 at h
  split at h
  · assumption
  · repeat' split at h
    all_goals omega
theorem cmpC_out (k : Nat) (r : Int) (hp : Pos (fun i => cmpC i r) 19 k) (hn : ¬ (k < 19 ∧ cmpC k r = 0)) (m : Nat) (hm : m < 19) : ¬ ((cutSp m).1 ≤ r ∧ r ≤ (cutSp m).2.1) := by
  obtain ⟨h1, h2, h3⟩ := hp
  intro hc
  have h0 : cmpC m r = 0 := by unfold cmpC; rw [if_pos hc]
  have hge : ¬ m < k := fun h => by have := h2 m h; dsimp only at this; omega
  by_cases e : m = k
  · exact hn ⟨by omega, by rw [← e]; exact h0⟩
  · have h4 := h3 k (Nat.le_refl _) (by omega)
    dsimp only at h4
    have h5 : ¬ cmpC k r < 0 := by omega
    rw [cmpC_neg k (by omega)] at h5
    have h6 := cutT_up ⟨k, by omega⟩ ⟨m, hm⟩ (by simp only; omega)
    simp only at h6
    omega
set_option maxHeartbeats 4000000 in
theorem kind_found (k : Nat) (hk : k < 19) (r : Nat) (h192 : 192 ≤ r) (hr : r ≤ 1114111) (h : (cutSp k).1 ≤ (r : Int) ∧ (r : Int) ≤ (cutSp k).2.1) : ((kindN r : Nat) : Int) = (cutSp k).2.2 := by
  match k, hk with
  | 0, _ | 1, _ | 2, _ | 3, _ | 4, _ | 5, _ | 6, _ | 7, _ | 8, _ | 9, _ | 10, _ | 11, _ | 12, _ | 13, _ | 14, _ | 15, _ | 16, _ | 17, _ | 18, _ =>
    simp only [cutSp, cutT, List.getD_cons_zero, List.getD_cons_succ] at h ⊢
    unfold kindN
    repeat (first | rw [if_pos (by omega)] | rw [if_neg (by omega)])
    try rfl
  | n + 19, hk => omega
set_option maxHeartbeats 4000000 in
theorem kind_out (r : Nat) (h192 : 192 ≤ r) (hr : r ≤ 1114111) (h : ∀ m, m < 19 → ¬ ((cutSp m).1 ≤ (r : Int) ∧ (r : Int) ≤ (cutSp m).2.1)) : kindN r = 1 := by
  have h0 := h 0 (by omega); have h1 := h 1 (by omega); have h2 := h 2 (by omega); have h3 := h 3 (by omega); have h4 := h 4 (by omega); have h5 := h 5 (by omega); have h6 := h 6 (by omega)
  have h7 := h 7 (by omega); have h8 := h 8 (by omega); have h9 := h 9 (by omega); have h10 := h 10 (by omega); have h11 := h 11 (by omega); have h12 := h 12 (by omega); have h13 := h 13 (by omega)
  have h14 := h 14 (by omega); have h15 := h 15 (by omega); have h16 := h 16 (by omega); have h17 := h 17 (by omega); have h18 := h 18 (by omega)
  clear h
  simp only [cutSp, cutT, List.getD_cons_zero, List.getD_cons_succ] at h0 h1 h2 h3 h4 h5 h6 h7 h8 h9 h10 h11 h12 h13 h14 h15 h16 h17 h18
  unfold kindN
  repeat (first | rw [if_pos (by omega)] | rw [if_neg (by omega)])
/-! ### the lower case by its table -/
theorem cmpF_zero (k : Nat) (r : Int) (h : cmpF k r = 0) : (foldSp k).1 ≤ r ∧ r ≤ (foldSp k).2.1 := by
  unfold cmpF at h
  repeat' split at h
  all_goals omega
theorem cmpF_out (k : Nat) (r : Int) (hp : Pos (fun i => cmpF i r) 17 k) (hn : ¬ (k < 17 ∧ cmpF k r = 0)) (m : Nat) (hm : m < 17) : ¬ ((foldSp m).1 ≤ r ∧ r ≤ (foldSp m).2.1) := by
  obtain ⟨h1, h2, h3⟩ := hp
  intro hc
  have h0 : cmpF m r = 0 := by unfold cmpF; rw [if_neg (by omega), if_neg (by omega)]
  have hge : ¬ m < k := fun h => by have := h2 m h; dsimp only at this; omega
  by_cases e : m = k
  · exact hn ⟨by omega, by rw [← e]; exact h0⟩
  · have h4 := h3 k (Nat.le_refl _) (by omega)
    dsimp only at h4
    have h5 : ¬ cmpF k r < 0 := by omega
    rw [cmpF_neg] at h5
    have h6 := foldT_up ⟨k, by omega⟩ ⟨m, hm⟩ (by simp only; omega)
    simp only at h6
    omega
set_option maxHeartbeats 4000000 in
theorem low_found (k : Nat) (hk : k < 17) (r : Nat) (h : (foldSp k).1 ≤ (r : Int) ∧ (r : Int) ≤ (foldSp k).2.1) : ((lowC r : Nat) : Int) = if ((r : Int) - (foldSp k).1) % (foldSp k).2.2.1 = 0 then (r : Int) + (foldSp k).2.2.2 else r := by
  match k, hk with
  | 0, _ | 1, _ | 2, _ | 3, _ | 4, _ | 5, _ | 6, _ | 7, _ | 8, _ | 9, _ | 10, _ | 11, _ | 12, _ | 13, _ | 14, _ | 15, _ | 16, _ =>
    simp only [foldSp, foldT, List.getD_cons_zero, List.getD_cons_succ] at h ⊢
    unfold lowC
    repeat (first | rw [if_pos (by omega)] | rw [if_neg (by omega)])
    try (repeat' split)
    all_goals omega
  | n + 17, hk => omega
set_option maxHeartbeats 4000000 in
theorem low_out (r : Nat) (h : ∀ m, m < 17 → ¬ ((foldSp m).1 ≤ (r : Int) ∧ (r : Int) ≤ (foldSp m).2.1)) : lowC r = r := by
  have h0 := h 0 (by omega); have h1 := h 1 (by omega); have h2 := h 2 (by omega); have h3 := h 3 (by omega); have h4 := h 4 (by omega); have h5 := h 5 (by omega); have h6 := h 6 (by omega)
  have h7 := h 7 (by omega); have h8 := h 8 (by omega); have h9 := h 9 (by omega); have h10 := h 10 (by omega); have h11 := h 11 (by omega); have h12 := h 12 (by omega); have h13 := h 13 (by omega)
  have h14 := h 14 (by omega); have h15 := h 15 (by omega); have h16 := h 16 (by omega)
  clear h
  simp only [foldSp, foldT, List.getD_cons_zero, List.getD_cons_succ] at h0 h1 h2 h3 h4 h5 h6 h7 h8 h9 h10 h11 h12 h13 h14 h15 h16
  unfold lowC
  repeat (first | rw [if_pos (by omega)] | rw [if_neg (by omega)])
end Go.Cs

namespace Go.Cs
open Go.Lib
set_option linter.unusedVariables false
theorem runeLen_eq (c : Nat) (h : scal c) : runeLen (c : Int) = ((enc c).length : Nat) := by
  unfold scal at h
  unfold enc encodeRune runeLen
  rw [if_neg (by omega)]
  by_cases h1 : c < 128
  · rw [if_pos (by omega), encodeRuneZ_one (by omega) (by omega)]; rfl
  by_cases h2 : c ≤ 2047
  · rw [if_neg (by omega), if_pos (by omega), encodeRuneZ_two (by omega) (by omega)]; rfl
  by_cases h3 : c ≤ 65535
  · rw [if_neg (by omega), if_neg (by omega), if_neg (by omega), if_pos (by omega), encodeRuneZ_three (by omega)]; rfl
  · rw [if_neg (by omega), if_neg (by omega), if_neg (by omega), if_neg (by omega), if_pos (by omega), encodeRuneZ_four (by omega) (by omega)]; rfl
/-- The word at a place. -/
def mk (l : List UInt8) (p : Nat × Nat) : List UInt8 × Nat × Nat := (foldL (cutL l p), p.1, p.2)
theorem wordsL_eq (l : List UInt8) : wordsL l = (wd (us l) 0 none).map (mk l) := rfl
def frI (f : Option Nat) : Int := match f with | none => -1 | some a => a
theorem wd_0 (n : Nat) (r : List (Nat × Nat)) (p : Nat) (f : Option Nat) : wd ((0, n) :: r) p f = close f p ++ wd r (p + n) none := rfl
theorem wd_2 (n : Nat) (r : List (Nat × Nat)) (p : Nat) (f : Option Nat) : wd ((2, n) :: r) p f = close f p ++ (p, p + n) :: wd r (p + n) none := rfl
theorem wd_1n (n : Nat) (r : List (Nat × Nat)) (p : Nat) : wd ((1, n) :: r) p none = wd r (p + n) (some p) := rfl
theorem wd_1s (n : Nat) (r : List (Nat × Nat)) (p a : Nat) : wd ((1, n) :: r) p (some a) = if 40 < p + n - a then (a, p) :: wd r (p + n) (some p) else wd r (p + n) (some a) := rfl
end Go.Cs

namespace Go.Cs
open Go.Lib
set_option linter.unusedVariables false
theorem Bd.snoc {l : List UInt8} {n : Nat} (h : Bd l n) : l.drop n ≠ [] → Bd l (n + (decodeL (l.drop n)).2) := by
  induction h with
  | zero l => intro hne; rw [List.drop_zero] at *; rw [Nat.zero_add]; exact .step l 0 hne (.zero _)
  | step l n hne _ ih =>
    intro h
    rw [← List.drop_drop] at h
    have := ih h
    rw [← List.drop_drop, Nat.add_assoc]
    exact .step l _ hne this
theorem Bd.take {l : List UInt8} {n : Nat} (h : Bd l n) : ∀ b, n ≤ b → Bd (l.take b) n := by
  induction h with
  | zero l => exact fun b _ => .zero _
  | step l n hne _ ih =>
    intro b hb
    have hw := decodeL_width l
    have hd := dec_take l b hne (by omega)
    have hl : 0 < l.length := List.length_pos_iff.2 hne
    have hne' : l.take b ≠ [] := by
      intro e
      have := congrArg List.length e
      rw [List.length_take, List.length_nil] at this
      omega
    have h1 := ih (b - (decodeL l).2) (by omega)
    rw [← hd]
    refine .step _ _ hne' ?_
    rw [hd, List.drop_take]
    exact h1
theorem wd_bd (l : List UInt8) : ∀ (d m : Nat) (f : Option Nat), l.length - m ≤ d → Bd l m → (∀ a, f = some a → Bd l a ∧ a ≤ m) → ∀ p ∈ wd (us (l.drop m)) m f, Bd l p.1 ∧ Bd l p.2 ∧ p.1 ≤ p.2 := by
  intro d
  induction d with
  | zero =>
    intro m f hd hm hf p hp
    rw [List.drop_eq_nil_of_le (by omega), us_nil] at hp
    cases f with
    | none => simp [wd, close] at hp
    | some a =>
      simp only [wd, close, List.mem_singleton] at hp
      subst hp
      exact ⟨(hf a rfl).1, hm, (hf a rfl).2⟩
  | succ d ih =>
    intro m f hd hm hf p hp
    have hcl : p ∈ close f m → Bd l p.1 ∧ Bd l p.2 ∧ p.1 ≤ p.2 := by
      intro hp
      cases f with
      | none => simp [close] at hp
      | some a =>
        simp only [close, List.mem_singleton] at hp
        subst hp
        exact ⟨(hf a rfl).1, hm, (hf a rfl).2⟩
    by_cases hne : l.drop m = []
    · rw [hne, us_nil] at hp; exact hcl hp
    · have hs := hm.snoc hne
      have hw := decodeL_width (l.drop m)
      have hlt : m < l.length := by
        apply Classical.byContradiction; intro h
        exact hne (List.drop_eq_nil_of_le (by omega))
      rw [us_step _ hne, List.drop_drop] at hp
      generalize (decodeL (l.drop m)).2 = n at *
      have go := fun f' hf' => ih (m + n) f' (by omega) hs hf' p
      simp only [wd] at hp
      split at hp
      · rcases List.mem_append.1 hp with h | h
        · exact hcl h
        · exact go none (fun a h => by cases h) h
      · split at hp
        · rcases List.mem_append.1 hp with h | h
          · exact hcl h
          · rcases List.mem_cons.1 h with h | h
            · subst h; exact ⟨hm, hs, by omega⟩
            · exact go none (fun a h => by cases h) h
        · split at hp
          · rename_i a
            split at hp
            · rcases List.mem_cons.1 hp with h | h
              · subst h; exact ⟨(hf a rfl).1, hm, (hf a rfl).2⟩
              · exact go (some m) (fun a h => by injection h with h; subst h; exact ⟨hm, by omega⟩) h
            · exact go (some a) (fun b h => by injection h with h; subst h; exact ⟨(hf a rfl).1, by have := (hf a rfl).2; omega⟩) hp
          · exact go (some m) (fun a h => by injection h with h; subst h; exact ⟨hm, by omega⟩) hp
theorem places_bd (l : List UInt8) (p : Nat × Nat) (hp : p ∈ wd (us l) 0 none) : Bd l p.1 ∧ Bd l p.2 ∧ p.1 ≤ p.2 :=
  wd_bd l l.length 0 none (by omega) (.zero l) (fun a h => by cases h) p (by simpa using hp)
theorem fold_cut (l : List UInt8) (p : Nat × Nat) (h1 : Bd l p.1) (h2 : Bd l p.2) (h : p.1 ≤ p.2) : foldL (cutL l p) = cutL (foldL l) p := by
  unfold cutL
  rw [(fold_take (h1.take p.2 h)).2, (fold_take h2).1]
theorem words_fold (l : List UInt8) : wordsL (foldL l) = wordsL l := by
  unfold wordsL
  rw [us_fold]
  refine List.map_congr_left fun p hp => ?_
  obtain ⟨h1, h2, h3⟩ := places_bd l p hp
  rw [← fold_cut l p h1 h2 h3, fold_fold]
end Go.Cs

namespace Go.Cs
open Go.Lib
set_option linter.unusedVariables false
/-! ### Segments -/
/-- The width of steps. -/
def W (u : List (Nat × Nat)) : Nat := (u.map (·.2)).sum
theorem W_nil : W [] = 0 := rfl
theorem W_cons (q : Nat × Nat) (u : List (Nat × Nat)) : W (q :: u) = q.2 + W u := by simp [W]
theorem W_app (u v : List (Nat × Nat)) : W (u ++ v) = W u + W v := by simp [W]
def Ones (u : List (Nat × Nat)) : Prop := u ≠ [] ∧ (∀ q ∈ u, q.1 = 1) ∧ W u ≤ 40
def Seg (u : List (Nat × Nat)) : Prop := Ones u ∨ ∃ n, u = [(2, n)]
/-- Rest that ends an open word. -/
def Stops (r : List (Nat × Nat)) : Prop := r = [] ∨ ∃ n t, r = (0, n) :: t
theorem wd_ones (r : List (Nat × Nat)) (hr : Stops r) : ∀ (u : List (Nat × Nat)) (q a : Nat), (∀ x ∈ u, x.1 = 1) → q + W u ≤ a + 40 → wd (u ++ r) q (some a) = (a, q + W u) :: wd r (q + W u) none
  | [], q, a, _, _ => by
    rcases hr with rfl | ⟨n, t, rfl⟩
    · simp [wd, close, W_nil]
    · simp only [List.nil_append, W_nil, Nat.add_zero]
      rw [wd_0, wd_0]; simp [close]
  | (k, n) :: u, q, a, h1, h2 => by
    have hk : k = 1 := h1 (k, n) (by simp)
    subst hk
    rw [W_cons] at h2
    rw [List.cons_append, wd_1s, if_neg (by dsimp only at h2; omega), wd_ones r hr u (q + n) a (fun x hx => h1 x (by simp [hx])) (by dsimp only at h2; omega), W_cons, Nat.add_assoc]
theorem wd_seg_app (u r : List (Nat × Nat)) (hu : Seg u) (hr : Stops r) (q : Nat) : wd (u ++ r) q none = (q, q + W u) :: wd r (q + W u) none := by
  rcases hu with ⟨hne, h1, h2⟩ | ⟨n, rfl⟩
  · match u, hne with
    | (k, n) :: u, _ =>
      have hk : k = 1 := h1 (k, n) (by simp)
      subst hk
      rw [W_cons] at h2
      rw [List.cons_append, wd_1n, wd_ones r hr u (q + n) q (fun x hx => h1 x (by simp [hx])) (by dsimp only at h2; omega), W_cons, Nat.add_assoc]
  · rw [List.cons_append, List.nil_append, wd_2]; simp [close, W_cons, W_nil]
theorem wd_seg (u0 : List (Nat × Nat)) : ∀ (r pre mid : List (Nat × Nat)) (f : Option Nat), u0 = pre ++ mid ++ r → (∀ q ∈ r, q.1 ≤ 2 ∧ q.2 ≤ 4) → ((f = none ∧ mid = []) ∨ (f = some (W pre) ∧ Ones mid)) →
    ∀ p ∈ wd r (W pre + W mid) f, ∃ a b c, u0 = a ++ b ++ c ∧ p = (W a, W a + W b) ∧ Seg b
  | [], pre, mid, f, he, _, hf, p, hp => by
    rcases hf with ⟨rfl, rfl⟩ | ⟨rfl, ho⟩
    · simp [wd, close] at hp
    · simp only [wd, close, List.mem_singleton] at hp
      exact ⟨pre, mid, [], he, hp, .inl ho⟩
  | (k, n) :: r, pre, mid, f, he, hk, hf, p, hp => by
    have hk0 := hk (k, n) (by simp)
    have hkr : ∀ q ∈ r, q.1 ≤ 2 ∧ q.2 ≤ 4 := fun q hq => hk q (by simp [hq])
    have hcl : p ∈ close f (W pre + W mid) → ∃ a b c, u0 = a ++ b ++ c ∧ p = (W a, W a + W b) ∧ Seg b := by
      intro hp
      rcases hf with ⟨rfl, rfl⟩ | ⟨rfl, ho⟩
      · simp [close] at hp
      · simp only [close, List.mem_singleton] at hp
        exact ⟨pre, mid, (k, n) :: r, he, hp, .inl ho⟩
    have e1 : W (pre ++ mid ++ [(k, n)]) + W [] = W pre + W mid + n := by simp only [W_app, W_cons, W_nil]; omega
    have g1 := wd_seg u0 r (pre ++ mid ++ [(k, n)]) [] none (by rw [he]; simp) hkr (.inl ⟨rfl, rfl⟩) p
    rw [e1] at g1
    simp only [wd] at hp
    split at hp
    · rcases List.mem_append.1 hp with h | h
      · exact hcl h
      · exact g1 h
    · split at hp
      · rename_i hk2
        rcases List.mem_append.1 hp with h | h
        · exact hcl h
        · rcases List.mem_cons.1 h with h | h
          · exact ⟨pre ++ mid, [(k, n)], r, by rw [he]; simp, by rw [h]; simp only [W_app, W_cons, W_nil, Nat.add_zero], .inr ⟨n, by rw [hk2]⟩⟩
          · exact g1 h
      · rename_i h0 h2
        have hk1 : k = 1 := by dsimp only at hk0; omega
        subst hk1
        have hone : Ones [(1, n)] := ⟨by simp, by simp, by simp only [W_cons, W_nil]; dsimp only at hk0 ⊢; omega⟩
        have e2 : W (pre ++ mid) + W [(1, n)] = W pre + W mid + n := by simp only [W_app, W_cons, W_nil]; omega
        have g2 := wd_seg u0 r (pre ++ mid) [(1, n)] (some (W (pre ++ mid))) (by rw [he]; simp) hkr (.inr ⟨rfl, hone⟩) p
        rw [e2, W_app] at g2
        rcases hf with ⟨rfl, rfl⟩ | ⟨rfl, ho⟩
        · exact g2 hp
        · simp only at hp
          split at hp
          · rcases List.mem_cons.1 hp with h | h
            · exact ⟨pre, mid, (1, n) :: r, he, h, .inl ho⟩
            · exact g2 h
          · rename_i h40
            have ho3 : Ones (mid ++ [(1, n)]) := ⟨by simp, fun q hq => by
              rcases List.mem_append.1 hq with h | h
              · exact ho.2.1 q h
              · simp at h; rw [h], by simp only [W_app, W_cons, W_nil]; omega⟩
            have g3 := wd_seg u0 r pre (mid ++ [(1, n)]) (some (W pre)) (by rw [he]; simp) hkr (.inr ⟨rfl, ho3⟩) p
            rw [show W pre + W (mid ++ [(1, n)]) = W pre + W mid + n by simp only [W_app, W_cons, W_nil]; omega] at g3
            exact g3 hp
theorem us_class (l : List UInt8) : ∀ q ∈ us l, q.1 ≤ 2 ∧ q.2 ≤ 4 := by
  induction l using dec_ind with
  | nil => simp [us_nil]
  | step l hne ih =>
    rw [us_step l hne]
    intro q hq
    rcases List.mem_cons.1 hq with rfl | h
    · have hw : (decodeL l).2 ≤ 4 := by
        rcases bad_or l hne with h | ⟨c, _, h, _⟩
        · rw [h]; decide
        · rw [h]; exact (enc_len c).2
      refine ⟨?_, hw⟩
      rw [clsN_eq]; exact kind_le2 _
    · exact ih q h
theorem us_W (l : List UInt8) : W (us l) = l.length := by
  induction l using dec_ind with
  | nil => rfl
  | step l hne ih =>
    have := decodeL_le l hne
    rw [us_step l hne, W_cons, ih, List.length_drop]
    omega
theorem us_drop : ∀ (a b : List (Nat × Nat)) (l : List UInt8), us l = a ++ b → us (l.drop (W a)) = b
  | [], b, l, h => by simpa [W_nil] using h
  | q :: a, b, l, h => by
    by_cases hne : l = []
    · subst hne; rw [us_nil] at h; simp at h
    · rw [us_step l hne, List.cons_append] at h
      injection h with h1 h2
      have := us_drop a b _ h2
      rw [List.drop_drop] at this
      rw [W_cons, ← h1]
      exact this
theorem us_take' : ∀ (a b : List (Nat × Nat)) (l : List UInt8), us l = a ++ b → us (l.take (W a)) = a
  | [], b, l, h => by simp [W_nil, us_nil]
  | q :: a, b, l, h => by
    by_cases hne : l = []
    · subst hne; rw [us_nil] at h; simp at h
    · rw [us_step l hne, List.cons_append] at h
      injection h with h1 h2
      have h3 := us_take' a b _ h2
      have hw := decodeL_width l
      have hl : 0 < l.length := List.length_pos_iff.2 hne
      have hq : q.2 = (decodeL l).2 := by rw [← h1]
      have hd := dec_take l (q.2 + W a) hne (by omega)
      have hne' : l.take (q.2 + W a) ≠ [] := by
        intro e
        have := congrArg List.length e
        rw [List.length_take, List.length_nil] at this
        omega
      rw [W_cons, us_step _ hne', hd, h1, List.drop_take, hq, Nat.add_sub_cancel_left, h3]
theorem us_cut {a b c : List (Nat × Nat)} {l : List UInt8} (h : us l = a ++ b ++ c) : us (cutL l (W a, W a + W b)) = b := by
  unfold cutL
  dsimp only
  have h1 := us_take' (a ++ b) c l h
  rw [W_app] at h1
  exact us_drop a b _ h1
/-- Each place is a segment. -/
theorem place_seg (l : List UInt8) (p : Nat × Nat) (hp : p ∈ wd (us l) 0 none) : Seg (us (cutL l p)) := by
  obtain ⟨a, b, c, h1, h2, h3⟩ := wd_seg (us l) (us l) [] [] none rfl (us_class l) (.inl ⟨rfl, rfl⟩) p hp
  rw [h2, us_cut h1]
  exact h3
/-- A word's text. -/
def IsWord (x : List UInt8) : Prop := Seg (us x) ∧ foldL x = x
theorem word_good (l : List UInt8) (x : List UInt8 × Nat × Nat) (hx : x ∈ wordsL l) : IsWord x.1 := by
  unfold wordsL at hx
  obtain ⟨p, hp, rfl⟩ := List.mem_map.1 hx
  exact ⟨by rw [us_fold]; exact place_seg l p hp, fold_fold _⟩
theorem good_ne {x : List UInt8} (h : IsWord x) : x ≠ [] := by
  rintro rfl
  rcases h.1 with ⟨h, _⟩ | ⟨n, h⟩
  · exact h us_nil
  · rw [us_nil] at h; cases h
theorem good_len {x : List UInt8} (h : IsWord x) : x.length ≤ 40 := by
  rw [← us_W]
  rcases h.1 with ⟨_, _, h⟩ | ⟨n, h⟩
  · exact h
  · have := us_class x (2, n) (by rw [h]; simp)
    rw [h, W_cons, W_nil]; dsimp only at this ⊢; omega
/-- A word's own words. -/
theorem good_words {x : List UInt8} (h : IsWord x) : wordsL x = [(x, 0, x.length)] := by
  have := wd_seg_app (us x) [] h.1 (.inl rfl) 0
  rw [List.append_nil, us_W, Nat.zero_add] at this
  unfold wordsL
  rw [this]
  simp [wd, close, cutL, h.2]
/-! ### Joined words -/
def joinL (xs : List (List UInt8)) : List UInt8 := xs.flatMap fun x => 32 :: x
theorem us_app (x y : List UInt8) (hy : ∀ b, y[0]? = some b → ¬ cont b) : us (x ++ y) = us x ++ us y := by
  induction x using dec_ind with
  | nil => rfl
  | step x hne ih =>
    have hd := decodeL_le x hne
    rw [us_step _ (by simp [hne]), dec_app x y hne hy, us_step x hne, List.cons_append, List.drop_append_of_le_length hd, ih]
theorem us_space (y : List UInt8) : us (32 :: y) = (0, 1) :: us y := by
  have h : decodeL (32 :: y) = (32, 1) := dec_enc 32 (by decide) y
  rw [us_step _ (by simp), h]
  rfl
theorem join_head (xs : List (List UInt8)) : ∀ b, (joinL xs)[0]? = some b → ¬ cont b := by
  intro b hb
  cases xs with
  | nil => simp [joinL] at hb
  | cons x r => simp [joinL] at hb; subst hb; unfold cont; decide
theorem us_join (x : List UInt8) (xs : List (List UInt8)) : us (joinL (x :: xs)) = (0, 1) :: (us x ++ us (joinL xs)) := by
  show us (32 :: (x ++ joinL xs)) = _
  rw [us_space, us_app x _ (join_head xs)]
theorem join_stops (xs : List (List UInt8)) : Stops (us (joinL xs)) := by
  cases xs with
  | nil => exact .inl rfl
  | cons x r => exact .inr ⟨1, _, us_join x r⟩
theorem join_words : ∀ (xs : List (List UInt8)) (pre : List UInt8), (∀ x ∈ xs, IsWord x) → (wd (us (joinL xs)) pre.length none).map (fun p => foldL (cutL (pre ++ joinL xs) p)) = xs
  | [], pre, _ => by simp [joinL, us_nil, wd, close]
  | x :: xs, pre, h => by
    have hx := h x (by simp)
    have ih := join_words xs (pre ++ (32 :: x)) fun y hy => h y (by simp [hy])
    rw [us_join, wd_0, wd_seg_app _ _ hx.1 (join_stops xs), us_W]
    have e : pre ++ joinL (x :: xs) = pre ++ (32 :: x) ++ joinL xs := by simp [joinL]
    have el : (pre ++ (32 :: x)).length = pre.length + 1 + x.length := by simp; omega
    rw [el] at ih
    simp only [close, List.nil_append, List.map_cons]
    rw [e, ih]
    congr 1
    have hc : cutL (pre ++ (32 :: x) ++ joinL xs) (pre.length + 1, pre.length + 1 + x.length) = x := by
      unfold cutL
      dsimp only
      rw [← el, List.take_left', show pre ++ 32 :: x = (pre ++ [32]) ++ x by simp, List.drop_left']
      · simp
      · simp
    rw [hc, hx.2]
theorem list_join (xs : List (List UInt8)) (h : ∀ x ∈ xs, IsWord x) : (wordsL (joinL xs)).map (·.1) = xs := by
  have := join_words xs [] h
  unfold wordsL
  rw [List.map_map]
  exact this
end Go.Cs

namespace Go.Cs
open Go.Lib
set_option linter.unusedVariables false
/-! ### Two texts with a separator between -/
theorem wd_sep (n : Nat) (v : List (Nat × Nat)) : ∀ (u : List (Nat × Nat)) (p : Nat) (f : Option Nat), wd (u ++ (0, n) :: v) p f = wd u p f ++ wd v (p + W u + n) none
  | [], p, f => by rw [List.nil_append, wd_0, W_nil, Nat.add_zero]; rfl
  | (k, m) :: u, p, f => by
    have h := fun f' => wd_sep n v u (p + m) f'
    simp only [List.cons_append, wd, W_cons]
    rw [h, h, ← Nat.add_assoc]
    split
    · rw [List.append_assoc]
    · split
      · simp [List.append_assoc]
      · split
        · split
          · rfl
          · rw [h]
        · rfl
def shiftP (d : Nat) (p : Nat × Nat) : Nat × Nat := (p.1 + d, p.2 + d)
theorem wd_shift (d : Nat) : ∀ (u : List (Nat × Nat)) (p : Nat) (f : Option Nat), wd u (p + d) (f.map (· + d)) = (wd u p f).map (shiftP d)
  | [], p, f => by cases f <;> simp [wd, close, shiftP]
  | (k, n) :: u, p, f => by
    have h1 := wd_shift d u (p + n) none
    have h2 := wd_shift d u (p + n) (some p)
    have e : p + d + n = p + n + d := by omega
    simp only [Option.map_none, Option.map_some] at h1 h2
    cases f with
    | none =>
      simp only [wd, Option.map_none, close, List.nil_append]
      rw [e, h1, h2]
      split
      · rfl
      · split
        · simp [shiftP]
        · rfl
    | some a =>
      have h3 := wd_shift d u (p + n) (some a)
      simp only [Option.map_some] at h3
      simp only [wd, Option.map_some, close]
      rw [e, h1, h2, h3]
      split
      · simp [shiftP]
      · split
        · simp [shiftP]
        · have : (40 < p + n + d - (a + d)) ↔ (40 < p + n - a) := by omega
          simp only [this]
          split
          · simp [shiftP]
          · rfl
def shiftW (d : Nat) (x : List UInt8 × Nat × Nat) : List UInt8 × Nat × Nat := (x.1, x.2.1 + d, x.2.2 + d)
theorem us_sep (a b : List UInt8) (c : Nat) (hc : scal c) (hk : kindN c = 0) : us (a ++ enc c ++ b) = us a ++ (0, (enc c).length) :: us b := by
  obtain ⟨x, t, he, hx, _⟩ := enc_shape c hc
  rw [List.append_assoc, us_app a _ (fun y hy => by rw [he] at hy; simp at hy; subst hy; exact hx)]
  congr 1
  have hd := dec_enc c hc b
  rw [us_step _ (by rw [he]; simp), hd, clsN_eq]
  simp only [List.drop_left', hk]
theorem words_both (a b : List UInt8) (c : Nat) (hc : scal c) (hk : kindN c = 0) : wordsL (a ++ enc c ++ b) = wordsL a ++ (wordsL b).map (shiftW (a.length + (enc c).length)) := by
  unfold wordsL
  rw [us_sep a b c hc hk, wd_sep, us_W, Nat.zero_add]
  have h := wd_shift (a.length + (enc c).length) (us b) 0 none
  rw [Nat.zero_add] at h
  have h : wd (us b) (a.length + (enc c).length) none = _ := h
  rw [h, List.map_append, List.map_map, List.map_map]
  congr 1
  · refine List.map_congr_left fun p hp => ?_
    obtain ⟨h1, h2, h3⟩ := places_bd a p hp
    have e : cutL (a ++ enc c ++ b) p = cutL a p := by
      unfold cutL
      rw [List.append_assoc, List.take_append_of_le_length h2.le]
    rw [e]
  · refine List.map_congr_left fun p hp => ?_
    have e : cutL (a ++ enc c ++ b) (shiftP (a.length + (enc c).length) p) = cutL b p := by
      unfold cutL shiftP
      dsimp only
      have hl : (a ++ enc c).length = a.length + (enc c).length := List.length_append
      rw [← hl, Nat.add_comm p.2, Nat.add_comm p.1, List.take_append, List.take_of_length_le (by omega), Nat.add_sub_cancel_left, List.drop_append, List.drop_of_length_le (by omega), Nat.add_sub_cancel_left, List.nil_append]
    show (foldL (cutL (a ++ enc c ++ b) (shiftP (a.length + (enc c).length) p)), _, _) = _
    rw [e]; rfl
end Go.Cs
namespace Go.Cs
open Go.Lib
theorem runes_one (r : Int) (h1 : (runes (encodeRune r)).length = 1) (he : (((runes (encodeRune r)).getD 0 0 : Nat) : Int) = r) : ∃ c : Nat, scal c ∧ r = (c : Int) := by
  by_cases hne : encodeRune r = []
  · rw [hne] at h1; exact absurd h1 (by decide)
  · rw [runes_step _ hne] at he
    exact ⟨(decodeL (encodeRune r)).1, dec_scal _ hne, he.symm⟩
theorem words_small (l : List UInt8) (x : List UInt8 × Nat × Nat) (hx : x ∈ wordsL l) : x.2.1 ≤ l.length ∧ x.2.2 ≤ l.length := by
  unfold wordsL at hx
  obtain ⟨p, hp, rfl⟩ := List.mem_map.1 hx
  obtain ⟨h1, h2, h3⟩ := places_bd l p hp
  exact ⟨h1.le, h2.le⟩
end Go.Cs

namespace Go.Cs
open Go.Lib
set_option linter.unusedVariables false
/-! ### Places in order, and what lies between them -/
def Zeros (u : List (Nat × Nat)) : Prop := ∀ q ∈ u, q.1 = 0
def Chain (u0 : List (Nat × Nat)) : Nat → List (Nat × Nat) → Prop
  | e, [] => ∃ a b, u0 = a ++ b ∧ W a = e ∧ Zeros b
  | e, p :: ps => ∃ a z s c, u0 = a ++ z ++ s ++ c ∧ W a = e ∧ Zeros z ∧ p = (W a + W z, W a + W z + W s) ∧ Seg s ∧ Chain u0 p.2 ps
theorem wd_chain (u0 : List (Nat × Nat)) : ∀ (r pre z mid : List (Nat × Nat)) (f : Option Nat), u0 = pre ++ z ++ mid ++ r → Zeros z → (∀ q ∈ r, q.1 ≤ 2 ∧ q.2 ≤ 4) → ((f = none ∧ mid = []) ∨ (f = some (W pre + W z) ∧ Ones mid)) →
    Chain u0 (W pre) (wd r (W pre + W z + W mid) f)
  | [], pre, z, mid, f, he, hz, _, hf => by
    rcases hf with ⟨rfl, rfl⟩ | ⟨rfl, ho⟩
    · exact ⟨pre, z, by simpa using he, rfl, hz⟩
    · refine ⟨pre, z, mid, [], he, rfl, hz, rfl, .inl ho, pre ++ z ++ mid, [], by simpa using he, by simp only [W_app], by simp [Zeros]⟩
  | (k, n) :: r, pre, z, mid, f, he, hz, hk, hf => by
    have hk0 := hk (k, n) (by simp)
    have hkr : ∀ q ∈ r, q.1 ≤ 2 ∧ q.2 ≤ 4 := fun q hq => hk q (by simp [hq])
    have nil0 : Zeros [] := by simp [Zeros]
    simp only [wd]
    split
    · rename_i h0
      subst h0
      rcases hf with ⟨rfl, rfl⟩ | ⟨rfl, ho⟩
      · have g := wd_chain u0 r pre (z ++ [(0, n)]) [] none (by rw [he]; simp) (fun q hq => by
          rcases List.mem_append.1 hq with h | h
          · exact hz q h
          · simp at h; rw [h]) hkr (.inl ⟨rfl, rfl⟩)
        simp only [W_app, W_cons, W_nil, Nat.add_zero] at g
        simp only [close, List.nil_append, W_nil, Nat.add_zero]
        rw [← Nat.add_assoc] at g
        exact g
      · have g := wd_chain u0 r (pre ++ z ++ mid) [(0, n)] [] none (by rw [he]; simp) (by simp [Zeros]) hkr (.inl ⟨rfl, rfl⟩)
        simp only [W_app, W_cons, W_nil, Nat.add_zero] at g
        exact ⟨pre, z, mid, (0, n) :: r, he, rfl, hz, rfl, .inl ho, g⟩
    · split
      · rename_i h0 h2
        subst h2
        rcases hf with ⟨rfl, rfl⟩ | ⟨rfl, ho⟩
        · have g := wd_chain u0 r (pre ++ z ++ [(2, n)]) [] [] none (by rw [he]; simp) nil0 hkr (.inl ⟨rfl, rfl⟩)
          simp only [W_app, W_cons, W_nil, Nat.add_zero] at g
          simp only [close, List.nil_append, W_nil, Nat.add_zero]
          exact ⟨pre, z, [(2, n)], r, by rw [he]; simp, rfl, hz, by simp only [W_cons, W_nil, Nat.add_zero], .inr ⟨n, rfl⟩, g⟩
        · have g := wd_chain u0 r (pre ++ z ++ mid ++ [(2, n)]) [] [] none (by rw [he]; simp) nil0 hkr (.inl ⟨rfl, rfl⟩)
          simp only [W_app, W_cons, W_nil, Nat.add_zero] at g
          refine ⟨pre, z, mid, (2, n) :: r, he, rfl, hz, rfl, .inl ho, pre ++ z ++ mid, [], [(2, n)], r, by rw [he]; simp, by simp only [W_app], nil0, by simp only [W_app, W_cons, W_nil, Nat.add_zero], .inr ⟨n, rfl⟩, g⟩
      · rename_i h0 h2
        have hk1 : k = 1 := by dsimp only at hk0; omega
        subst hk1
        have hone : Ones [(1, n)] := ⟨by simp, by simp, by simp only [W_cons, W_nil]; dsimp only at hk0 ⊢; omega⟩
        rcases hf with ⟨rfl, rfl⟩ | ⟨rfl, ho⟩
        · have g := wd_chain u0 r pre z [(1, n)] _ (by rw [he]; simp) hz hkr (.inr ⟨rfl, hone⟩)
          simp only [W_cons, W_nil, Nat.add_zero] at g ⊢
          exact g
        · simp only
          split
          · rename_i h40
            have g := wd_chain u0 r (pre ++ z ++ mid) [] [(1, n)] _ (by rw [he]; simp) nil0 hkr (.inr ⟨rfl, hone⟩)
            simp only [W_app, W_cons, W_nil, Nat.add_zero] at g
            exact ⟨pre, z, mid, (1, n) :: r, he, rfl, hz, rfl, .inl ho, g⟩
          · rename_i h40
            have ho3 : Ones (mid ++ [(1, n)]) := ⟨by simp, fun q hq => by
              rcases List.mem_append.1 hq with h | h
              · exact ho.2.1 q h
              · simp at h; rw [h], by simp only [W_app, W_cons, W_nil]; omega⟩
            have g := wd_chain u0 r pre z (mid ++ [(1, n)]) _ (by rw [he]; simp) hz hkr (.inr ⟨rfl, ho3⟩)
            simp only [W_app, W_cons, W_nil, Nat.add_zero] at g
            rw [← Nat.add_assoc] at g
            exact g
/-- Classes and code points. -/
theorem us_runes (l : List UInt8) : (us l).map (·.1) = (runes l).map kindN := by
  induction l using dec_ind with
  | nil => rfl
  | step l hne ih =>
    rw [us_step l hne, runes_step l hne, List.map_cons, List.map_cons, ih, clsN_eq]
def lettersB (l : List UInt8) : Bool := decide (runes l ≠ []) && (runes l).all fun c => decide (kindN c ≠ 0)
def noneB (l : List UInt8) : Bool := (runes l).all fun c => decide (kindN c = 0)
theorem none_of {l : List UInt8} (h : Zeros (us l)) : noneB l = true := by
  unfold noneB
  rw [List.all_eq_true]
  intro c hc
  have : kindN c ∈ (us l).map (·.1) := by rw [us_runes]; exact List.mem_map_of_mem hc
  obtain ⟨q, hq, e⟩ := List.mem_map.1 this
  rw [← e, h q hq]; rfl
theorem letters_of {l : List UInt8} (h : Seg (us l)) : lettersB l = true := by
  unfold lettersB
  have hall : ∀ q ∈ us l, q.1 ≠ 0 := by
    rcases h with ⟨_, h, _⟩ | ⟨n, h⟩
    · intro q hq; rw [h q hq]; decide
    · intro q hq; rw [h] at hq; simp at hq; rw [hq]; show (2 : Nat) ≠ 0; decide
  have hne : us l ≠ [] := by
    rcases h with ⟨h, _⟩ | ⟨n, h⟩
    · exact h
    · rw [h]; simp
  rw [Bool.and_eq_true, List.all_eq_true, decide_eq_true_eq]
  refine ⟨fun e => ?_, fun c hc => ?_⟩
  · have := us_runes l
    rw [e] at this
    exact hne (List.map_eq_nil_iff.1 this)
  · have : kindN c ∈ (us l).map (·.1) := by rw [us_runes]; exact List.mem_map_of_mem hc
    obtain ⟨q, hq, e⟩ := List.mem_map.1 this
    rw [← e]; exact decide_eq_true (hall q hq)
end Go.Cs

namespace Go.Cs
open Go.Lib
set_option linter.unusedVariables false
/-! ### The reference's pieces, runes, places: plain -/
/-- The pieces of a text. -/
def unF : Nat → List UInt8 → List (List UInt8)
  | 0, _ => []
  | _ + 1, [] => []
  | n + 1, b :: t => (b :: t).take (decodeL (b :: t)).2 :: unF n ((b :: t).drop (decodeL (b :: t)).2)
def units (l : List UInt8) : List (List UInt8) := unF l.length l
theorem unF_fuel : ∀ (n m : Nat) (l : List UInt8), l.length ≤ n → l.length ≤ m → unF n l = unF m l
  | 0, m, l, hn, _ => by
    have : l = [] := List.eq_nil_of_length_eq_zero (by omega)
    subst this
    cases m <;> rfl
  | n + 1, 0, l, _, hm => by
    have : l = [] := List.eq_nil_of_length_eq_zero (by omega)
    subst this; rfl
  | n + 1, m + 1, [], _, _ => rfl
  | n + 1, m + 1, b :: t, hn, hm => by
    have hw := decodeL_width (b :: t)
    simp only [unF]
    rw [unF_fuel n m _ (by rw [List.length_drop]; omega) (by rw [List.length_drop]; omega)]
theorem units_nil : units [] = [] := rfl
theorem units_step (l : List UInt8) (hne : l ≠ []) : units l = l.take (decodeL l).2 :: units (l.drop (decodeL l).2) := by
  obtain ⟨b, t, rfl⟩ := List.exists_cons_of_ne_nil hne
  have hw := decodeL_width (b :: t)
  show (b :: t).take (decodeL (b :: t)).2 :: unF t.length _ = _
  rw [unF_fuel t.length ((b :: t).drop (decodeL (b :: t)).2).length _ (by rw [List.length_drop, List.length_cons]; omega) (Nat.le_refl _)]
  rfl
theorem units_flat (l : List UInt8) : (units l).flatten = l := by
  induction l using dec_ind with
  | nil => rfl
  | step l hne ih => rw [units_step l hne, List.flatten_cons, ih, List.take_append_drop]
/-- A piece of a text. -/
def IsUnit (u : List UInt8) : Prop := u ≠ [] ∧ (decodeL u).2 = u.length
theorem isUnit_take (l : List UInt8) (hne : l ≠ []) : IsUnit (l.take (decodeL l).2) ∧ decodeL (l.take (decodeL l).2) = decodeL l := by
  have hw := decodeL_width l
  have hl := decodeL_le l hne
  have h0 := List.length_pos_iff.2 hne
  have h := dec_take l (decodeL l).2 hne (Nat.le_refl _)
  refine ⟨⟨fun e => ?_, ?_⟩, h⟩
  · have := congrArg List.length e
    rw [List.length_take, List.length_nil] at this; omega
  · rw [h, List.length_take]; omega
theorem units_unit (l : List UInt8) : ∀ u ∈ units l, IsUnit u := by
  induction l using dec_ind with
  | nil => intro u hu; cases hu
  | step l hne ih =>
    intro u hu
    rw [units_step l hne] at hu
    rcases List.mem_cons.1 hu with rfl | hu
    · exact (isUnit_take l hne).1
    · exact ih u hu
theorem units_us (l : List UInt8) : us l = (units l).map fun u => (clsN (decodeL u), u.length) := by
  induction l using dec_ind with
  | nil => rfl
  | step l hne ih =>
    have hl := decodeL_le l hne
    rw [units_step l hne, us_step l hne, List.map_cons, ih, (isUnit_take l hne).2, List.length_take, Nat.min_eq_left hl]
theorem units_fold (l : List UInt8) : foldL l = (units l).flatMap head1 := by
  induction l using dec_ind with
  | nil => rfl
  | step l hne ih =>
    have hl := decodeL_le l hne
    have hw := decodeL_width l
    rw [units_step l hne, foldL_step l hne, List.flatMap_cons, ih]
    congr 1
    unfold head1
    rw [(isUnit_take l hne).2]
    obtain ⟨b, t, rfl⟩ := List.exists_cons_of_ne_nil hne
    congr 2
    obtain ⟨k, hk⟩ : ∃ k, (decodeL (b :: t)).2 = k + 1 := ⟨(decodeL (b :: t)).2 - 1, by omega⟩
    rw [hk]; rfl
theorem units_len (l : List UInt8) : (units l).length ≤ l.length := by
  induction l using dec_ind with
  | nil => exact Nat.le_refl _
  | step l hne ih =>
    have hw := decodeL_width l
    have hl := decodeL_le l hne
    rw [List.length_drop] at ih
    rw [units_step l hne, List.length_cons]; omega
/-- A rune put together from a piece, as the reference does. -/
def runeU (u : List UInt8) : Nat :=
  if u.length = 1 then (u.getD 0 0).toNat
  else if u.length = 2 then (u.getD 0 0).toNat % 32 * 64 + (u.getD 1 0).toNat % 64
  else if u.length = 3 then (u.getD 0 0).toNat % 16 * 4096 + (u.getD 1 0).toNat % 64 * 64 + (u.getD 2 0).toNat % 64
  else (u.getD 0 0).toNat % 8 * 262144 + (u.getD 1 0).toNat % 64 * 4096 + (u.getD 2 0).toNat % 64 * 64 + (u.getD 3 0).toNat % 64
/-- What the reference asks of a piece of n bytes at the head of l. -/
def need (l : List UInt8) : Nat := if 194 ≤ (l.getD 0 0).toNat ∧ (l.getD 0 0).toNat ≤ 223 then 2 else if 224 ≤ (l.getD 0 0).toNat ∧ (l.getD 0 0).toNat ≤ 239 then 3 else if 240 ≤ (l.getD 0 0).toNat ∧ (l.getD 0 0).toNat ≤ 244 then 4 else 1
def lowN (n : Nat) : Nat := if n = 2 then 128 else if n = 3 then 2048 else if n = 4 then 65536 else 0
def contB (l : List UInt8) (i : Nat) : Prop := 128 ≤ (l.getD i 0).toNat ∧ (l.getD i 0).toNat ≤ 191
instance (l : List UInt8) (i : Nat) : Decidable (contB l i) := by unfold contB; infer_instance
theorem getD_take (l : List UInt8) (n i : Nat) (h : i < n) : (l.take n).getD i 0 = l.getD i 0 := by
  rw [List.getD_eq_getElem?_getD, List.getD_eq_getElem?_getD, List.getElem?_take_of_lt h]
def badC (l : List UInt8) (n : Nat) : Prop := (2 ≤ n ∧ ¬ contB l 1) ∨ (3 ≤ n ∧ ¬ contB l 2) ∨ (4 ≤ n ∧ ¬ contB l 3)
instance (l : List UInt8) (n : Nat) : Decidable (badC l n) := by unfold badC; infer_instance
/-- The width of a step, as the reference finds it. -/
def refLen (l : List UInt8) : Nat :=
  if need l = 1 ∨ l.length < need l then 1
  else if badC l (need l) then 1
  else if runeU (l.take (need l)) < lowN (need l) ∨ 1114111 < runeU (l.take (need l)) ∨ (55296 ≤ runeU (l.take (need l)) ∧ runeU (l.take (need l)) ≤ 57343) then 1
  else need l
theorem runeU2 (l : List UInt8) (h : 2 ≤ l.length) : runeU (l.take 2) = (l.getD 0 0).toNat % 32 * 64 + (l.getD 1 0).toNat % 64 := by
  unfold runeU
  rw [List.length_take, Nat.min_eq_left h, if_neg (by omega), if_pos rfl, getD_take l 2 0 (by omega), getD_take l 2 1 (by omega)]
theorem runeU3 (l : List UInt8) (h : 3 ≤ l.length) : runeU (l.take 3) = (l.getD 0 0).toNat % 16 * 4096 + (l.getD 1 0).toNat % 64 * 64 + (l.getD 2 0).toNat % 64 := by
  unfold runeU
  rw [List.length_take, Nat.min_eq_left h, if_neg (by omega), if_neg (by omega), if_pos rfl, getD_take l 3 0 (by omega), getD_take l 3 1 (by omega), getD_take l 3 2 (by omega)]
theorem runeU4 (l : List UInt8) (h : 4 ≤ l.length) : runeU (l.take 4) = (l.getD 0 0).toNat % 8 * 262144 + (l.getD 1 0).toNat % 64 * 4096 + (l.getD 2 0).toNat % 64 * 64 + (l.getD 3 0).toNat % 64 := by
  unfold runeU
  rw [List.length_take, Nat.min_eq_left h, if_neg (by omega), if_neg (by omega), if_neg (by omega), getD_take l 4 0 (by omega), getD_take l 4 1 (by omega), getD_take l 4 2 (by omega), getD_take l 4 3 (by omega)]
set_option maxHeartbeats 4000000 in
theorem refLen_eq (l : List UInt8) (hne : l ≠ []) : refLen l = (decodeL l).2 ∧ (decodeL l = (65533, 1) ∨ runeU (l.take (decodeL l).2) = (decodeL l).1) := by
  have hl0 : 0 < l.length := List.length_pos_iff.2 hne
  rw [decodeL_N]
  unfold refLen
  have h0 := UInt8.toNat_lt (l.getD 0 0)
  have hr1 : runeU (l.take 1) = (l.getD 0 0).toNat := by
    unfold runeU
    rw [List.length_take, Nat.min_eq_left hl0, if_pos rfl, getD_take l 1 0 (by omega)]
  have hr2 := runeU2 l
  have hr3 := runeU3 l
  have hr4 := runeU4 l
  have hc1 : contB l 1 ↔ (128 ≤ (l.getD 1 0).toNat ∧ (l.getD 1 0).toNat ≤ 191) := Iff.rfl
  have hc2 : contB l 2 ↔ (128 ≤ (l.getD 2 0).toNat ∧ (l.getD 2 0).toNat ≤ 191) := Iff.rfl
  have hc3 : contB l 3 ↔ (128 ≤ (l.getD 3 0).toNat ∧ (l.getD 3 0).toNat ≤ 191) := Iff.rfl
  have hnd : need l = if 194 ≤ (l.getD 0 0).toNat ∧ (l.getD 0 0).toNat ≤ 223 then 2 else if 224 ≤ (l.getD 0 0).toNat ∧ (l.getD 0 0).toNat ≤ 239 then 3 else if 240 ≤ (l.getD 0 0).toNat ∧ (l.getD 0 0).toNat ≤ 244 then 4 else 1 := rfl
  have h1 := UInt8.toNat_lt (l.getD 1 0)
  have h2 := UInt8.toNat_lt (l.getD 2 0)
  have h3 := UInt8.toNat_lt (l.getD 3 0)
  generalize (l.getD 0 0).toNat = x0 at *
  generalize (l.getD 1 0).toNat = x1 at *
  generalize (l.getD 2 0).toNat = x2 at *
  generalize (l.getD 3 0).toNat = x3 at *
  generalize l.length = n at *
  by_cases hA : x0 < 128
  · have hD : decodeN n x0 x1 x2 x3 = (x0, 1) := by unfold decodeN; rw [if_pos hA]
    rw [hD, if_pos (.inl (by rw [hnd, if_neg (by omega), if_neg (by omega), if_neg (by omega)]))]
    exact ⟨rfl, .inr hr1⟩
  by_cases hB : 194 ≤ x0 ∧ x0 ≤ 223
  · rw [if_pos hB] at hnd
    rw [hnd]
    by_cases hl : n < 2
    · have hD : decodeN n x0 x1 x2 x3 = (65533, 1) := by unfold decodeN; rw [if_neg (by omega), if_neg (by omega), if_neg (by omega), if_neg (by omega)]
      rw [hD, if_pos (.inr hl)]
      exact ⟨rfl, .inl rfl⟩
    have hb2 : badC l 2 ↔ ¬ contB l 1 := by unfold badC; simp
    by_cases hc : 128 ≤ x1 ∧ x1 ≤ 191
    · have hD : decodeN n x0 x1 x2 x3 = (x0 % 32 * 64 + x1 % 64, 2) := by unfold decodeN; rw [if_neg hA, if_pos (by omega), if_pos (by omega)]
      rw [hD, if_neg (by omega), if_neg (fun h => hb2.1 h (hc1.2 hc)), hr2 (by omega), show lowN 2 = 128 from rfl, if_neg (by omega)]
      exact ⟨rfl, .inr rfl⟩
    · have hD : decodeN n x0 x1 x2 x3 = (65533, 1) := by unfold decodeN; rw [if_neg hA, if_neg (by omega), if_neg (by omega), if_neg (by omega)]
      rw [hD, if_neg (by omega), if_pos (hb2.2 fun h => hc (hc1.1 h))]
      exact ⟨rfl, .inl rfl⟩
  by_cases hC : 224 ≤ x0 ∧ x0 ≤ 239
  · rw [if_neg hB, if_pos hC] at hnd
    rw [hnd]
    by_cases hl : n < 3
    · have hD : decodeN n x0 x1 x2 x3 = (65533, 1) := by unfold decodeN; rw [if_neg (by omega), if_neg (by omega), if_neg (by omega), if_neg (by omega)]
      rw [hD, if_pos (.inr hl)]
      exact ⟨rfl, .inl rfl⟩
    have hb3 : badC l 3 ↔ (¬ contB l 1 ∨ ¬ contB l 2) := by unfold badC; simp
    by_cases hc : (128 ≤ x1 ∧ x1 ≤ 191) ∧ 128 ≤ x2 ∧ x2 ≤ 191
    · rw [if_neg (by omega), if_neg (fun h => (hb3.1 h).elim (fun h => h (hc1.2 hc.1)) (fun h => h (hc2.2 hc.2))), hr3 (by omega), show lowN 3 = 2048 from rfl]
      by_cases hv : x0 % 16 * 4096 + x1 % 64 * 64 + x2 % 64 < 2048 ∨ 1114111 < x0 % 16 * 4096 + x1 % 64 * 64 + x2 % 64 ∨ (55296 ≤ x0 % 16 * 4096 + x1 % 64 * 64 + x2 % 64 ∧ x0 % 16 * 4096 + x1 % 64 * 64 + x2 % 64 ≤ 57343)
      · have hD : decodeN n x0 x1 x2 x3 = (65533, 1) := by unfold decodeN; rw [if_neg hA, if_neg (by omega), if_pos (by omega), if_neg (by omega)]
        rw [if_pos hv, hD]
        exact ⟨rfl, .inl rfl⟩
      · have hD : decodeN n x0 x1 x2 x3 = (x0 % 16 * 4096 + x1 % 64 * 64 + x2 % 64, 3) := by unfold decodeN; rw [if_neg hA, if_neg (by omega), if_pos (by omega), if_pos (by omega)]
        rw [if_neg hv, hD]
        exact ⟨rfl, .inr (hr3 (by omega))⟩
    · have hD : decodeN n x0 x1 x2 x3 = (65533, 1) := by unfold decodeN; rw [if_neg hA, if_neg (by omega), if_neg (by omega), if_neg (by omega)]
      rw [hD, if_neg (by omega), if_pos (by rw [hb3, hc1, hc2]; omega)]
      exact ⟨rfl, .inl rfl⟩
  by_cases hD4 : 240 ≤ x0 ∧ x0 ≤ 244
  · rw [if_neg hB, if_neg hC, if_pos hD4] at hnd
    rw [hnd]
    by_cases hl : n < 4
    · have hD : decodeN n x0 x1 x2 x3 = (65533, 1) := by unfold decodeN; rw [if_neg (by omega), if_neg (by omega), if_neg (by omega), if_neg (by omega)]
      rw [hD, if_pos (.inr hl)]
      exact ⟨rfl, .inl rfl⟩
    have hb4 : badC l 4 ↔ (¬ contB l 1 ∨ ¬ contB l 2 ∨ ¬ contB l 3) := by unfold badC; simp
    by_cases hc : (128 ≤ x1 ∧ x1 ≤ 191) ∧ (128 ≤ x2 ∧ x2 ≤ 191) ∧ 128 ≤ x3 ∧ x3 ≤ 191
    · rw [if_neg (by omega), if_neg (fun h => (hb4.1 h).elim (fun h => h (hc1.2 hc.1)) (fun h => h.elim (fun h => h (hc2.2 hc.2.1)) (fun h => h (hc3.2 hc.2.2)))), hr4 (by omega), show lowN 4 = 65536 from rfl]
      by_cases hv : x0 % 8 * 262144 + x1 % 64 * 4096 + x2 % 64 * 64 + x3 % 64 < 65536 ∨ 1114111 < x0 % 8 * 262144 + x1 % 64 * 4096 + x2 % 64 * 64 + x3 % 64
      · have hD : decodeN n x0 x1 x2 x3 = (65533, 1) := by unfold decodeN; rw [if_neg hA, if_neg (by omega), if_neg (by omega), if_pos (by omega), if_neg (by omega)]
        rw [if_pos (by omega), hD]
        exact ⟨rfl, .inl rfl⟩
      · have hD : decodeN n x0 x1 x2 x3 = (x0 % 8 * 262144 + x1 % 64 * 4096 + x2 % 64 * 64 + x3 % 64, 4) := by unfold decodeN; rw [if_neg hA, if_neg (by omega), if_neg (by omega), if_pos (by omega), if_pos (by omega)]
        rw [if_neg (by omega), hD]
        exact ⟨rfl, .inr (hr4 (by omega))⟩
    · have hD : decodeN n x0 x1 x2 x3 = (65533, 1) := by unfold decodeN; rw [if_neg hA, if_neg (by omega), if_neg (by omega), if_neg (by omega)]
      rw [hD, if_neg (by omega), if_pos (by rw [hb4, hc1, hc2, hc3]; omega)]
      exact ⟨rfl, .inl rfl⟩
  · rw [if_neg hB, if_neg hC, if_neg hD4] at hnd
    rw [if_pos (.inl hnd)]
    have hD : decodeN n x0 x1 x2 x3 = (65533, 1) := by
      unfold decodeN
      rw [if_neg hA]
      have h1 : ¬ (x0 / 16 = 14) := by omega
      have h2 : ¬ (x0 % 8 * 262144 + x1 % 64 * 4096 + x2 % 64 * 64 + x3 % 64 ≥ 65536 ∧ (x0 % 8 * 262144 + x1 % 64 * 4096 + x2 % 64 * 64 + x3 % 64 < 55296 ∨ (57344 ≤ x0 % 8 * 262144 + x1 % 64 * 4096 + x2 % 64 * 64 + x3 % 64 ∧ x0 % 8 * 262144 + x1 % 64 * 4096 + x2 % 64 * 64 + x3 % 64 ≤ 1114111))) ∨ ¬ x0 / 8 = 30 := by omega
      by_cases ha : x0 / 32 = 6 ∧ (1 < n ∧ x1 / 64 = 2)
      · rw [if_pos ha, if_neg (by omega)]
      rw [if_neg ha, if_neg (fun h => h1 h.1)]
      split
      · rename_i h
        rcases h2 with h2 | h2
        · rw [if_neg h2]
        · exact (h2 h.1).elim
      · rfl
    rw [hD]
    exact ⟨rfl, .inl rfl⟩
theorem enc_len' (c : Nat) (h1 : ¬ c < 128) : 2 ≤ (enc c).length := by
  unfold enc encodeRune
  by_cases h2 : c ≤ 2047
  · rw [encodeRuneZ_two (by omega) (by omega)]; simp
  by_cases hb : (55296 ≤ c ∧ c ≤ 57343) ∨ 1114111 < c
  · rw [encodeRuneZ_bad (by omega)]; simp
  by_cases h3 : c ≤ 65535
  · rw [encodeRuneZ_three (by omega)]; simp
  · rw [encodeRuneZ_four (by omega) (by omega)]; simp
/-- The class of a piece, as the reference finds it. -/
def clsU (u : List UInt8) : Nat := if u.length = 1 ∧ 128 ≤ (u.getD 0 0).toNat then 0 else kindN (runeU u)
theorem dec_one (l : List UInt8) (h : (decodeL l).2 = 1) (hne : l ≠ []) : (128 ≤ (l.getD 0 0).toNat ∧ decodeL l = (65533, 1)) ∨ ((l.getD 0 0).toNat < 128 ∧ decodeL l = ((l.getD 0 0).toNat, 1)) := by
  by_cases h0 : (l.getD 0 0).toNat < 128
  · refine .inr ⟨h0, ?_⟩
    rw [decodeL_N]; unfold decodeN; rw [if_pos h0]
  · refine .inl ⟨by omega, ?_⟩
    rcases dec_whole l hne with h' | ⟨h1, h2, h3, _⟩
    · exact h'
    · exfalso
      rw [h] at h2 h3
      have hl0 : 0 < l.length := List.length_pos_iff.2 hne
      have hd := dec_enc _ h1 (l.drop 1)
      rw [← h2, List.take_append_drop] at hd
      have h4 : (decodeL l).1 < 128 ∨ ¬ (decodeL l).1 < 128 := by omega
      rcases h4 with h4 | h4
      · rw [enc1 h4] at h2
        have := congrArg (fun x => (x.getD 0 0).toNat) h2
        simp only [getD_take l 1 0 (by omega), List.getD_cons_zero] at this
        rw [this] at h0
        simp at h0
        omega
      · have := enc_len' _ h4
        omega
theorem clsU_eq (u : List UInt8) (h : IsUnit u) : clsU u = clsN (decodeL u) := by
  obtain ⟨hne, hu⟩ := h
  have ht : u.take (decodeL u).2 = u := by rw [hu, List.take_length]
  obtain ⟨_, hr⟩ := refLen_eq u hne
  rw [ht] at hr
  rw [clsN_eq]
  unfold clsU
  by_cases h1 : u.length = 1
  · rcases dec_one u (by omega) hne with ⟨h2, h3⟩ | ⟨h2, h3⟩
    · rw [if_pos ⟨h1, h2⟩, h3]; rfl
    · rw [if_neg (by omega), h3]
      unfold runeU; rw [if_pos h1]
  · rw [if_neg (by omega)]
    rcases hr with hr | hr
    · rw [hr] at hu; exact (h1 hu.symm).elim
    · rw [hr]
/-- The reference's places. -/
def refW : List (Nat × Nat) → Nat → List (Nat × Nat) → Bool → List (Nat × Nat)
  | [], _, out, _ => out
  | (k, n) :: r, at_, out, op =>
    refW r (at_ + n) (if k = 1 ∧ op = true ∧ (out.getLastD (0, 0)).2 - (out.getLastD (0, 0)).1 + n ≤ 40 then out.dropLast ++ [((out.getLastD (0, 0)).1, (out.getLastD (0, 0)).2 + n)] else if 0 < k then out ++ [(at_, at_ + n)] else out) (decide (k = 1))
theorem refW_eq : ∀ (u : List (Nat × Nat)), (∀ q ∈ u, q.1 ≤ 2) → ∀ (p : Nat) (C : List (Nat × Nat)), refW u p C false = C ++ wd u p none ∧ ∀ a, a ≤ p → refW u p (C ++ [(a, p)]) true = C ++ wd u p (some a)
  | [], _, p, C => ⟨by simp [refW, wd, close], fun a ha => by simp [refW, wd, close]⟩
  | (k, n) :: r, hk, p, C => by
    have ih := refW_eq r fun q hq => hk q (by simp [hq])
    have hk0 : k ≤ 2 := hk (k, n) (by simp)
    have h012 : k = 0 ∨ k = 1 ∨ k = 2 := by omega
    rcases h012 with rfl | rfl | rfl
    · refine ⟨?_, fun a ha => ?_⟩
      · rw [refW, if_neg (by omega), if_neg (by omega), wd_0, show decide ((0 : Nat) = 1) = false from rfl, (ih _ _).1]; rfl
      · rw [refW, if_neg (by omega), if_neg (by omega), wd_0, show decide ((0 : Nat) = 1) = false from rfl, (ih _ _).1]
        simp [close]
    · refine ⟨?_, fun a ha => ?_⟩
      · rw [refW, if_neg (by simp), if_pos (by omega), wd_1n, show decide ((1 : Nat) = 1) = true from rfl, (ih _ _).2 p (by omega)]
      · rw [refW, wd_1s, show decide ((1 : Nat) = 1) = true from rfl, List.getLastD_concat, List.dropLast_concat]
        by_cases h40 : 40 < p + n - a
        · rw [if_neg (by simp; omega), if_pos (by omega), if_pos h40, (ih _ _).2 p (by omega)]
          simp
        · rw [if_pos ⟨rfl, rfl, by simp; omega⟩, if_neg h40, (ih _ _).2 a (by omega)]
    · refine ⟨?_, fun a ha => ?_⟩
      · rw [refW, if_neg (by omega), if_pos (by omega), wd_2, show decide ((2 : Nat) = 1) = false from rfl, (ih _ _).1]
        simp [close]
      · rw [refW, if_neg (by omega), if_pos (by omega), wd_2, show decide ((2 : Nat) = 1) = false from rfl, (ih _ _).1]
        simp [close]
end Go.Cs

namespace Go.Cs
open Go.Lib
set_option linter.unusedVariables false
/-! ### A piece in lower case, by its length -/
theorem enc_by_len (c : Nat) : (c < 128 ∧ (enc c).length = 1) ∨ (128 ≤ c ∧ c ≤ 2047 ∧ (enc c).length = 2) ∨ (2048 ≤ c ∧ 3 ≤ (enc c).length) := by
  unfold enc encodeRune
  by_cases h1 : c < 128
  · rw [encodeRuneZ_one (by omega) (by omega)]; exact .inl ⟨h1, rfl⟩
  by_cases h2 : c ≤ 2047
  · rw [encodeRuneZ_two (by omega) (by omega)]; exact .inr (.inl ⟨by omega, h2, rfl⟩)
  refine .inr (.inr ⟨by omega, ?_⟩)
  by_cases hb : (55296 ≤ c ∧ c ≤ 57343) ∨ 1114111 < c
  · rw [encodeRuneZ_bad (by omega)]; simp
  by_cases h3 : c ≤ 65535
  · rw [encodeRuneZ_three (by omega)]; simp
  · rw [encodeRuneZ_four (by omega) (by omega)]; simp
set_option maxRecDepth 100000 in
theorem low_128' : ∀ r : Fin 128, lowC r.val < 128 := by decide +kernel
theorem low_128 (c : Nat) (h : c < 128) : lowC c < 128 := low_128' ⟨c, h⟩
theorem low_2048 (c : Nat) (h : c ≤ 2047) (h1 : 128 ≤ c) : 128 ≤ lowC c ∧ lowC c ≤ 2047 := by
  have h2 := low_len c
  have h3 := enc_by_len c
  have h4 := enc_by_len (lowC c)
  omega
theorem unit_parts (u : List UInt8) (h : IsUnit u) : (∃ b, u = [b] ∧ 128 ≤ b.toNat ∧ decodeL u = (65533, 1) ∧ head1 u = [b]) ∨ (u = enc (runeU u) ∧ head1 u = enc (lowC (runeU u)) ∧ decodeL u = (runeU u, u.length)) := by
  obtain ⟨hne, hu⟩ := h
  obtain ⟨_, hr⟩ := refLen_eq u hne
  have ht : u.take (decodeL u).2 = u := by rw [hu, List.take_length]
  rw [ht] at hr
  rcases dec_whole u hne with hb | ⟨h1, h2, h3, h4⟩
  · left
    have h1 : u.length = 1 := by rw [← hu, hb]
    obtain ⟨b, rfl⟩ : ∃ b, u = [b] := by
      match u, h1 with
      | [b], _ => exact ⟨b, rfl⟩
    refine ⟨b, rfl, ?_, hb, by unfold head1; rw [if_pos ⟨by rw [hb], by rw [hb]⟩]; rfl⟩
    rcases dec_one [b] (by rw [hb]) hne with ⟨h, _⟩ | ⟨h, h'⟩
    · exact h
    · rw [hb] at h'; simp at h'
      simp at h; omega
  · right
    have hc : runeU u = (decodeL u).1 := by
      rcases hr with hr | hr
      · rw [hr] at h4; exact (h4 ⟨rfl, rfl⟩).elim
      · exact hr
    rw [hc]
    refine ⟨by rw [← h2, ht], by unfold head1; rw [if_neg h4], by rw [← hu]⟩
theorem unit1 (u : List UInt8) (h : IsUnit u) (h1 : u.length = 1) : ∃ b, u = [b] ∧ ((128 ≤ b.toNat ∧ head1 u = [b]) ∨ (b.toNat < 128 ∧ lowC b.toNat < 128 ∧ head1 u = [UInt8.ofNat (lowC b.toNat)])) := by
  rcases unit_parts u h with ⟨b, e, hb, _, hh⟩ | ⟨e, hh, _⟩
  · exact ⟨b, e, .inl ⟨hb, hh⟩⟩
  · obtain ⟨b, rfl⟩ : ∃ b, u = [b] := by
      match u, h1 with
      | [b], _ => exact ⟨b, rfl⟩
    have hr : runeU [b] = b.toNat := rfl
    rw [hr] at e hh
    have hl := congrArg List.length e
    have h3 := enc_by_len b.toNat
    simp at hl
    refine ⟨b, rfl, .inr ⟨by omega, low_128 _ (by omega), ?_⟩⟩
    rw [hh, enc1 (low_128 _ (by omega))]
theorem unit2 (u : List UInt8) (h : IsUnit u) (h2 : u.length = 2) : 128 ≤ lowC (runeU u) ∧ lowC (runeU u) ≤ 2047 ∧ runeU u ≤ 2047 ∧ head1 u = [UInt8.ofNat (192 + lowC (runeU u) / 64), UInt8.ofNat (128 + lowC (runeU u) % 64)] := by
  rcases unit_parts u h with ⟨b, e, hb, _, hh⟩ | ⟨e, hh, _⟩
  · rw [e] at h2; simp at h2
  · have hl := congrArg List.length e
    have h3 := enc_by_len (runeU u)
    have h4 := low_2048 (runeU u) (by omega) (by omega)
    refine ⟨h4.1, h4.2, by omega, ?_⟩
    rw [hh]
    unfold enc encodeRune
    rw [encodeRuneZ_two (by omega) (by omega)]
    simp only [List.map_cons, List.map_nil]
    rw [← b2 (192 + lowC (runeU u) / 64) _ (by omega), ← b2 (128 + lowC (runeU u) % 64) _ (by omega)]
theorem unit3 (u : List UInt8) (h : IsUnit u) (h3 : 3 ≤ u.length) : head1 u = u := by
  rcases unit_parts u h with ⟨b, e, hb, _, hh⟩ | ⟨e, hh, _⟩
  · rw [e] at h3; simp at h3
  · have hl := congrArg List.length e
    have h4 := enc_by_len (runeU u)
    rw [hh, low_big _ (by omega), ← e]
theorem unit_le4 (u : List UInt8) (h : IsUnit u) : u.length ≤ 4 := by
  rw [← h.2]; exact dec_le4 u h.1
end Go.Cs

namespace Go.Cs
open Go.Lib
set_option linter.unusedVariables false
/-! ### One long word -/
def chk (M a : Nat) : List (Nat × Nat) := (List.range ((M + 39) / 40)).map fun i => (a + 40 * i, min (a + 40 * i + 40) (a + M))
theorem chk_small (M a : Nat) (h0 : 0 < M) (h : M ≤ 40) : chk M a = [(a, a + M)] := by
  unfold chk
  rw [show (M + 39) / 40 = 1 by omega]
  simp only [List.range_succ, List.range_zero, List.nil_append, List.map_cons, List.map_nil, List.cons.injEq, and_true, Prod.mk.injEq]
  omega
theorem chk_big (M a : Nat) (h : 40 < M) : chk M a = (a, a + 40) :: chk (M - 40) (a + 40) := by
  unfold chk
  rw [show (M + 39) / 40 = (M - 40 + 39) / 40 + 1 by omega, List.range_succ_eq_map, List.map_cons, List.map_map]
  congr 1
  · simp only [Prod.mk.injEq]; omega
  · refine List.map_congr_left fun i _ => ?_
    simp only [Function.comp, Prod.mk.injEq]
    omega
theorem wd_long : ∀ (m p a : Nat), a < p → p ≤ a + 40 → wd (List.replicate m (1, 1) ++ [(0, 1)]) p (some a) = chk (p - a + m) a
  | 0, p, a, h1, h2 => by
    rw [List.replicate_zero, List.nil_append, wd_0, chk_small _ _ (by omega) (by omega)]
    rw [show a + (p - a + 0) = p by omega]; rfl
  | m + 1, p, a, h1, h2 => by
    rw [List.replicate_succ, List.cons_append, wd_1s]
    split
    · rename_i h
      rw [wd_long m (p + 1) p (by omega) (by omega), chk_big (p - a + (m + 1)) a (by omega)]
      have : p = a + 40 := by omega
      subst this
      rw [show a + 40 + 1 - (a + 40) + m = a + 40 - a + (m + 1) - 40 by omega]
    · rw [wd_long m (p + 1) a (by omega) (by omega), show p + 1 - a + m = p - a + (m + 1) by omega]
def low1 (c : UInt8) : Prop := 97 ≤ c.toNat ∧ c.toNat ≤ 122
theorem low1_enc : ∀ n : Fin 26, (enc (97 + n.val) = [UInt8.ofNat (97 + n.val)]) ∧ lowC (97 + n.val) = 97 + n.val ∧ kindN (97 + n.val) = 1 := by decide
theorem low1_dec (c : UInt8) (h : low1 c) (t : List UInt8) : decodeL (c :: t) = (c.toNat, 1) ∧ enc (lowC c.toNat) = [c] ∧ kindN c.toNat = 1 := by
  unfold low1 at h
  obtain ⟨h1, h2, h3⟩ := low1_enc ⟨c.toNat - 97, by omega⟩
  simp only [show 97 + (c.toNat - 97) = c.toNat by omega] at h1 h2 h3
  rw [UInt8.ofNat_toNat] at h1
  have := dec_enc c.toNat (.inl (by omega)) t
  rw [h1] at this
  exact ⟨this, by rw [h2, h1], h3⟩
theorem us_long (c : UInt8) (h : low1 c) : ∀ n, us (List.replicate n c ++ [45]) = List.replicate n (1, 1) ++ [(0, 1)]
  | 0 => by show us [45] = [(0, 1)]; decide +kernel
  | n + 1 => by
    have hd := low1_dec c h (List.replicate n c ++ [45])
    rw [List.replicate_succ, List.cons_append, us_step _ (by simp), hd.1, clsN_eq]
    simp only [List.drop_succ_cons, List.drop_zero]
    rw [us_long c h n, hd.2.2]; rfl
theorem fold_long (c : UInt8) (h : low1 c) : ∀ n, foldL (List.replicate n c) = List.replicate n c
  | 0 => rfl
  | n + 1 => by
    have hd := low1_dec c h (List.replicate n c)
    rw [List.replicate_succ, foldL_step _ (by simp)]
    unfold head1
    rw [hd.1]
    simp only [List.drop_succ_cons, List.drop_zero]
    unfold low1 at h
    rw [if_neg (by omega), hd.2.1, fold_long c h n]; rfl
def longL (n : Nat) (c : UInt8) : List UInt8 := 45 :: (List.replicate n c ++ [45])
theorem cut_long (n : Nat) (c : UInt8) (a b : Nat) (h1 : 1 ≤ a) (h2 : a ≤ b) (h3 : b ≤ n + 1) : cutL (longL n c) (a, b) = List.replicate (b - a) c := by
  obtain ⟨a, rfl⟩ : ∃ a', a = a' + 1 := ⟨a - 1, by omega⟩
  obtain ⟨b, rfl⟩ : ∃ b', b = b' + 1 := ⟨b - 1, by omega⟩
  unfold cutL longL
  simp only [List.take_succ_cons, List.drop_succ_cons]
  rw [List.take_append_of_le_length (by simp; omega), List.take_replicate, List.drop_replicate]
  congr 1
  omega
theorem words_long (n : Nat) (c : UInt8) (h : low1 c) : wordsL (longL n c) = (chk n 1).map fun p => (List.replicate (p.2 - p.1) c, p.1, p.2) := by
  have hu : wd (us (longL n c)) 0 none = chk n 1 := by
    have hs : us (longL n c) = (0, 1) :: us (List.replicate n c ++ [45]) := by
      have hd : decodeL (longL n c) = (45, 1) := dec_enc 45 (.inl (by decide)) _
      rw [us_step _ (by simp [longL]), hd]
      rfl
    rw [hs, us_long c h, wd_0]
    cases n with
    | zero => rfl
    | succ n =>
      rw [List.replicate_succ, List.cons_append, wd_1n, wd_long _ _ _ (by omega) (by omega)]
      simp only [close, List.nil_append]
      congr 1
      omega
  unfold wordsL
  rw [hu]
  refine List.map_congr_left fun p hp => ?_
  obtain ⟨i, hi, rfl⟩ := List.mem_map.1 hp
  have hi := List.mem_range.1 hi
  have e : cutL (longL n c) (1 + 40 * i, min (1 + 40 * i + 40) (1 + n)) = _ := cut_long n c _ _ (by omega) (by omega) (by omega)
  dsimp only
  rw [e, fold_long c h]
theorem long_len (n : Nat) (c : UInt8) (h : low1 c) : (wordsL (longL n c)).length = (n + 39) / 40 := by
  rw [words_long n c h]; simp [chk]
theorem long_at (n : Nat) (c : UInt8) (h : low1 c) (i : Nat) (hi : i < (n + 39) / 40) : (wordsL (longL n c))[i]? = some (List.replicate (min (1 + 40 * i + 40) (1 + n) - (1 + 40 * i)) c, 1 + 40 * i, min (1 + 40 * i + 40) (1 + n)) := by
  rw [words_long n c h, List.getElem?_map]
  unfold chk
  rw [List.getElem?_map, List.getElem?_range hi]
  rfl
end Go.Cs
