/- Helper text of this claim: Ct1, Ct2, Cw1, Ct3, MapK, IterK: lemmas and contracts that the proved statement rests on; no conditions of its own. -/
import Derived.Test.YtdghfagipheabaaGreatDoorGShf
import Derived.Test.YtdghfagipheabaaGreatDoorGCs0
import Derived.Laws.RangeString
import Derived.Test.YtdghfagipheabaaGreatDoorWcz
namespace Go.Cs
open Go.Lib
set_option linter.unusedVariables false
/-! ### Folding keeps the steps -/
def cont (b : UInt8) : Prop := b.toNat / 64 = 2
theorem enc_shape (c : Nat) (h : scal c) : ∃ b t, enc c = b :: t ∧ ¬ cont b ∧ ∀ x ∈ t, cont x := by
  unfold scal at h
  unfold enc encodeRune cont
  by_cases h1 : c < 128
  · rw [encodeRuneZ_one (by omega) (by omega)]
    exact ⟨_, _, rfl, by rw [u8n _ (by omega)]; omega, by simp⟩
  by_cases h2 : c ≤ 2047
  · rw [encodeRuneZ_two (by omega) (by omega)]
    refine ⟨_, _, rfl, by rw [u8n _ (by omega)]; omega, fun x hx => ?_⟩
    simp only [List.map_cons, List.map_nil, List.mem_cons, List.not_mem_nil, or_false] at hx
    subst hx; rw [u8n _ (by omega)]; omega
  by_cases h3 : c ≤ 65535
  · rw [encodeRuneZ_three (by omega)]
    refine ⟨_, _, rfl, by rw [u8n _ (by omega)]; omega, fun x hx => ?_⟩
    simp only [List.map_cons, List.map_nil, List.mem_cons, List.not_mem_nil, or_false] at hx
    rcases hx with rfl | rfl <;> (rw [u8n _ (by omega)]; omega)
  · rw [encodeRuneZ_four (by omega) (by omega)]
    refine ⟨_, _, rfl, by rw [u8n _ (by omega)]; omega, fun x hx => ?_⟩
    simp only [List.map_cons, List.map_nil, List.mem_cons, List.not_mem_nil, or_false] at hx
    rcases hx with rfl | rfl | rfl <;> (rw [u8n _ (by omega)]; omega)
/-- A whole step is told by its bytes alone. -/
theorem whole_of (l : List UInt8) (c : Nat) (h : scal c) (e : l.take (enc c).length = enc c) : decodeL l = (c, (enc c).length) := by
  have h2 := List.take_append_drop (enc c).length l
  rw [e] at h2
  have := dec_enc c h (l.drop (enc c).length)
  rw [h2] at this
  exact this
theorem bad_or (l : List UInt8) (hne : l ≠ []) : decodeL l = (65533, 1) ∨ ∃ c, scal c ∧ decodeL l = (c, (enc c).length) ∧ l.take (enc c).length = enc c := by
  rcases dec_whole l hne with h | ⟨h1, h2, h3, _⟩
  · exact .inl h
  · exact .inr ⟨_, h1, Prod.ext rfl h3, by rw [← h3]; exact h2⟩
theorem bad_ne (c : Nat) : (65533, 1) ≠ (c, (enc c).length) := by
  intro h
  injection h with h1 h2
  rw [← h1] at h2
  have := enc_bad_len
  omega
/-- A cut behind a step does not turn it. -/
theorem dec_take (l : List UInt8) (n : Nat) (hne : l ≠ []) (hn : (decodeL l).2 ≤ n) : decodeL (l.take n) = decodeL l := by
  have hw := decodeL_width l
  have hl : 0 < l.length := List.length_pos_iff.2 hne
  have hne' : l.take n ≠ [] := by
    intro h
    have := congrArg List.length h
    rw [List.length_take, List.length_nil] at this
    omega
  rcases bad_or l hne with h | ⟨c, hs, hd, ht⟩
  · rcases bad_or (l.take n) hne' with h' | ⟨c, hs, hd, ht⟩
    · rw [h, h']
    · exfalso
      have hle := decodeL_le _ hne'
      rw [hd, List.length_take] at hle
      simp only at hle
      rw [List.take_take, Nat.min_eq_left (by omega)] at ht
      have := whole_of l c hs ht
      rw [h] at this
      exact bad_ne c this
  · rw [hd] at hn ⊢
    simp only at hn
    exact whole_of _ c hs (by rw [List.take_take, Nat.min_eq_left hn]; exact ht)
/-- What follows does not turn a step, if it begins with no byte of a continuation. -/
theorem dec_app (x y : List UInt8) (hne : x ≠ []) (hy : ∀ b, y[0]? = some b → ¬ cont b) : decodeL (x ++ y) = decodeL x := by
  have hl : 0 < x.length := List.length_pos_iff.2 hne
  rcases bad_or x hne with h | ⟨c, hs, hd, ht⟩
  · rcases bad_or (x ++ y) (by simp [hne]) with h' | ⟨c, hs, hd, ht⟩
    · rw [h, h']
    · exfalso
      by_cases hk : (enc c).length ≤ x.length
      · rw [List.take_append_of_le_length hk] at ht
        have := whole_of x c hs ht
        rw [h] at this
        exact bad_ne c this
      · obtain ⟨b, t, e1, e2, e3⟩ := enc_shape c hs
        have hle := decodeL_le (x ++ y) (by simp [hne])
        rw [hd, List.length_append] at hle
        simp only at hle
        obtain ⟨z, r, rfl⟩ := List.exists_cons_of_ne_nil (l := y) (by rintro rfl; simp at hle; omega)
        have hx : (enc c)[x.length]? = some z := by
          rw [← ht, List.getElem?_take, if_pos (by omega), List.getElem?_append_right (Nat.le_refl _), Nat.sub_self]; rfl
        rw [e1] at hx
        obtain ⟨m, hm⟩ : ∃ m, x.length = m + 1 := ⟨x.length - 1, by omega⟩
        rw [hm, List.getElem?_cons_succ] at hx
        exact hy z rfl (e3 z (List.mem_of_getElem? hx))
  · rw [hd]
    have hle := decodeL_le x hne
    rw [hd] at hle
    simp only at hle
    exact whole_of _ c hs (by rw [List.take_append_of_le_length hle]; exact ht)
theorem cont_bad (b : UInt8) (t : List UInt8) (h : cont b) : decodeL (b :: t) = (65533, 1) := by
  rw [decodeL_N]
  unfold cont at h
  exact decodeN_bad _ _ _ _ _ (.inl (by simp only [List.getD_cons_zero]; omega))
/-- Both begin with the same continuation bytes and no more. -/
def Alike (t t' : List UInt8) : Prop := ∃ p q q', t = p ++ q ∧ t' = p ++ q' ∧ (∀ b ∈ p, cont b) ∧ (∀ b, q[0]? = some b → ¬ cont b) ∧ ∀ b, q'[0]? = some b → ¬ cont b
theorem bad_alike (b : UInt8) {t t' : List UInt8} (h : Alike t t') (hb : decodeL (b :: t) = (65533, 1)) : decodeL (b :: t') = (65533, 1) := by
  obtain ⟨p, q, q', rfl, rfl, hp, hq, hq'⟩ := h
  rcases bad_or (b :: (p ++ q')) (by simp) with h' | ⟨c, hs, hd, ht⟩
  · exact h'
  · exfalso
    have e1 : decodeL (b :: (p ++ q)) = decodeL (b :: p) := dec_app (b :: p) q (by simp) hq
    have e2 : decodeL (b :: (p ++ q')) = decodeL (b :: p) := dec_app (b :: p) q' (by simp) hq'
    rw [e1] at hb
    rw [e2, hb] at hd
    exact bad_ne c hd
theorem head1_shape (l : List UInt8) (hne : l ≠ []) : (decodeL l = (65533, 1) ∧ ∃ b t, l = b :: t ∧ head1 l = [b]) ∨ ∃ c, scal c ∧ decodeL l = (c, (enc c).length) ∧ head1 l = enc (lowC c) ∧ ∃ b t, l = b :: t ∧ ¬ cont b := by
  obtain ⟨b, t, rfl⟩ := List.exists_cons_of_ne_nil hne
  rcases bad_or (b :: t) hne with h | ⟨c, hs, hd, ht⟩
  · exact .inl ⟨h, b, t, rfl, by unfold head1; rw [h]; rfl⟩
  · refine .inr ⟨c, hs, hd, ?_, b, t, rfl, ?_⟩
    · unfold head1
      rw [hd, if_neg]
      rintro ⟨h1, h2⟩
      simp only at h1 h2
      subst h1
      rw [enc_bad_len] at h2; omega
    · obtain ⟨x, y, e1, e2, _⟩ := enc_shape c hs
      rw [e1] at ht
      simp only [List.length_cons, List.take_succ_cons, List.cons.injEq] at ht
      rw [ht.1]; exact e2
theorem head1_len (l : List UInt8) (hne : l ≠ []) : (head1 l).length = (decodeL l).2 := by
  rcases head1_shape l hne with ⟨h, b, t, _, e⟩ | ⟨c, hs, hd, e, _⟩
  · rw [h, e]; rfl
  · rw [hd, e, low_len]
theorem fold_alike (t : List UInt8) : Alike t (foldL t) := by
  induction t using dec_ind with
  | nil => exact ⟨[], [], [], rfl, rfl, by simp, by simp, by simp⟩
  | step l hne ih =>
    rw [foldL_step l hne]
    rcases head1_shape l hne with ⟨h, b, t, rfl, e⟩ | ⟨c, hs, hd, e, b, t, rfl, hb⟩
    · rw [h] at ih ⊢
      simp only [List.drop_succ_cons, List.drop_zero] at ih ⊢
      rw [e]
      by_cases hc : cont b
      · obtain ⟨p, q, q', e1, e2, hp, hq, hq'⟩ := ih
        exact ⟨b :: p, q, q', by rw [e1]; rfl, by rw [e2]; rfl, fun x hx => by rcases List.mem_cons.1 hx with rfl | hx; exact hc; exact hp x hx, hq, hq'⟩
      · exact ⟨[], b :: t, b :: foldL t, rfl, rfl, by simp, fun x hx => by cases hx; exact hc, fun x hx => by cases hx; exact hc⟩
    · rw [e]
      obtain ⟨x, y, e1, e2, _⟩ := enc_shape (lowC c) (low_scal c hs)
      exact ⟨[], _, _, rfl, rfl, by simp, fun z hz => by cases hz; exact hb, fun z hz => by rw [e1] at hz; cases hz; exact e2⟩
theorem dec_fold (l : List UInt8) (hne : l ≠ []) : decodeL (foldL l) = (lowC (decodeL l).1, (decodeL l).2) := by
  rw [foldL_step l hne]
  rcases head1_shape l hne with ⟨h, b, t, rfl, e⟩ | ⟨c, hs, hd, e, _⟩
  · rw [e, h]
    simp only [List.drop_succ_cons, List.drop_zero, low_bad]
    exact bad_alike b (fold_alike t) h
  · rw [e, hd, dec_enc _ (low_scal c hs), low_len]
theorem fold_ne (l : List UInt8) (hne : l ≠ []) : foldL l ≠ [] := by
  rw [foldL_step l hne]
  have := head1_len l hne
  have hw := decodeL_width l
  intro h
  have h := congrArg List.length h
  rw [List.length_append, List.length_nil] at h
  omega
theorem fold_drop (l : List UInt8) (hne : l ≠ []) : (foldL l).drop (decodeL l).2 = foldL (l.drop (decodeL l).2) := by
  rw [foldL_step l hne, ← head1_len l hne, List.drop_left']
  rfl
theorem fold_len (l : List UInt8) : (foldL l).length = l.length := by
  induction l using dec_ind with
  | nil => rfl
  | step l hne ih =>
    have hle := decodeL_le l hne
    rw [foldL_step l hne, List.length_append, head1_len l hne, ih, List.length_drop]; omega
theorem clsN_low (p : Nat × Nat) (k : Nat) : clsN (lowC p.1, k) = clsN p := by rw [clsN_eq, clsN_eq, low_kind]
theorem us_fold (l : List UInt8) : us (foldL l) = us l := by
  induction l using dec_ind with
  | nil => rfl
  | step l hne ih =>
    rw [us_step _ (fold_ne l hne), dec_fold l hne, us_step l hne]
    simp only
    rw [fold_drop l hne, ih, clsN_low]
theorem fold_fold (l : List UInt8) : foldL (foldL l) = foldL l := by
  induction l using dec_ind with
  | nil => rfl
  | step l hne ih =>
    rw [foldL_step _ (fold_ne l hne), dec_fold l hne]
    simp only
    rw [fold_drop l hne, ih]
    conv => rhs; rw [foldL_step l hne]
    congr 1
    unfold head1
    rw [dec_fold l hne]
    simp only
    have hd0 : (foldL l).getD 0 0 = (head1 l).getD 0 0 := by
      have h1 := head1_len l hne
      have hw := decodeL_width l
      rw [foldL_step l hne]
      obtain ⟨x, y, e⟩ := List.exists_cons_of_ne_nil (l := head1 l) (by intro h; rw [h] at h1; simp at h1; omega)
      rw [e]; rfl
    by_cases hb : (decodeL l).1 = 65533 ∧ (decodeL l).2 = 1
    · rw [if_pos hb, if_pos ⟨by rw [hb.1]; exact low_bad, hb.2⟩, hd0]
      unfold head1
      rw [if_pos hb]; rfl
    · have : ¬ (lowC (decodeL l).1 = 65533 ∧ (decodeL l).2 = 1) := fun h => hb ⟨by
        by_cases hx : (decodeL l).1 = 65533
        · exact hx
        · exact absurd h.1 (low_ne_bad _ hx), h.2⟩
      rw [if_neg hb, if_neg this, low_low]
theorem runes_fold (l : List UInt8) : runes (foldL l) = (runes l).map lowC := by
  induction l using dec_ind with
  | nil => rfl
  | step l hne ih =>
    rw [runes_step _ (fold_ne l hne), dec_fold l hne, runes_step l hne]
    simp only
    rw [fold_drop l hne, ih]; rfl
/-- A place between two steps. -/
inductive Bd : List UInt8 → Nat → Prop
  | zero (l : List UInt8) : Bd l 0
  | step (l : List UInt8) (n : Nat) : l ≠ [] → Bd (l.drop (decodeL l).2) n → Bd l ((decodeL l).2 + n)
theorem Bd.le {l : List UInt8} {n : Nat} (h : Bd l n) : n ≤ l.length := by
  induction h with
  | zero l => omega
  | step l n hne _ ih =>
    have := decodeL_le l hne
    rw [List.length_drop] at ih; omega
theorem us_take {l : List UInt8} {n : Nat} (h : Bd l n) : us l = us (l.take n) ++ us (l.drop n) := by
  induction h with
  | zero l => rfl
  | step l n hne _ ih =>
    have hw := decodeL_width l
    have hl : 0 < l.length := List.length_pos_iff.2 hne
    have hne' : l.take ((decodeL l).2 + n) ≠ [] := by
      intro h
      have := congrArg List.length h
      rw [List.length_take, List.length_nil] at this
      omega
    rw [us_step _ hne', dec_take l _ hne (by omega), us_step l hne, ih, List.drop_take, List.drop_drop, Nat.add_sub_cancel_left]; rfl
theorem runes_take_bd {l : List UInt8} {n : Nat} (h : Bd l n) : runes l = runes (l.take n) ++ runes (l.drop n) := by
  induction h with
  | zero l => rfl
  | step l n hne _ ih =>
    have hw := decodeL_width l
    have hl : 0 < l.length := List.length_pos_iff.2 hne
    have hne' : l.take ((decodeL l).2 + n) ≠ [] := by
      intro h
      have := congrArg List.length h
      rw [List.length_take, List.length_nil] at this
      omega
    rw [runes_step _ hne', dec_take l _ hne (by omega), runes_step l hne, ih, List.drop_take, List.drop_drop, Nat.add_sub_cancel_left]; rfl
theorem fold_take {l : List UInt8} {n : Nat} (h : Bd l n) : foldL (l.take n) = (foldL l).take n ∧ foldL (l.drop n) = (foldL l).drop n := by
  induction h with
  | zero l => exact ⟨rfl, rfl⟩
  | step l n hne _ ih =>
    have hw := decodeL_width l
    have hl : 0 < l.length := List.length_pos_iff.2 hne
    have hne' : l.take ((decodeL l).2 + n) ≠ [] := by
      intro h
      have := congrArg List.length h
      rw [List.length_take, List.length_nil] at this
      omega
    have h1 := head1_len l hne
    have hhd : head1 (l.take ((decodeL l).2 + n)) = head1 l := by
      unfold head1
      rw [dec_take l _ hne (by omega)]
      congr 2
      obtain ⟨b, t, rfl⟩ := List.exists_cons_of_ne_nil hne
      obtain ⟨m, hm⟩ : ∃ m, (decodeL (b :: t)).2 + n = m + 1 := ⟨(decodeL (b :: t)).2 + n - 1, by omega⟩
      rw [hm]; rfl
    constructor
    · rw [foldL_step _ hne', dec_take l _ hne (by omega), hhd, List.drop_take, Nat.add_sub_cancel_left, ih.1, foldL_step l hne, ← h1, List.take_append]
      rw [List.take_of_length_le (l := head1 l) (i := (head1 l).length + n) (by omega), Nat.add_sub_cancel_left]
    · rw [← List.drop_drop, ih.2, foldL_step l hne, ← h1, ← List.drop_drop, List.drop_left' rfl]
end Go.Cs

namespace Go.Cs
set_option linter.unusedVariables false
/-! ### The two tables -/
def cutT : List (Int × Int × Int) := [(215, 215, 0), (247, 247, 0), (8192, 11263, 0), (11904, 12255, 2), (12288, 12351, 0), (12353, 12543, 2), (12549, 12591, 2), (12593, 12686, 2), (13312, 19903, 2), (19968, 40959, 2), (44032, 55203, 2), (55296, 63743, 0), (63744, 64255, 2), (65024, 65039, 0), (65072, 65135, 0), (65280, 65295, 0), (65520, 65535, 0), (126976, 129791, 0), (131072, 262143, 2)]
def cutSp (i : Nat) : Int × Int × Int := cutT.getD i (0, 0, 0)
def foldT : List (Int × Int × Int × Int) := [(65, 90, 1, 32), (192, 214, 1, 32), (216, 222, 1, 32), (256, 303, 2, 1), (306, 311, 2, 1), (313, 328, 2, 1), (330, 375, 2, 1), (376, 376, 1, -121), (377, 382, 2, 1), (902, 902, 1, 38), (904, 906, 1, 37), (908, 908, 1, 64), (910, 911, 1, 63), (913, 929, 1, 32), (931, 939, 1, 32), (1024, 1039, 1, 80), (1040, 1071, 1, 32)]
def foldSp (i : Nat) : Int × Int × Int × Int := foldT.getD i (0, 0, 0, 0)
def cmp3 (a b : Int) : Int := if a < b then -1 else if b < a then 1 else 0
def cmpC (i : Nat) (r : Int) : Int := if (cutSp i).1 ≤ r ∧ r ≤ (cutSp i).2.1 then 0 else cmp3 (cutSp i).1 r
def cmpF (i : Nat) (r : Int) : Int := if (foldSp i).2.1 < r then -1 else if r < (foldSp i).1 then 1 else 0
theorem cutT_fact : ∀ i : Fin 19, (cutSp i.val).1 ≤ (cutSp i.val).2.1 ∧ 0 ≤ (cutSp i.val).1 ∧ (cutSp i.val).2.1 ≤ 1114111 ∧ 0 ≤ (cutSp i.val).2.2 ∧ (cutSp i.val).2.2 ≤ 2 := by decide
theorem cutT_up : ∀ i j : Fin 19, i.val < j.val → (cutSp i.val).2.1 < (cutSp j.val).1 := by decide
theorem foldT_fact : ∀ i : Fin 17, (foldSp i.val).1 ≤ (foldSp i.val).2.1 ∧ 0 ≤ (foldSp i.val).1 ∧ (foldSp i.val).2.1 ≤ 1114111 ∧ 1 ≤ (foldSp i.val).2.2.1 ∧ (foldSp i.val).2.2.1 ≤ 2 ∧ -200 ≤ (foldSp i.val).2.2.2 ∧ (foldSp i.val).2.2.2 ≤ 200 := by decide
theorem foldT_up : ∀ i j : Fin 17, i.val < j.val → (foldSp i.val).2.1 < (foldSp j.val).1 := by decide
theorem cmpC_neg (i : Nat) (hi : i < 19) (r : Int) : cmpC i r < 0 ↔ (cutSp i).2.1 < r := by
  have := cutT_fact ⟨i, hi⟩
  simp only at this
  unfold cmpC cmp3
  repeat' split
  all_goals omega
theorem cmpC_mono (i j : Nat) (h : i < j) (hj : j < 19) (r : Int) (hr : cmpC j r < 0) : cmpC i r < 0 := by
  rw [cmpC_neg _ (by omega)] at *
  have h1 := cutT_fact ⟨j, hj⟩
  have h2 := cutT_up ⟨i, by omega⟩ ⟨j, hj⟩ h
  simp only at h1 h2
  omega
theorem cmpF_neg (i : Nat) (r : Int) : cmpF i r < 0 ↔ (foldSp i).2.1 < r := by
  unfold cmpF
  repeat' split
  all_goals omega
theorem cmpF_mono (i j : Nat) (h : i < j) (hj : j < 17) (r : Int) (hr : cmpF j r < 0) : cmpF i r < 0 := by
  rw [cmpF_neg] at *
  have h1 := foldT_fact ⟨j, hj⟩
  have h2 := foldT_up ⟨i, by omega⟩ ⟨j, hj⟩ h
  simp only at h1 h2
  omega
/-- Where the search ends. -/
def Pos (cmp : Nat → Int) (n k : Nat) : Prop := k ≤ n ∧ (∀ m, m < k → cmp m < 0) ∧ ∀ m, k ≤ m → m < n → 0 ≤ cmp m
end Go.Cs

-- alias Tryz
namespace Go.Proofs.YtdghfagipheabaaGreatDoor
open Go.RowKit Go.Pw Go.Vc Go.Cs Go.Lib
set_option linter.unusedVariables false
set_option maxRecDepth 100000
def spV (x : Int × Int × Int) : List Value := [.int .i64 x.1, .int .i64 x.2.1, .int .i64 x.2.2]
theorem at_keep {w w' : World} {b o : Nat} {vs : List Value} (h : At w b o vs) (k : Keeps w w' none_) : At w' b o vs := fun i v hi => by
  have := h i v hi
  rw [k.cell (cell_lt this) id]; exact this
section
variable {w : World}
theorem cmp_int (a b : Int) : Calls Tryz.prog 51 #[.int .i64 a, .int .i64 b] w fun e w' => e = .returned (.int .i64 (cmp3 a b)) ∧ w = w' := by
  have hn : ∀ (x : Int) (w : World), Calls Tryz.prog 68 #[.int .i64 x] w fun e w' => e = .returned (.bool false) ∧ w = w' := by
    intro x w
    refine calls_of_vc (args := [.int .i64 x]) Tryz.func68 rfl (Nat.le_of_ble_eq_true rfl) ?_; refine Sat.go hmix ?_; conv => whnf
    exact ⟨ret_bool (by simp), rfl⟩
  refine calls_of_vc (args := [.int .i64 a, .int .i64 b]) Tryz.func51 rfl (Nat.le_of_ble_eq_true rfl) ?_; refine Sat.go hmix ?_; conv => whnf
  refine CallS.of (Tryz.call68 _ _) (hn a w) ?_
  rintro e w1 ⟨rfl, rfl⟩
  refine ⟨_, rfl, ?_⟩; (first | refine Then.go hmix ?_ | refine Sat.go hmix ?_ | refine ResK.go ?_ | skip); conv => whnf
  refine CallS.of (Tryz.call68 _ _) (hn b w) ?_
  rintro e w1 ⟨rfl, rfl⟩
  refine ⟨_, rfl, ?_⟩; (first | refine Then.go hmix ?_ | refine Sat.go hmix ?_ | refine ResK.go ?_ | skip); conv => whnf
  unfold cmp3
  by_cases h1 : a < b
  · refine GO ?_
    exact ⟨by rw [if_pos h1], rfl⟩
  · by_cases h2 : b < a
    · refine GO ?_
      exact ⟨by rw [if_neg h1, if_pos h2], rfl⟩
    · refine GO ?_
      exact ⟨by rw [if_neg h1, if_neg h2], rfl⟩
end
end Go.Proofs.YtdghfagipheabaaGreatDoor

namespace Go.Cs
set_option linter.unusedVariables false
theorem cmpC_zero (k : Nat) (r : Int) (h : cmpC k r = 0) (hk : k < 19) : (cutSp k).1 ≤ r ∧ r ≤ (cutSp k).2.1 := by
  have := cutT_fact ⟨k, hk⟩
  simp only at this
  unfold cmpC cmp3 at h
  split at h
  · assumption
  · repeat' split at h
    all_goals omega
theorem cmpC_out (k : Nat) (r : Int) (hp : Pos (fun i => cmpC i r) 19 k) (hn : ¬ (k < 19 ∧ cmpC k r = 0)) (m : Nat) (hm : m < 19) : ¬ ((cutSp m).1 ≤ r ∧ r ≤ (cutSp m).2.1) := by
  obtain ⟨h1, h2, h3⟩ := hp
  intro hc
  have h0 : cmpC m r = 0 := by unfold cmpC; rw [if_pos hc]
  have hge : ¬ m < k := fun h => by have := h2 m h; dsimp only at this; omega
  by_cases e : m = k
  · exact hn ⟨by omega, by rw [← e]; exact h0⟩
  · have h4 := h3 k (Nat.le_refl _) (by omega)
    dsimp only at h4
    have h5 : ¬ cmpC k r < 0 := by omega
    rw [cmpC_neg k (by omega)] at h5
    have h6 := cutT_up ⟨k, by omega⟩ ⟨m, hm⟩ (by simp only; omega)
    simp only at h6
    omega
set_option maxHeartbeats 4000000 in
theorem kind_found (k : Nat) (hk : k < 19) (r : Nat) (h192 : 192 ≤ r) (hr : r ≤ 1114111) (h : (cutSp k).1 ≤ (r : Int) ∧ (r : Int) ≤ (cutSp k).2.1) : ((kindN r : Nat) : Int) = (cutSp k).2.2 := by
  match k, hk with
  | 0, _ | 1, _ | 2, _ | 3, _ | 4, _ | 5, _ | 6, _ | 7, _ | 8, _ | 9, _ | 10, _ | 11, _ | 12, _ | 13, _ | 14, _ | 15, _ | 16, _ | 17, _ | 18, _ =>
    simp only [cutSp, cutT, List.getD_cons_zero, List.getD_cons_succ] at h ⊢
    unfold kindN
    repeat (first | rw [if_pos (by omega)] | rw [if_neg (by omega)])
    try rfl
  | n + 19, hk => omega
set_option maxHeartbeats 4000000 in
theorem kind_out (r : Nat) (h192 : 192 ≤ r) (hr : r ≤ 1114111) (h : ∀ m, m < 19 → ¬ ((cutSp m).1 ≤ (r : Int) ∧ (r : Int) ≤ (cutSp m).2.1)) : kindN r = 1 := by
  have h0 := h 0 (by omega); have h1 := h 1 (by omega); have h2 := h 2 (by omega); have h3 := h 3 (by omega); have h4 := h 4 (by omega); have h5 := h 5 (by omega); have h6 := h 6 (by omega)
  have h7 := h 7 (by omega); have h8 := h 8 (by omega); have h9 := h 9 (by omega); have h10 := h 10 (by omega); have h11 := h 11 (by omega); have h12 := h 12 (by omega); have h13 := h 13 (by omega)
  have h14 := h 14 (by omega); have h15 := h 15 (by omega); have h16 := h 16 (by omega); have h17 := h 17 (by omega); have h18 := h 18 (by omega)
  clear h
  simp only [cutSp, cutT, List.getD_cons_zero, List.getD_cons_succ] at h0 h1 h2 h3 h4 h5 h6 h7 h8 h9 h10 h11 h12 h13 h14 h15 h16 h17 h18
  unfold kindN
  repeat (first | rw [if_pos (by omega)] | rw [if_neg (by omega)])
/-! ### the lower case by its table -/
theorem cmpF_zero (k : Nat) (r : Int) (h : cmpF k r = 0) : (foldSp k).1 ≤ r ∧ r ≤ (foldSp k).2.1 := by
  unfold cmpF at h
  repeat' split at h
  all_goals omega
theorem cmpF_out (k : Nat) (r : Int) (hp : Pos (fun i => cmpF i r) 17 k) (hn : ¬ (k < 17 ∧ cmpF k r = 0)) (m : Nat) (hm : m < 17) : ¬ ((foldSp m).1 ≤ r ∧ r ≤ (foldSp m).2.1) := by
  obtain ⟨h1, h2, h3⟩ := hp
  intro hc
  have h0 : cmpF m r = 0 := by unfold cmpF; rw [if_neg (by omega), if_neg (by omega)]
  have hge : ¬ m < k := fun h => by have := h2 m h; dsimp only at this; omega
  by_cases e : m = k
  · exact hn ⟨by omega, by rw [← e]; exact h0⟩
  · have h4 := h3 k (Nat.le_refl _) (by omega)
    dsimp only at h4
    have h5 : ¬ cmpF k r < 0 := by omega
    rw [cmpF_neg] at h5
    have h6 := foldT_up ⟨k, by omega⟩ ⟨m, hm⟩ (by simp only; omega)
    simp only at h6
    omega
set_option maxHeartbeats 4000000 in
theorem low_found (k : Nat) (hk : k < 17) (r : Nat) (h : (foldSp k).1 ≤ (r : Int) ∧ (r : Int) ≤ (foldSp k).2.1) : ((lowC r : Nat) : Int) = if ((r : Int) - (foldSp k).1) % (foldSp k).2.2.1 = 0 then (r : Int) + (foldSp k).2.2.2 else r := by
  match k, hk with
  | 0, _ | 1, _ | 2, _ | 3, _ | 4, _ | 5, _ | 6, _ | 7, _ | 8, _ | 9, _ | 10, _ | 11, _ | 12, _ | 13, _ | 14, _ | 15, _ | 16, _ =>
    simp only [foldSp, foldT, List.getD_cons_zero, List.getD_cons_succ] at h ⊢
    unfold lowC
    repeat (first | rw [if_pos (by omega)] | rw [if_neg (by omega)])
    try (repeat' split)
    all_goals omega
  | n + 17, hk => omega
set_option maxHeartbeats 4000000 in
theorem low_out (r : Nat) (h : ∀ m, m < 17 → ¬ ((foldSp m).1 ≤ (r : Int) ∧ (r : Int) ≤ (foldSp m).2.1)) : lowC r = r := by
  have h0 := h 0 (by omega); have h1 := h 1 (by omega); have h2 := h 2 (by omega); have h3 := h 3 (by omega); have h4 := h 4 (by omega); have h5 := h 5 (by omega); have h6 := h 6 (by omega)
  have h7 := h 7 (by omega); have h8 := h 8 (by omega); have h9 := h 9 (by omega); have h10 := h 10 (by omega); have h11 := h 11 (by omega); have h12 := h 12 (by omega); have h13 := h 13 (by omega)
  have h14 := h 14 (by omega); have h15 := h 15 (by omega); have h16 := h 16 (by omega)
  clear h
  simp only [foldSp, foldT, List.getD_cons_zero, List.getD_cons_succ] at h0 h1 h2 h3 h4 h5 h6 h7 h8 h9 h10 h11 h12 h13 h14 h15 h16
  unfold lowC
  repeat (first | rw [if_pos (by omega)] | rw [if_neg (by omega)])
end Go.Cs

/-! Maps from strings: a list of pairs. -/
namespace Go.Vc
open Go Go.Pw Go.RowKit
set_option linter.unusedVariables false
theorem ba_beq (a b : ByteArray) : (a == b) = decide (a = b) := by
  obtain ⟨a⟩ := a
  obtain ⟨b⟩ := b
  have e : ((ByteArray.mk a == ByteArray.mk b) : Bool) = (a == b) := rfl
  rw [e]
  by_cases h : a = b <;> simp [h]
abbrev SM := List (ByteArray × Value)
def SM.get : SM → ByteArray → Option Value
  | [], _ => none
  | (s, v) :: r, k => if k = s then some v else SM.get r k
def SM.put : SM → ByteArray → Value → SM
  | [], k, x => [(k, x)]
  | (s, v) :: r, k, x => if k = s then (s, x) :: r else (s, v) :: SM.put r k x
def SM.del : SM → ByteArray → SM
  | [], _ => []
  | (s, v) :: r, k => if k = s then r else (s, v) :: SM.del r k
def entP (e : MapEntry) : Value × Value := (e.key, e.val)
def smP (p : ByteArray × Value) : Value × Value := (.string p.1, p.2)
/-- The block b holds a map with these entries. -/
def SMap (w : World) (b : Nat) (m : SM) : Prop := ∃ es clock, w.heap[b]? = some (.map es clock) ∧ es.toList.map entP = m.map smP
theorem findNow_str (k : ByteArray) : ∀ (es : List MapEntry) (m : SM) (i : Nat), es.map entP = m.map smP →
    (m.get k = none ∧ Instr.findNow .string (.string k) es i = some none ∧ (∀ x, m.put k x = m ++ [(k, x)]) ∧ m.del k = m) ∨
    ∃ v j, m.get k = some v ∧ j < es.length ∧ Instr.findNow .string (.string k) es i = some (some (i + j, v)) ∧ (es[j]?).map (·.key) = some (.string k) ∧ (∀ x, (es.modify j fun e => { e with key := .string k, val := x }).map entP = (m.put k x).map smP) ∧ (es.eraseIdx j).map entP = (m.del k).map smP
  | [], m, i, h => by
    have : m = [] := by cases m with | nil => rfl | cons a r => simp at h
    subst this
    exact .inl ⟨rfl, rfl, fun _ => rfl, rfl⟩
  | e :: es, [], i, h => by simp at h
  | e :: es, (s, v) :: r, i, h => by
    simp only [List.map_cons, List.cons.injEq] at h
    obtain ⟨h1, h2⟩ := h
    simp only [entP, smP, Prod.mk.injEq] at h1
    obtain ⟨h3, h4⟩ := h1
    by_cases hk : k = s
    · right
      subst hk
      refine ⟨v, 0, by simp [SM.get], by simp, ?_, by simp [h3], fun x => ?_, ?_⟩
      · simp [Instr.findNow, h3, Instr.sameNow, h4, ba_beq]
      · simp [SM.put, entP, smP, h2]
      · simp [SM.del, h2]
    · rcases findNow_str k es r (i + 1) h2 with ⟨a1, a2, a3, a4⟩ | ⟨v', j, a1, a2, a3, a4, a5, a6⟩
      · left
        refine ⟨by simp [SM.get, hk, a1], ?_, fun x => by simp [SM.put, hk, a3], by simp [SM.del, hk, a4]⟩
        simp [Instr.findNow, h3, Instr.sameNow, hk, a2, ba_beq]
      · right
        refine ⟨v', j + 1, by simp [SM.get, hk, a1], Nat.succ_lt_succ a2, ?_, by simpa using a4, fun x => ?_, ?_⟩
        · simp [Instr.findNow, h3, Instr.sameNow, hk, a3, ba_beq]; omega
        · simp only [List.modify_succ_cons, List.map_cons, SM.put, if_neg hk, a5 x]
          simp [entP, smP, h3, h4]
        · simp only [List.eraseIdx_cons_succ, List.map_cons, SM.del, if_neg hk, a6]
          simp [entP, smP, h3, h4]
section
variable {P : Program} {w : World} {b : Nat} {m : SM} {t kt et : TypeId} {K : Value → World → Prop}
theorem checkKey_str' (hk : P.underlying kt = some .string) (e : Bool) (s : ByteArray) (n : Nat) : (Instr.checkKey e (n + 1) kt (.string s)).run P w = .ok () w := by
  unfold Instr.checkKey
  simp [und_ok hk]
theorem checkKey_str (hk : P.underlying kt = some .string) (e : Bool) (s : ByteArray) : (Instr.checkKey e 10000 kt (.string s)).run P w = .ok () w := checkKey_str' hk e s 9999
theorem RunV.look (ht : P.underlying t = some (.map kt et)) (hk : P.underlying kt = some .string) {z : Value} (hz : (zeroValue et).run P w = .ok z w) (h : SMap w b m) (s : ByteArray) (k : K ((m.get s).getD z) w) :
    RunV P (Instr.lookup t (.map (some b)) (.string s) false) w K := by
  obtain ⟨es, clock, hb, he⟩ := h
  refine ⟨_, w, ?_, k⟩
  rcases findNow_str s es.toList m 0 he with ⟨a1, a2, _⟩ | ⟨v, j, a1, a2, a3, _⟩
  · simp [Instr.lookup, und_ok ht, getObj, Sem.run, hb, checkKey_str hk, Instr.findKey, und_ok hk, a2, hz, a1]
  · simp [Instr.lookup, und_ok ht, getObj, Sem.run, hb, checkKey_str hk, Instr.findKey, und_ok hk, a3, a1]
theorem RunV.look2 (ht : P.underlying t = some (.map kt et)) (hk : P.underlying kt = some .string) {z : Value} (hz : (zeroValue et).run P w = .ok z w) (h : SMap w b m) (s : ByteArray) (k : K (.tuple #[(m.get s).getD z, .bool (m.get s).isSome]) w) :
    RunV P (Instr.lookup t (.map (some b)) (.string s) true) w K := by
  obtain ⟨es, clock, hb, he⟩ := h
  refine ⟨_, w, ?_, k⟩
  rcases findNow_str s es.toList m 0 he with ⟨a1, a2, _⟩ | ⟨v, j, a1, a2, a3, _⟩
  · simp [Instr.lookup, und_ok ht, getObj, Sem.run, hb, checkKey_str hk, Instr.findKey, und_ok hk, a2, hz, a1]
  · simp [Instr.lookup, und_ok ht, getObj, Sem.run, hb, checkKey_str hk, Instr.findKey, und_ok hk, a3, a1]
/-- The world with another object in the block b. -/
def setO (w : World) (b : Nat) (o : Obj) : World := { w with heap := w.heap.set! b o }
theorem setO_get (o : Obj) (hb : b < w.heap.size) : (setO w b o).heap[b]? = some o := by
  simp [setO, hb]
theorem setO_keeps (o : Obj) : Keeps w (setO w b o) (one_ b) :=
  ⟨rfl, rfl, rfl, by simp [setO], fun k hk hn => by
    have : b ≠ k := fun e => hn e.symm
    simp [setO, this]⟩
theorem RunU.upd {K : World → Prop} (ht : P.underlying t = some (.map kt et)) (hk : P.underlying kt = some .string) (h : SMap w b m) (s : ByteArray) (x : Value) (k : ∀ w', SMap w' b (m.put s x) → Keeps w w' (one_ b) → K w') :
    RunU P (Instr.mapUpdate t (.map (some b)) (.string s) x) w K := by
  obtain ⟨es, clock, hb, he⟩ := h
  have hlt : b < w.heap.size := by
    rcases Nat.lt_or_ge b w.heap.size with h' | h'
    · exact h'
    · rw [Array.getElem?_eq_none h'] at hb; cases hb
  rcases findNow_str s es.toList m 0 he with ⟨a1, a2, a3, _⟩ | ⟨v, j, a1, a2, a3, a4, a5, _⟩
  · refine ⟨setO w b (.map (es.push { key := .string s, val := x, born := clock }) (clock + 1)), ?_, k _ ⟨_, _, setO_get _ hlt, ?_⟩ (setO_keeps _)⟩
    · simp [Instr.mapUpdate, und_ok ht, getObj, setObj, Sem.run, hb, checkKey_str hk, Instr.findKey, und_ok hk, a2, setO]
    · simp [a3, he, entP, smP]
  · have e : (es.toList[j]?).map (·.key) = some (.string s) := a4
    have e2 : ((es[j]?).map (·.key)).getD (.string s) = .string s := by
      rw [← Array.getElem?_toList, e]; rfl
    refine ⟨setO w b (.map (es.modify j fun e => { e with key := .string s, val := x }) clock), ?_, k _ ⟨_, _, setO_get _ hlt, ?_⟩ (setO_keeps _)⟩
    · simp [Instr.mapUpdate, und_ok ht, getObj, setObj, Sem.run, hb, checkKey_str hk, Instr.findKey, und_ok hk, a3, setO, e2, Instr.keyThatStays, Instr.sameBits, ba_beq]
    · rw [Array.toList_modify]; exact a5 x
end
end Go.Vc
namespace Go.Vc
theorem SM.put_new : ∀ (m : SM) (k : ByteArray) (x : Value) (ks : List ByteArray), m.map (·.1) = ks → ¬ k ∈ ks → m.put k x = m ++ [(k, x)]
  | [], k, x, _, _, _ => rfl
  | (s, v) :: r, k, x, _, rfl, hn => by
    simp only [List.map_cons, List.mem_cons, not_or] at hn
    simp only [SM.put, if_neg hn.1, SM.put_new r k x _ rfl hn.2]; rfl
end Go.Vc
namespace Go.Vc
open Go.Cs
theorem SM.put_newL (m : SM) (l : List UInt8) (x : Value) (ks : List (List UInt8)) (h : m.map (·.1) = ks.map str) (hn : ¬ l ∈ ks) : m.put (str l) x = m ++ [(str l, x)] :=
  SM.put_new m _ x _ h fun hm => by
    obtain ⟨y, hy, e⟩ := List.mem_map.1 hm
    exact hn (by rw [← str_inj.1 e]; exact hy)
end Go.Vc

namespace Go.Vc
open Go Go.Pw Go.RowKit Go.Cs Go.Lib
set_option linter.unusedVariables false
section
variable {P : Program} {w : World} {K : Value → World → Prop}
theorem RunV.rangeS {t : TypeId} {s : ByteArray} (h : P.underlying t = some .string) (k : K (.pointer (some ⟨w.heap.size, 0, none⟩)) (w.alloc (.stringIter s 0))) : RunV P (Instr.range t (.string s)) w K :=
  ⟨_, _, run_range_string w t s h, k⟩
theorem RunV.nextS {b pos : Nat} {s : ByteArray} {ty : TypeId} (h : w.heap[b]? = some (.stringIter s pos)) (hp : pos < s.size)
    (k : K (.tuple #[.bool true, .int .i64 (pos : Nat), .int .i32 ((decodeL ((L s).drop pos)).1 : Nat)]) (setO w b (.stringIter s (pos + (decodeL ((L s).drop pos)).2)))) :
    RunV P (Instr.next (.pointer (some ⟨b, 0, none⟩)) true ty) w K := by
  refine ⟨_, _, ?_, k⟩
  have e : Utf8.decode s pos = decodeL ((L s).drop pos) := (Lib.decodeL_drop s pos).symm
  simp only [Instr.next, getObj, setObj, Sem.run_bind, Sem.run, h, Result.andThen, hp, if_true, e]
  simp [goInt, setO]
theorem RunV.nextE {b pos : Nat} {s : ByteArray} {ty : TypeId} (h : w.heap[b]? = some (.stringIter s pos)) (hp : ¬ pos < s.size) (k : K (.tuple #[.bool false]) w) : RunV P (Instr.next (.pointer (some ⟨b, 0, none⟩)) true ty) w K := by
  refine ⟨_, _, ?_, k⟩
  simp [Instr.next, getObj, Sem.run, h, hp]
theorem lt_of_obj {b : Nat} {o : Obj} (h : w.heap[b]? = some o) : b < w.heap.size := by
  rcases Nat.lt_or_ge b w.heap.size with h' | h'
  · exact h'
  · rw [Array.getElem?_eq_none h'] at h; cases h
end
end Go.Vc
