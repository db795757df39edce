/- Helper text of this claim: Ct0: lemmas and contracts that the proved statement rests on; no conditions of its own. -/
import Derived.Test.YtmipmlcolaaonaaDoorCs3
namespace Go.Cs
open Go.Lib
set_option linter.unusedVariables false
/-! ### Classes, lower case, words: plain -/
/-- The class of a code point. -/
def kindN (r : Nat) : Nat :=
  if 1114111 < r then 0
  else if r < 192 then (if 48 ≤ r ∧ r ≤ 57 then 1 else if 65 ≤ r ∧ r ≤ 90 then 1 else if 97 ≤ r ∧ r ≤ 122 then 1 else 0)
  else if r = 215 then 0 else if r = 247 then 0 else if 8192 ≤ r ∧ r ≤ 11263 then 0 else if 11904 ≤ r ∧ r ≤ 12255 then 2 else if 12288 ≤ r ∧ r ≤ 12351 then 0
  else if 12353 ≤ r ∧ r ≤ 12543 then 2 else if 12549 ≤ r ∧ r ≤ 12591 then 2 else if 12593 ≤ r ∧ r ≤ 12686 then 2 else if 13312 ≤ r ∧ r ≤ 19903 then 2 else if 19968 ≤ r ∧ r ≤ 40959 then 2
  else if 44032 ≤ r ∧ r ≤ 55203 then 2 else if 55296 ≤ r ∧ r ≤ 63743 then 0 else if 63744 ≤ r ∧ r ≤ 64255 then 2 else if 65024 ≤ r ∧ r ≤ 65039 then 0 else if 65072 ≤ r ∧ r ≤ 65135 then 0
  else if 65280 ≤ r ∧ r ≤ 65295 then 0 else if 65520 ≤ r ∧ r ≤ 65535 then 0 else if 126976 ≤ r ∧ r ≤ 129791 then 0 else if 131072 ≤ r ∧ r ≤ 262143 then 2 else 1
def kindI (r : Int) : Nat := if r < 0 then 0 else kindN r.toNat
/-- The lower case of a code point. -/
def lowC (r : Nat) : Nat :=
  if 65 ≤ r ∧ r ≤ 90 then r + 32 else if 192 ≤ r ∧ r ≤ 214 then r + 32 else if 216 ≤ r ∧ r ≤ 222 then r + 32
  else if 256 ≤ r ∧ r ≤ 303 then (if r % 2 = 0 then r + 1 else r) else if 306 ≤ r ∧ r ≤ 311 then (if r % 2 = 0 then r + 1 else r)
  else if 313 ≤ r ∧ r ≤ 328 then (if r % 2 = 1 then r + 1 else r) else if 330 ≤ r ∧ r ≤ 375 then (if r % 2 = 0 then r + 1 else r)
  else if r = 376 then 255 else if 377 ≤ r ∧ r ≤ 382 then (if r % 2 = 1 then r + 1 else r)
  else if r = 902 then 940 else if 904 ≤ r ∧ r ≤ 906 then r + 37 else if r = 908 then 972 else if 910 ≤ r ∧ r ≤ 911 then r + 63
  else if 913 ≤ r ∧ r ≤ 929 then r + 32 else if 931 ≤ r ∧ r ≤ 939 then r + 32 else if 1024 ≤ r ∧ r ≤ 1039 then r + 80 else if 1040 ≤ r ∧ r ≤ 1071 then r + 32 else r
theorem low_big (r : Nat) (h : 1072 ≤ r) : lowC r = r := by
  unfold lowC
  rw [if_neg (by omega), if_neg (by omega), if_neg (by omega), if_neg (by omega), if_neg (by omega), if_neg (by omega), if_neg (by omega), if_neg (by omega), if_neg (by omega), if_neg (by omega), if_neg (by omega), if_neg (by omega), if_neg (by omega), if_neg (by omega), if_neg (by omega), if_neg (by omega), if_neg (by omega)]
set_option maxRecDepth 100000 in
theorem low_small : ∀ r : Fin 1104, kindN (lowC r.val) = kindN r.val ∧ lowC (lowC r.val) = lowC r.val ∧ (enc (lowC r.val)).length = (enc r.val).length ∧ lowC r.val ≤ 1119 := by decide +kernel
theorem low_kind (r : Nat) : kindN (lowC r) = kindN r := by
  by_cases h : r < 1104
  · exact (low_small ⟨r, h⟩).1
  · rw [low_big r (by omega)]
theorem low_low (r : Nat) : lowC (lowC r) = lowC r := by
  by_cases h : r < 1104
  · exact (low_small ⟨r, h⟩).2.1
  · rw [low_big r (by omega), low_big r (by omega)]
theorem low_len (r : Nat) : (enc (lowC r)).length = (enc r).length := by
  by_cases h : r < 1104
  · exact (low_small ⟨r, h⟩).2.2.1
  · rw [low_big r (by omega)]
theorem low_scal (r : Nat) (h : scal r) : scal (lowC r) := by
  by_cases h' : r < 1104
  · have := (low_small ⟨r, h'⟩).2.2.2
    exact .inl (by simp only at this; omega)
  · rw [low_big r (by omega)]; exact h
theorem low_le (r : Nat) (h : r ≤ 1114111) : lowC r ≤ 1114111 := by
  by_cases h' : r < 1104
  · have := (low_small ⟨r, h'⟩).2.2.2
    simp only at this; omega
  · rw [low_big r (by omega)]; exact h
theorem low_bad : lowC 65533 = 65533 := low_big _ (by omega)
theorem low_ne_bad (r : Nat) (h : r ≠ 65533) : lowC r ≠ 65533 := by
  by_cases h' : r < 1104
  · have := (low_small ⟨r, h'⟩).2.2.2
    simp only at this; omega
  · rw [low_big r (by omega)]; exact h
theorem ite_le2 {c : Prop} [Decidable c] {a b : Nat} (h1 : a ≤ 2) (h2 : b ≤ 2) : (if c then a else b) ≤ 2 := by split <;> assumption
theorem kind_le2 (r : Nat) : kindN r ≤ 2 := by
  unfold kindN
  repeat (first | decide | refine ite_le2 ?_ ?_)
/-- The class of a step of the decoder. -/
def clsN (p : Nat × Nat) : Nat := if p.1 = 65533 then 0 else kindN p.1
theorem kind_bad : kindN 65533 = 0 := by decide
theorem clsN_eq (p : Nat × Nat) : clsN p = kindN p.1 := by
  unfold clsN
  split
  · rename_i h; rw [h, kind_bad]
  · rfl
/-- The steps of a text: class and width. -/
def usF : Nat → List UInt8 → List (Nat × Nat)
  | 0, _ => []
  | _ + 1, [] => []
  | n + 1, b :: t => (clsN (decodeL (b :: t)), (decodeL (b :: t)).2) :: usF n ((b :: t).drop (decodeL (b :: t)).2)
def us (l : List UInt8) : List (Nat × Nat) := usF l.length l
theorem usF_fuel : ∀ (n m : Nat) (l : List UInt8), l.length ≤ n → l.length ≤ m → usF n l = usF m l
  | 0, m, l, hn, _ => by
    have : l = [] := List.eq_nil_of_length_eq_zero (by omega)
    subst this
    cases m <;> rfl
  | n + 1, 0, l, _, hm => by
    have : l = [] := List.eq_nil_of_length_eq_zero (by omega)
    subst this; rfl
  | n + 1, m + 1, [], _, _ => rfl
  | n + 1, m + 1, b :: t, hn, hm => by
    have hw := decodeL_width (b :: t)
    simp only [usF]
    rw [usF_fuel n m _ (by rw [List.length_drop]; omega) (by rw [List.length_drop]; omega)]
theorem us_nil : us [] = [] := rfl
theorem us_step (l : List UInt8) (hne : l ≠ []) : us l = (clsN (decodeL l), (decodeL l).2) :: us (l.drop (decodeL l).2) := by
  obtain ⟨b, t, rfl⟩ := List.exists_cons_of_ne_nil hne
  have hw := decodeL_width (b :: t)
  show (clsN (decodeL (b :: t)), (decodeL (b :: t)).2) :: usF t.length _ = _
  rw [usF_fuel t.length ((b :: t).drop (decodeL (b :: t)).2).length _ (by rw [List.length_drop, List.length_cons]; omega) (Nat.le_refl _)]
  rfl
/-- A text in lower case. -/
def foldF : Nat → List UInt8 → List UInt8
  | 0, _ => []
  | _ + 1, [] => []
  | n + 1, b :: t => (if (decodeL (b :: t)).1 = 65533 ∧ (decodeL (b :: t)).2 = 1 then [b] else enc (lowC (decodeL (b :: t)).1)) ++ foldF n ((b :: t).drop (decodeL (b :: t)).2)
def foldL (l : List UInt8) : List UInt8 := foldF l.length l
theorem foldF_fuel : ∀ (n m : Nat) (l : List UInt8), l.length ≤ n → l.length ≤ m → foldF n l = foldF m l
  | 0, m, l, hn, _ => by
    have : l = [] := List.eq_nil_of_length_eq_zero (by omega)
    subst this
    cases m <;> rfl
  | n + 1, 0, l, _, hm => by
    have : l = [] := List.eq_nil_of_length_eq_zero (by omega)
    subst this; rfl
  | n + 1, m + 1, [], _, _ => rfl
  | n + 1, m + 1, b :: t, hn, hm => by
    have hw := decodeL_width (b :: t)
    simp only [foldF]
    rw [foldF_fuel n m _ (by rw [List.length_drop]; omega) (by rw [List.length_drop]; omega)]
/-- What the first step of a text becomes. -/
def head1 (l : List UInt8) : List UInt8 := if (decodeL l).1 = 65533 ∧ (decodeL l).2 = 1 then [l.getD 0 0] else enc (lowC (decodeL l).1)
theorem foldL_nil : foldL [] = [] := rfl
theorem foldL_step (l : List UInt8) (hne : l ≠ []) : foldL l = head1 l ++ foldL (l.drop (decodeL l).2) := by
  obtain ⟨b, t, rfl⟩ := List.exists_cons_of_ne_nil hne
  have hw := decodeL_width (b :: t)
  show (if (decodeL (b :: t)).1 = 65533 ∧ (decodeL (b :: t)).2 = 1 then [b] else enc (lowC (decodeL (b :: t)).1)) ++ foldF t.length _ = _
  rw [foldF_fuel t.length ((b :: t).drop (decodeL (b :: t)).2).length _ (by rw [List.length_drop, List.length_cons]; omega) (Nat.le_refl _)]
  rfl
def close (f : Option Nat) (at_ : Nat) : List (Nat × Nat) := match f with | none => [] | some a => [(a, at_)]
/-- The words' places. -/
def wd : List (Nat × Nat) → Nat → Option Nat → List (Nat × Nat)
  | [], p, f => close f p
  | (k, n) :: r, p, f =>
    if k = 0 then close f p ++ wd r (p + n) none
    else if k = 2 then close f p ++ (p, p + n) :: wd r (p + n) none
    else match f with
      | some a => if 40 < p + n - a then (a, p) :: wd r (p + n) (some p) else wd r (p + n) (some a)
      | none => wd r (p + n) (some p)
def cutL (l : List UInt8) (p : Nat × Nat) : List UInt8 := (l.take p.2).drop p.1
def wordsL (l : List UInt8) : List (List UInt8 × Nat × Nat) := (wd (us l) 0 none).map fun p => (foldL (cutL l p), p.1, p.2)
end Go.Cs
