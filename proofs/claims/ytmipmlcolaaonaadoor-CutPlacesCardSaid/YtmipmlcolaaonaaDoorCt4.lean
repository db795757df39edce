/- Helper text of this claim: Ct4: lemmas and contracts that the proved statement rests on; no conditions of its own. -/
import Derived.Test.YtmipmlcolaaonaaDoorCt3
import Derived.Lib.Small
namespace Go.Cs
open Go.Lib
set_option linter.unusedVariables false
theorem runeLen_eq (c : Nat) (h : scal c) : runeLen (c : Int) = ((enc c).length : Nat) := by
  unfold scal at h
  unfold enc encodeRune runeLen
  rw [if_neg (by omega)]
  by_cases h1 : c < 128
  · rw [if_pos (by omega), encodeRuneZ_one (by omega) (by omega)]; rfl
  by_cases h2 : c ≤ 2047
  · rw [if_neg (by omega), if_pos (by omega), encodeRuneZ_two (by omega) (by omega)]; rfl
  by_cases h3 : c ≤ 65535
  · rw [if_neg (by omega), if_neg (by omega), if_neg (by omega), if_pos (by omega), encodeRuneZ_three (by omega)]; rfl
  · rw [if_neg (by omega), if_neg (by omega), if_neg (by omega), if_neg (by omega), if_pos (by omega), encodeRuneZ_four (by omega) (by omega)]; rfl
/-- The word at a place. -/
def mk (l : List UInt8) (p : Nat × Nat) : List UInt8 × Nat × Nat := (foldL (cutL l p), p.1, p.2)
theorem wordsL_eq (l : List UInt8) : wordsL l = (wd (us l) 0 none).map (mk l) := rfl
def frI (f : Option Nat) : Int := match f with | none => -1 | some a => a
theorem wd_0 (n : Nat) (r : List (Nat × Nat)) (p : Nat) (f : Option Nat) : wd ((0, n) :: r) p f = close f p ++ wd r (p + n) none := rfl
theorem wd_2 (n : Nat) (r : List (Nat × Nat)) (p : Nat) (f : Option Nat) : wd ((2, n) :: r) p f = close f p ++ (p, p + n) :: wd r (p + n) none := rfl
theorem wd_1n (n : Nat) (r : List (Nat × Nat)) (p : Nat) : wd ((1, n) :: r) p none = wd r (p + n) (some p) := rfl
theorem wd_1s (n : Nat) (r : List (Nat × Nat)) (p a : Nat) : wd ((1, n) :: r) p (some a) = if 40 < p + n - a then (a, p) :: wd r (p + n) (some p) else wd r (p + n) (some a) := rfl
end Go.Cs
