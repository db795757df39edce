/- Helper text of this claim: Cs3: lemmas and contracts that the proved statement rests on; no conditions of its own. -/
import Derived.Test.YtmipmlcolaaonaaDoorCs2
namespace Go.Cs
open Go.Lib
set_option linter.unusedVariables false
theorem b2 (x : Nat) (y : Int) (h : (x : Int) = y) : UInt8.ofNat x = y.toNat.toUInt8 := by subst h; rfl
set_option maxHeartbeats 1000000 in
/-- The model's encoding and the shelf's are one. -/
theorem encode_str (r : Int) : Utf8.encode r = str (encodeRune r) := by
  unfold str encodeRune
  by_cases hv : (0 ≤ r ∧ r < 55296) ∨ (57344 ≤ r ∧ r ≤ 1114111)
  · have hv' : Utf8.valid r = true := by unfold Utf8.valid; simp; omega
    unfold Utf8.encode
    rw [if_pos hv']
    dsimp only
    by_cases h1 : r ≤ 127
    · rw [if_pos (by omega), encodeRuneZ_one (by omega) h1]; rfl
    by_cases h2 : r ≤ 2047
    · rw [if_neg (by omega), if_pos (by omega), encodeRuneZ_two (by omega) h2]
      simp only [List.map_cons, List.map_nil]
      rw [b2 (192 + r.toNat / 64) (192 + r / 64) (by omega), b2 (128 + r.toNat % 64) (128 + r % 64) (by omega)]
    by_cases h3 : r ≤ 65535
    · rw [if_neg (by omega), if_neg (by omega), if_pos (by omega), encodeRuneZ_three (by omega)]
      simp only [List.map_cons, List.map_nil]
      rw [b2 (224 + r.toNat / 4096) (224 + r / 4096) (by omega), b2 (128 + r.toNat / 64 % 64) (128 + r / 64 % 64) (by omega), b2 (128 + r.toNat % 64) (128 + r % 64) (by omega)]
    · rw [if_neg (by omega), if_neg (by omega), if_neg (by omega), encodeRuneZ_four (by omega) (by omega)]
      simp only [List.map_cons, List.map_nil]
      rw [b2 (240 + r.toNat / 262144) (240 + r / 262144) (by omega), b2 (128 + r.toNat / 4096 % 64) (128 + r / 4096 % 64) (by omega), b2 (128 + r.toNat / 64 % 64) (128 + r / 64 % 64) (by omega), b2 (128 + r.toNat % 64) (128 + r % 64) (by omega)]
  · have hv' : Utf8.valid r = false := by unfold Utf8.valid; simp; omega
    unfold Utf8.encode
    rw [hv', encodeRuneZ_bad (by omega)]
    simp only [Bool.false_eq_true, if_false]
    decide +kernel
theorem empty_iff (s : ByteArray) : s = ⟨#[]⟩ ↔ s.size = 0 := by
  constructor
  · intro h; rw [h]; rfl
  · intro h
    rw [← str_L s]
    have : L s = [] := List.eq_nil_of_length_eq_zero (by rw [L_len]; exact h)
    rw [this]; rfl
theorem take_byte (s : ByteArray) (n : Nat) (h : n < s.size) : ∃ x : UInt8, s.data.toList.getD n 0 = x ∧ (L s)[n]? = some x ∧ (L s).take (n + 1) = (L s).take n ++ [x] ∧ (L s).drop n = x :: (L s).drop (n + 1) := by
  have hl := L_len s
  have hn : n < (L s).length := by omega
  refine ⟨(L s)[n], ?_, List.getElem?_eq_getElem hn, ?_, ?_⟩
  · show (L s).getD n 0 = _; rw [List.getD, List.getElem?_eq_getElem hn]; rfl
  · rw [List.take_add_one, List.getElem?_eq_getElem hn]; rfl
  · rw [List.drop_eq_getElem_cons hn]
end Go.Cs
