/- Helper text of this claim: Cs1: lemmas and contracts that the proved statement rests on; no conditions of its own. -/
import Derived.Test.YtmipmlcolaaonaaDoorCs0
import Derived.Laws.Concat
namespace Go.Cs
open Go.Lib
set_option linter.unusedVariables false
/-! ### The reference's search for the first code point -/
def bt (l : List UInt8) (i : Nat) : Int := ((l.getD i 0).toNat : Int)
def base (l : List UInt8) (m : Nat) : Int := if m = 1 then bt l 0 else if m = 2 then bt l 0 - 192 else if m = 3 then bt l 0 - 224 else bt l 0 - 240
def candJ (l : List UInt8) (x : Int) : Nat → Int
  | 0 => x
  | j + 1 => 64 * candJ l x j + bt l (j + 1) - 128
def cand (l : List UInt8) (m : Nat) : Int := candJ l (base l m) (m - 1)
def isSign (n : Int) : Bool := decide (0 ≤ n) && (decide (n ≤ 1114111) && (decide (n < 55296) || decide (57343 < n)))
theorem isSign_iff (n : Int) : isSign n = true ↔ 0 ≤ n ∧ n ≤ 1114111 ∧ (n < 55296 ∨ 57343 < n) := by
  unfold isSign; simp
theorem isSign_scal (n : Int) (h : isSign n = true) : scal n.toNat ∧ (n.toNat : Int) = n := by
  rw [isSign_iff] at h; unfold scal; omega
theorem sign_of_scal (c : Nat) (h : scal c) : isSign (c : Int) = true := by
  rw [isSign_iff]; unfold scal at h; omega
def okAt (l : List UInt8) (m : Nat) : Bool := isSign (cand l m) && decide (encodeRune (cand l m) = l.take m)
theorem first_yes (l : List UInt8) (m : Nat) (h1 : 1 ≤ m) (hm : m ≤ l.length) (h : okAt l m = true) : decodeL l = ((cand l m).toNat, m) ∧ ¬ ((cand l m) = 65533 ∧ m = 1) := by
  unfold okAt at h
  rw [Bool.and_eq_true, decide_eq_true_eq] at h
  obtain ⟨hs, he⟩ := h
  obtain ⟨h2, h3⟩ := isSign_scal _ hs
  have e : enc (cand l m).toNat = l.take m := by unfold enc; rw [h3]; exact he
  have hd := dec_enc _ h2 (l.drop m)
  have hlen : (enc (cand l m).toNat).length = m := by rw [e, List.length_take]; omega
  rw [e, List.take_append_drop] at hd
  rw [hd]
  refine ⟨by rw [List.length_take]; congr 1; omega, ?_⟩
  rintro ⟨h4, h5⟩
  rw [h4, h5] at hlen
  have := enc_bad_len
  rw [show ((65533 : Int)).toNat = 65533 from rfl] at hlen
  omega
set_option maxHeartbeats 4000000 in
theorem cand_enc (c : Nat) (h : scal c) (t : List UInt8) : cand (enc c ++ t) (enc c).length = c := by
  unfold scal at h
  unfold enc encodeRune
  by_cases h1 : c < 128
  · rw [encodeRuneZ_one (by omega) (by omega)]
    simp [cand, candJ, base, bt]
    omega
  by_cases h2 : c ≤ 2047
  · rw [encodeRuneZ_two (by omega) (by omega)]
    simp only [List.map_cons, List.map_nil, List.cons_append, List.nil_append, List.length_cons, List.length_nil, cand, candJ, base, bt, List.getD_cons_zero, List.getD_cons_succ]
    rw [u8n _ (by omega), u8n _ (by omega)]
    simp
    omega
  by_cases h3 : c ≤ 65535
  · rw [encodeRuneZ_three (by omega)]
    simp only [List.map_cons, List.map_nil, List.cons_append, List.nil_append, List.length_cons, List.length_nil, cand, candJ, base, bt, List.getD_cons_zero, List.getD_cons_succ]
    rw [u8n _ (by omega), u8n _ (by omega), u8n _ (by omega)]
    simp
    omega
  · rw [encodeRuneZ_four (by omega) (by omega)]
    simp only [List.map_cons, List.map_nil, List.cons_append, List.nil_append, List.length_cons, List.length_nil, cand, candJ, base, bt, List.getD_cons_zero, List.getD_cons_succ]
    rw [u8n _ (by omega), u8n _ (by omega), u8n _ (by omega), u8n _ (by omega)]
    simp
    omega
theorem first_no (l : List UInt8) (hne : l ≠ []) (h : ∀ m, 1 ≤ m → m ≤ 4 → m ≤ l.length → okAt l m = false) : decodeL l = (65533, 1) := by
  rcases dec_whole l hne with h' | ⟨hs, ht, hk, hb⟩
  · exact h'
  · exfalso
    have hw := decodeL_width l
    have hl := decodeL_le l hne
    have h4 := dec_le4 l hne
    have := h _ hw h4 hl
    have hc := cand_enc _ hs (l.drop (decodeL l).2)
    rw [← hk, ← ht, List.take_append_drop] at hc
    unfold okAt at this
    rw [hc, sign_of_scal _ hs, ht] at this
    unfold enc at this
    simp at this
/-- Is the first step good? -/
def good (l : List UInt8) : Bool := !decide ((decodeL l).1 = 65533 ∧ (decodeL l).2 = 1)
end Go.Cs
namespace Go.Cs
open Go.Lib
theorem bt_bound (l : List UInt8) (i : Nat) : 0 ≤ bt l i ∧ bt l i ≤ 255 := by
  have := UInt8.toNat_lt (l.getD i 0)
  unfold bt; omega
theorem candJ_bound (l : List UInt8) (x : Int) (h : -240 ≤ x ∧ x ≤ 255) (j : Nat) (hj : j ≤ 3) : -100000000 ≤ candJ l x j ∧ candJ l x j ≤ 100000000 := by
  have h1 := bt_bound l (0 + 1)
  have h2 := bt_bound l (1 + 1)
  have h3 := bt_bound l (2 + 1)
  match j, hj with
  | 0, _ => simp only [candJ]; omega
  | 1, _ => simp only [candJ]; omega
  | 2, _ => simp only [candJ]; omega
  | 3, _ => simp only [candJ]; omega
theorem candJ_small (l : List UInt8) (x : Int) (h : -240 ≤ x ∧ x ≤ 255) (j : Nat) (hj : j ≤ 2) : -2000000 ≤ candJ l x j ∧ candJ l x j ≤ 2000000 := by
  have h1 := bt_bound l (0 + 1)
  have h2 := bt_bound l (1 + 1)
  match j, hj with
  | 0, _ => simp only [candJ]; omega
  | 1, _ => simp only [candJ]; omega
  | 2, _ => simp only [candJ]; omega
theorem base_bound (l : List UInt8) (m : Nat) : -240 ≤ base l m ∧ base l m ≤ 255 := by
  have h1 := bt_bound l 0
  unfold base
  repeat' split
  all_goals omega
def off (m : Nat) : Int := if m = 2 then 192 else if m = 3 then 224 else 240
theorem base_off (l : List UInt8) (m : Nat) (h : 1 < m) : base l m = bt l 0 - off m := by
  unfold base off
  rw [if_neg (by omega)]
  repeat' split
  all_goals first | rfl | omega
theorem base_one (l : List UInt8) : base l 1 = bt l 0 := rfl
/-- The bytes of a text. -/
def L (s : ByteArray) : List UInt8 := s.data.toList
def str (l : List UInt8) : ByteArray := ⟨l.toArray⟩
theorem L_str (l : List UInt8) : L (str l) = l := rfl
theorem str_L (s : ByteArray) : str (L s) = s := rfl
theorem L_len (s : ByteArray) : (L s).length = s.size := rfl
theorem str_size (l : List UInt8) : (str l).size = l.length := rfl
theorem str_inj {a b : List UInt8} : str a = str b ↔ a = b := by
  constructor
  · intro h; rw [← L_str a, h, L_str]
  · intro h; rw [h]
theorem eq_str (s : ByteArray) (l : List UInt8) : s = str l ↔ L s = l := by rw [← str_L s, str_inj, L_str]
theorem L_extract (s : ByteArray) (i j : Nat) : L (s.extract i j) = ((L s).take j).drop i := by
  unfold L
  rw [ByteArray.data_extract, Array.toList_extract, List.extract_eq_take_drop, List.drop_take]
theorem L_from (s : ByteArray) (i : Nat) : L (s.extract i s.size) = (L s).drop i := by
  rw [L_extract, List.take_of_length_le (by rw [L_len]; exact Nat.le_refl _)]
theorem L_to (s : ByteArray) (j : Nat) : L (s.extract 0 j) = (L s).take j := by rw [L_extract]; rfl
theorem extract_str (s : ByteArray) (i j : Nat) : s.extract i j = str (((L s).take j).drop i) := by rw [← L_extract, str_L]
theorem str_append (a b : List UInt8) : str a ++ str b = str (a ++ b) := by
  unfold str; exact ByteArray.mk_append_mk a b
theorem L_append (a b : ByteArray) : L (a ++ b) = L a ++ L b := by
  have : a ++ b = str (L a ++ L b) := by rw [← str_append]; rfl
  rw [this, L_str]
theorem L_empty : L ByteArray.empty = [] := rfl
theorem L_ne {s : ByteArray} (h : 0 < s.size) : L s ≠ [] := by
  intro e; have := L_len s; rw [e] at this; simp at this; omega
end Go.Cs
