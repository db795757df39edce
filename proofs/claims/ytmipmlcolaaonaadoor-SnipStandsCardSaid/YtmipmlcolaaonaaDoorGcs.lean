/- Helper text of this claim: Cs0, Cs1, Cs2, Cs3: lemmas and contracts that the proved statement rests on; no conditions of its own. -/
import Derived.Lib.ValidLaws
import Derived.Lib.RuneBytes
import Derived.Lib.MapLaws
import Derived.Laws.Concat
namespace Go.Cs
open Go.Lib
set_option linter.unusedVariables false
/-! ### Text as bytes and code points: plain -/
def scal (n : Nat) : Prop := n < 55296 ∨ (57343 < n ∧ n ≤ 1114111)
instance (n : Nat) : Decidable (scal n) := by unfold scal; infer_instance
def enc (n : Nat) : List UInt8 := encodeRune (n : Int)
def encs (rs : List Nat) : List UInt8 := rs.flatMap enc
theorem encs_nil : encs [] = [] := rfl
theorem encs_cons (c : Nat) (rs : List Nat) : encs (c :: rs) = enc c ++ encs rs := rfl
theorem encs_append (a b : List Nat) : encs (a ++ b) = encs a ++ encs b := by unfold encs; rw [List.flatMap_append]
theorem enc_len (c : Nat) : 1 ≤ (enc c).length ∧ (enc c).length ≤ 4 := by
  have := runeCells_le (c : Int)
  rw [runeCells_length] at this; exact this
theorem u8_back (b : UInt8) : (((b.toNat : Nat) : Int).toNat).toUInt8 = b := by simp
theorem enc1 {c : Nat} (h : c < 128) : enc c = [c.toUInt8] := by
  unfold enc encodeRune; rw [encodeRuneZ_one (by omega) (by omega)]; simp
theorem enc_of1 {c : Nat} {b0 : UInt8} (h : c < 128) (e0 : c = b0.toNat) : enc c = [b0] := by
  rw [enc1 h, e0]; simp
theorem toU (x : Int) (b : UInt8) (h : x = b.toNat) : x.toNat.toUInt8 = b := by subst h; simp
theorem enc_of2 {c : Nat} {b0 b1 : UInt8} (h : 128 ≤ c) (h' : c ≤ 2047) (e0 : (192 + (c : Int) / 64) = b0.toNat) (e1 : (128 + (c : Int) % 64) = b1.toNat) : enc c = [b0, b1] := by
  unfold enc encodeRune; rw [encodeRuneZ_two (by omega) (by omega)]
  simp only [List.map_cons, List.map_nil, toU _ _ e0, toU _ _ e1]
theorem enc_of3 {c : Nat} {b0 b1 b2 : UInt8} (h : 2048 ≤ c ∧ c ≤ 65535 ∧ scal c) (e0 : (224 + (c : Int) / 4096) = b0.toNat) (e1 : (128 + (c : Int) / 64 % 64) = b1.toNat) (e2 : (128 + (c : Int) % 64) = b2.toNat) : enc c = [b0, b1, b2] := by
  unfold enc encodeRune; rw [encodeRuneZ_three (by unfold scal at h; omega)]
  simp only [List.map_cons, List.map_nil, toU _ _ e0, toU _ _ e1, toU _ _ e2]
theorem enc_of4 {c : Nat} {b0 b1 b2 b3 : UInt8} (h : 65536 ≤ c) (h' : c ≤ 1114111) (e0 : (240 + (c : Int) / 262144) = b0.toNat) (e1 : (128 + (c : Int) / 4096 % 64) = b1.toNat) (e2 : (128 + (c : Int) / 64 % 64) = b2.toNat) (e3 : (128 + (c : Int) % 64) = b3.toNat) : enc c = [b0, b1, b2, b3] := by
  unfold enc encodeRune; rw [encodeRuneZ_four (by omega) (by omega)]
  simp only [List.map_cons, List.map_nil, toU _ _ e0, toU _ _ e1, toU _ _ e2, toU _ _ e3]
/-- What a decoder's step says of the bytes ahead. -/
def Whole (l : List UInt8) (c k : Nat) : Prop := scal c ∧ l.take k = enc c ∧ k = (enc c).length ∧ ¬ (c = 65533 ∧ k = 1)
set_option maxHeartbeats 4000000 in
theorem dec_whole (l : List UInt8) (hne : l ≠ []) : decodeL l = (65533, 1) ∨ Whole l (decodeL l).1 (decodeL l).2 := by
  rw [decodeL_N]
  obtain ⟨b0, t, rfl⟩ := List.exists_cons_of_ne_nil hne
  have h0 := UInt8.toNat_lt b0
  simp only [List.getD_cons_zero, List.getD_cons_succ, List.length_cons]
  have h1 := UInt8.toNat_lt (t.getD 0 0)
  have h2 := UInt8.toNat_lt (t.getD 1 0)
  have h3 := UInt8.toNat_lt (t.getD 2 0)
  unfold decodeN
  split
  · rename_i h
    right
    have e := enc_of1 h (b0 := b0) rfl
    exact ⟨.inl (by omega), by rw [e]; rfl, by rw [e]; rfl, by omega⟩
  · split
    · rename_i h
      split
      · rename_i hc
        right
        obtain ⟨b1, t, rfl⟩ := List.exists_cons_of_ne_nil (l := t) (by rintro rfl; simp at h)
        simp only [List.getD_cons_zero] at *
        have e := enc_of2 (c := b0.toNat % 32 * 64 + b1.toNat % 64) (b0 := b0) (b1 := b1) (by omega) (by omega) (by omega) (by omega)
        exact ⟨.inl (by omega), by rw [e]; rfl, by rw [e]; rfl, by omega⟩
      · exact .inl rfl
    · split
      · rename_i h
        split
        · rename_i hc
          right
          obtain ⟨b1, t, rfl⟩ := List.exists_cons_of_ne_nil (l := t) (by rintro rfl; simp at h)
          obtain ⟨b2, t, rfl⟩ := List.exists_cons_of_ne_nil (l := t) (by rintro rfl; simp at h)
          simp only [List.getD_cons_zero, List.getD_cons_succ] at *
          have hs : scal (b0.toNat % 16 * 4096 + b1.toNat % 64 * 64 + b2.toNat % 64) := by unfold scal; omega
          have e := enc_of3 (c := b0.toNat % 16 * 4096 + b1.toNat % 64 * 64 + b2.toNat % 64) (b0 := b0) (b1 := b1) (b2 := b2) ⟨by omega, by omega, hs⟩ (by omega) (by omega) (by omega)
          exact ⟨hs, by rw [e]; rfl, by rw [e]; rfl, by omega⟩
        · exact .inl rfl
      · split
        · rename_i h
          split
          · rename_i hc
            right
            obtain ⟨b1, t, rfl⟩ := List.exists_cons_of_ne_nil (l := t) (by rintro rfl; simp at h)
            obtain ⟨b2, t, rfl⟩ := List.exists_cons_of_ne_nil (l := t) (by rintro rfl; simp at h)
            obtain ⟨b3, t, rfl⟩ := List.exists_cons_of_ne_nil (l := t) (by rintro rfl; simp at h)
            simp only [List.getD_cons_zero, List.getD_cons_succ] at *
            have hs : scal (b0.toNat % 8 * 262144 + b1.toNat % 64 * 4096 + b2.toNat % 64 * 64 + b3.toNat % 64) := by unfold scal; omega
            have e := enc_of4 (c := b0.toNat % 8 * 262144 + b1.toNat % 64 * 4096 + b2.toNat % 64 * 64 + b3.toNat % 64) (b0 := b0) (b1 := b1) (b2 := b2) (b3 := b3) (by omega) (by omega) (by omega) (by omega) (by omega) (by omega)
            exact ⟨hs, by rw [e]; rfl, by rw [e]; rfl, by omega⟩
          · exact .inl rfl
        · exact .inl rfl
theorem u8n (x : Int) (h : 0 ≤ x ∧ x < 256) : (x.toNat.toUInt8).toNat = x.toNat := by
  simp; omega
set_option maxHeartbeats 4000000 in
theorem dec_enc (c : Nat) (h : scal c) (t : List UInt8) : decodeL (enc c ++ t) = (c, (enc c).length) := by
  rw [decodeL_N]
  unfold scal at h
  unfold enc encodeRune
  by_cases h1 : c < 128
  · rw [encodeRuneZ_one (by omega) (by omega)]
    simp only [List.map_cons, List.map_nil, List.cons_append, List.nil_append, List.getD_cons_zero, List.length_cons, List.length_nil]
    rw [u8n _ (by omega)]
    unfold decodeN
    rw [if_pos (by omega)]
    simp
  by_cases h2 : c ≤ 2047
  · rw [encodeRuneZ_two (by omega) (by omega)]
    simp only [List.map_cons, List.map_nil, List.cons_append, List.nil_append, List.getD_cons_zero, List.getD_cons_succ, List.length_cons, List.length_nil]
    rw [u8n _ (by omega), u8n _ (by omega)]
    unfold decodeN
    rw [if_neg (by omega), if_pos (by omega), if_pos (by omega)]
    congr 1; omega
  by_cases h3 : c ≤ 65535
  · rw [encodeRuneZ_three (by omega)]
    simp only [List.map_cons, List.map_nil, List.cons_append, List.nil_append, List.getD_cons_zero, List.getD_cons_succ, List.length_cons, List.length_nil]
    rw [u8n _ (by omega), u8n _ (by omega), u8n _ (by omega)]
    unfold decodeN
    rw [if_neg (by omega), if_neg (by omega), if_pos (by omega), if_pos (by omega)]
    congr 1; omega
  · rw [encodeRuneZ_four (by omega) (by omega)]
    simp only [List.map_cons, List.map_nil, List.cons_append, List.nil_append, List.getD_cons_zero, List.getD_cons_succ, List.length_cons, List.length_nil]
    rw [u8n _ (by omega), u8n _ (by omega), u8n _ (by omega), u8n _ (by omega)]
    unfold decodeN
    rw [if_neg (by omega), if_neg (by omega), if_neg (by omega), if_pos (by omega), if_pos (by omega)]
    congr 1; omega

def runesF : Nat → List UInt8 → List Nat
  | 0, _ => []
  | _ + 1, [] => []
  | n + 1, b :: t => (decodeL (b :: t)).1 :: runesF n ((b :: t).drop (decodeL (b :: t)).2)
def runes (l : List UInt8) : List Nat := runesF l.length l
theorem runesF_fuel : ∀ (n m : Nat) (l : List UInt8), l.length ≤ n → l.length ≤ m → runesF n l = runesF m l
  | 0, m, l, hn, _ => by
    have : l = [] := List.eq_nil_of_length_eq_zero (by omega)
    subst this
    cases m <;> rfl
  | n + 1, 0, l, _, hm => by
    have : l = [] := List.eq_nil_of_length_eq_zero (by omega)
    subst this; rfl
  | n + 1, m + 1, [], _, _ => rfl
  | n + 1, m + 1, b :: t, hn, hm => by
    have hw := decodeL_width (b :: t)
    simp only [runesF]
    rw [runesF_fuel n m _ (by rw [List.length_drop]; omega) (by rw [List.length_drop]; omega)]
theorem runes_nil : runes [] = [] := rfl
theorem runes_step (l : List UInt8) (hne : l ≠ []) : runes l = (decodeL l).1 :: runes (l.drop (decodeL l).2) := by
  obtain ⟨b, t, rfl⟩ := List.exists_cons_of_ne_nil hne
  have hw := decodeL_width (b :: t)
  show (decodeL (b :: t)).1 :: runesF t.length _ = _
  rw [runesF_fuel t.length ((b :: t).drop (decodeL (b :: t)).2).length _ (by rw [List.length_drop, List.length_cons]; omega) (Nat.le_refl _)]
  rfl
theorem dec_ind {motive : List UInt8 → Prop} (nil : motive []) (step : ∀ l, l ≠ [] → motive (l.drop (decodeL l).2) → motive l) : ∀ l, motive l := by
  have key : ∀ n l, l.length = n → motive l := by
    intro n
    induction n using Nat.strongRecOn with
    | _ n ih =>
      intro l hl
      by_cases hne : l = []
      · rw [hne]; exact nil
      · have hw := decodeL_width l
        have h0 : 0 < l.length := List.length_pos_iff.2 hne
        exact step l hne (ih _ (by rw [List.length_drop]; omega) _ rfl)
  exact fun l => key _ l rfl
def repair (l : List UInt8) : List UInt8 := encs (runes l)
theorem scal_bad : scal 65533 := .inr ⟨by omega, by omega⟩
theorem dec_scal (l : List UInt8) (hne : l ≠ []) : scal (decodeL l).1 := by
  rcases dec_whole l hne with h | h
  · rw [h]; exact scal_bad
  · exact h.1
theorem runes_scal (l : List UInt8) : ∀ c ∈ runes l, scal c := by
  induction l using dec_ind with
  | nil => intro c hc; cases hc
  | step l hne ih =>
    intro c hc
    rw [runes_step l hne] at hc
    rcases List.mem_cons.1 hc with rfl | hc
    · exact dec_scal l hne
    · exact ih c hc
theorem enc_ne (c : Nat) (t : List UInt8) : enc c ++ t ≠ [] := by
  have := enc_len c
  intro h
  have h := congrArg List.length h
  rw [List.length_append, List.length_nil] at h; omega
theorem runes_enc (c : Nat) (h : scal c) (t : List UInt8) : runes (enc c ++ t) = c :: runes t := by
  rw [runes_step _ (enc_ne c t), dec_enc c h]
  simp
theorem runes_encs (rs : List Nat) (h : ∀ c ∈ rs, scal c) (t : List UInt8) : runes (encs rs ++ t) = rs ++ runes t := by
  induction rs with
  | nil => rfl
  | cons c rs ih =>
    rw [encs_cons, List.append_assoc, runes_enc c (h c (by simp)), ih fun x hx => h x (by simp [hx])]; rfl
theorem runes_encs' (rs : List Nat) (h : ∀ c ∈ rs, scal c) : runes (encs rs) = rs := by
  have := runes_encs rs h []
  simpa [runes_nil] using this
theorem enc_bad_len : (enc 65533).length = 3 := by decide
theorem valid_enc (c : Nat) (h : scal c) (t : List UInt8) : validD (enc c ++ t) = validD t := by
  rw [validD_step _ (enc_ne c t), dec_enc c h, if_neg]
  · simp
  · rintro ⟨h1, h2⟩
    simp only at h1 h2
    subst h1
    rw [enc_bad_len] at h2; omega
theorem valid_encs (rs : List Nat) (h : ∀ c ∈ rs, scal c) (t : List UInt8) : validD (encs rs ++ t) = validD t := by
  induction rs with
  | nil => rfl
  | cons c rs ih => rw [encs_cons, List.append_assoc, valid_enc c (h c (by simp)), ih fun x hx => h x (by simp [hx])]
theorem valid_encs' (rs : List Nat) (h : ∀ c ∈ rs, scal c) : validD (encs rs) = true := by
  have := valid_encs rs h []
  simpa [validD_nil] using this
theorem repair_of_valid (l : List UInt8) : validD l = true → repair l = l := by
  unfold repair
  induction l using dec_ind with
  | nil => intro _; rfl
  | step l hne ih =>
    intro hv
    rw [validD_step l hne] at hv
    split at hv
    · cases hv
    · rename_i hb
      rw [runes_step l hne, encs_cons, ih hv]
      rcases dec_whole l hne with h | h
      · rw [h] at hb; simp at hb
      · rw [← h.2.1, List.take_append_drop]
theorem repair_valid (l : List UInt8) : validD (repair l) = true := valid_encs' _ (runes_scal l)
theorem repair_iff (l : List UInt8) : repair l = l ↔ validD l = true := ⟨fun h => by rw [← h]; exact repair_valid l, repair_of_valid l⟩
theorem runes_repair (l : List UInt8) : runes (repair l) = runes l := runes_encs' _ (runes_scal l)
theorem repair_repair (l : List UInt8) : repair (repair l) = repair l := by show encs (runes (repair l)) = _; rw [runes_repair]; rfl
theorem dec_le4 (l : List UInt8) (hne : l ≠ []) : (decodeL l).2 ≤ 4 := by
  rcases dec_whole l hne with h | h
  · rw [h]; simp
  · rw [h.2.2.1]; exact (enc_len _).2
theorem runes_len (l : List UInt8) : (runes l).length ≤ l.length ∧ l.length ≤ 4 * (runes l).length := by
  induction l using dec_ind with
  | nil => exact ⟨Nat.le_refl _, Nat.le_refl _⟩
  | step l hne ih =>
    have hw := decodeL_width l
    have h4 := dec_le4 l hne
    have hl := decodeL_le l hne
    rw [runes_step l hne]
    rw [List.length_drop] at ih
    simp only [List.length_cons]
    omega
theorem repair_len (l : List UInt8) : (repair l).length ≤ 3 * l.length := by
  unfold repair
  induction l using dec_ind with
  | nil => exact Nat.le_refl _
  | step l hne ih =>
    have hw := decodeL_width l
    have hl := decodeL_le l hne
    rw [List.length_drop] at ih
    rw [runes_step l hne, encs_cons, List.length_append]
    rcases dec_whole l hne with h | h
    · have e1 : (decodeL l).1 = 65533 := by rw [h]
      have e2 : (decodeL l).2 = 1 := by rw [h]
      have := enc_bad_len
      rw [e1]
      omega
    · have := h.2.2.1
      omega
theorem encs_len (rs : List Nat) : rs.length ≤ (encs rs).length ∧ (encs rs).length ≤ 4 * rs.length := by
  induction rs with
  | nil => exact ⟨Nat.le_refl _, Nat.le_refl _⟩
  | cons c rs ih =>
    have := enc_len c
    rw [encs_cons, List.length_append, List.length_cons]; omega
theorem repair_app (a b : List UInt8) : repair (repair a ++ b) = repair a ++ repair b := by
  show encs (runes (repair a ++ b)) = _
  have : runes (repair a ++ b) = runes a ++ runes b := runes_encs _ (runes_scal a) b
  rw [this, encs_append]; rfl
theorem valid_app (a b : List UInt8) : validD (repair a ++ b) = validD b := valid_encs _ (runes_scal a) b
end Go.Cs

namespace Go.Cs
open Go.Lib
set_option linter.unusedVariables false
/-! ### The reference's search for the first code point -/
def bt (l : List UInt8) (i : Nat) : Int := ((l.getD i 0).toNat : Int)
def base (l : List UInt8) (m : Nat) : Int := if m = 1 then bt l 0 else if m = 2 then bt l 0 - 192 else if m = 3 then bt l 0 - 224 else bt l 0 - 240
def candJ (l : List UInt8) (x : Int) : Nat → Int
  | 0 => x
  | j + 1 => 64 * candJ l x j + bt l (j + 1) - 128
def cand (l : List UInt8) (m : Nat) : Int := candJ l (base l m) (m - 1)
def isSign (n : Int) : Bool := decide (0 ≤ n) && (decide (n ≤ 1114111) && (decide (n < 55296) || decide (57343 < n)))
theorem isSign_iff (n : Int) : isSign n = true ↔ 0 ≤ n ∧ n ≤ 1114111 ∧ (n < 55296 ∨ 57343 < n) := by
  unfold isSign; simp
theorem isSign_scal (n : Int) (h : isSign n = true) : scal n.toNat ∧ (n.toNat : Int) = n := by
  rw [isSign_iff] at h; unfold scal; omega
theorem sign_of_scal (c : Nat) (h : scal c) : isSign (c : Int) = true := by
  rw [isSign_iff]; unfold scal at h; omega
def okAt (l : List UInt8) (m : Nat) : Bool := isSign (cand l m) && decide (encodeRune (cand l m) = l.take m)
theorem first_yes (l : List UInt8) (m : Nat) (h1 : 1 ≤ m) (hm : m ≤ l.length) (h : okAt l m = true) : decodeL l = ((cand l m).toNat, m) ∧ ¬ ((cand l m) = 65533 ∧ m = 1) := by
  unfold okAt at h
  rw [Bool.and_eq_true, decide_eq_true_eq] at h
  obtain ⟨hs, he⟩ := h
  obtain ⟨h2, h3⟩ := isSign_scal _ hs
  have e : enc (cand l m).toNat = l.take m := by unfold enc; rw [h3]; exact he
  have hd := dec_enc _ h2 (l.drop m)
  have hlen : (enc (cand l m).toNat).length = m := by rw [e, List.length_take]; omega
  rw [e, List.take_append_drop] at hd
  rw [hd]
  refine ⟨by rw [List.length_take]; congr 1; omega, ?_⟩
  rintro ⟨h4, h5⟩
  rw [h4, h5] at hlen
  have := enc_bad_len
  rw [show ((65533 : Int)).toNat = 65533 from rfl] at hlen
  omega
set_option maxHeartbeats 4000000 in
theorem cand_enc (c : Nat) (h : scal c) (t : List UInt8) : cand (enc c ++ t) (enc c).length = c := by
  unfold scal at h
  unfold enc encodeRune
  by_cases h1 : c < 128
  · rw [encodeRuneZ_one (by omega) (by omega)]
    simp [cand, candJ, base, bt]
    omega
  by_cases h2 : c ≤ 2047
  · rw [encodeRuneZ_two (by omega) (by omega)]
    simp only [List.map_cons, List.map_nil, List.cons_append, List.nil_append, List.length_cons, List.length_nil, cand, candJ, base, bt, List.getD_cons_zero, List.getD_cons_succ]
    rw [u8n _ (by omega), u8n _ (by omega)]
    simp
    omega
  by_cases h3 : c ≤ 65535
  · rw [encodeRuneZ_three (by omega)]
    simp only [List.map_cons, List.map_nil, List.cons_append, List.nil_append, List.length_cons, List.length_nil, cand, candJ, base, bt, List.getD_cons_zero, List.getD_cons_succ]
    rw [u8n _ (by omega), u8n _ (by omega), u8n _ (by omega)]
    simp
    omega
  · rw [encodeRuneZ_four (by omega) (by omega)]
    simp only [List.map_cons, List.map_nil, List.cons_append, List.nil_append, List.length_cons, List.length_nil, cand, candJ, base, bt, List.getD_cons_zero, List.getD_cons_succ]
    rw [u8n _ (by omega), u8n _ (by omega), u8n _ (by omega), u8n _ (by omega)]
    simp
    omega
theorem first_no (l : List UInt8) (hne : l ≠ []) (h : ∀ m, 1 ≤ m → m ≤ 4 → m ≤ l.length → okAt l m = false) : decodeL l = (65533, 1) := by
  rcases dec_whole l hne with h' | ⟨hs, ht, hk, hb⟩
  · exact h'
  · exfalso
    have hw := decodeL_width l
    have hl := decodeL_le l hne
    have h4 := dec_le4 l hne
    have := h _ hw h4 hl
    have hc := cand_enc _ hs (l.drop (decodeL l).2)
    rw [← hk, ← ht, List.take_append_drop] at hc
    unfold okAt at this
    rw [hc, sign_of_scal _ hs, ht] at this
    unfold enc at this
    simp at this
/-- Is the first step good? -/
def good (l : List UInt8) : Bool := !decide ((decodeL l).1 = 65533 ∧ (decodeL l).2 = 1)
end Go.Cs
namespace Go.Cs
open Go.Lib
theorem bt_bound (l : List UInt8) (i : Nat) : 0 ≤ bt l i ∧ bt l i ≤ 255 := by
  have := UInt8.toNat_lt (l.getD i 0)
  unfold bt; omega
theorem candJ_bound (l : List UInt8) (x : Int) (h : -240 ≤ x ∧ x ≤ 255) (j : Nat) (hj : j ≤ 3) : -100000000 ≤ candJ l x j ∧ candJ l x j ≤ 100000000 := by
  have h1 := bt_bound l (0 + 1)
  have h2 := bt_bound l (1 + 1)
  have h3 := bt_bound l (2 + 1)
  match j, hj with
  | 0, _ => simp only [candJ]; omega
  | 1, _ => simp only [candJ]; omega
  | 2, _ => simp only [candJ]; omega
  | 3, _ => simp only [candJ]; omega
theorem candJ_small (l : List UInt8) (x : Int) (h : -240 ≤ x ∧ x ≤ 255) (j : Nat) (hj : j ≤ 2) : -2000000 ≤ candJ l x j ∧ candJ l x j ≤ 2000000 := by
  have h1 := bt_bound l (0 + 1)
  have h2 := bt_bound l (1 + 1)
  match j, hj with
  | 0, _ => simp only [candJ]; omega
  | 1, _ => simp only [candJ]; omega
  | 2, _ => simp only [candJ]; omega
theorem base_bound (l : List UInt8) (m : Nat) : -240 ≤ base l m ∧ base l m ≤ 255 := by
  have h1 := bt_bound l 0
  unfold base
  repeat' split
  all_goals omega
def off (m : Nat) : Int := if m = 2 then 192 else if m = 3 then 224 else 240
theorem base_off (l : List UInt8) (m : Nat) (h : 1 < m) : base l m = bt l 0 - off m := by
  unfold base off
  rw [if_neg (by omega)]
  repeat' split
  all_goals first | rfl | omega
theorem base_one (l : List UInt8) : base l 1 = bt l 0 := rfl
/-- The bytes of a text. -/
def L (s : ByteArray) : List UInt8 := s.data.toList
def str (l : List UInt8) : ByteArray := ⟨l.toArray⟩
theorem L_str (l : List UInt8) : L (str l) = l := rfl
theorem str_L (s : ByteArray) : str (L s) = s := rfl
theorem L_len (s : ByteArray) : (L s).length = s.size := rfl
theorem str_size (l : List UInt8) : (str l).size = l.length := rfl
theorem str_inj {a b : List UInt8} : str a = str b ↔ a = b := by
  constructor
  · intro h; rw [← L_str a, h, L_str]
  · intro h; rw [h]
theorem eq_str (s : ByteArray) (l : List UInt8) : s = str l ↔ L s = l := by rw [← str_L s, str_inj, L_str]
theorem L_extract (s : ByteArray) (i j : Nat) : L (s.extract i j) = ((L s).take j).drop i := by
  unfold L
  rw [ByteArray.data_extract, Array.toList_extract, List.extract_eq_take_drop, List.drop_take]
theorem L_from (s : ByteArray) (i : Nat) : L (s.extract i s.size) = (L s).drop i := by
  rw [L_extract, List.take_of_length_le (by rw [L_len]; exact Nat.le_refl _)]
theorem L_to (s : ByteArray) (j : Nat) : L (s.extract 0 j) = (L s).take j := by rw [L_extract]; rfl
theorem extract_str (s : ByteArray) (i j : Nat) : s.extract i j = str (((L s).take j).drop i) := by rw [← L_extract, str_L]
theorem str_append (a b : List UInt8) : str a ++ str b = str (a ++ b) := by
  unfold str; exact ByteArray.mk_append_mk a b
theorem L_append (a b : ByteArray) : L (a ++ b) = L a ++ L b := by
  have : a ++ b = str (L a ++ L b) := by rw [← str_append]; rfl
  rw [this, L_str]
theorem L_empty : L ByteArray.empty = [] := rfl
theorem L_ne {s : ByteArray} (h : 0 < s.size) : L s ≠ [] := by
  intro e; have := L_len s; rw [e] at this; simp at this; omega
end Go.Cs

namespace Go.Cs
open Go.Lib
set_option linter.unusedVariables false
/-! ### Names of character sets, bytewise decoders -/
def lowerB (b : UInt8) : UInt8 := if 65 ≤ b.toNat ∧ b.toNat ≤ 90 then (b.toNat + 32).toUInt8 else b
def nmUsAscii : List UInt8 := [117, 115, 45, 97, 115, 99, 105, 105]
def nmAscii : List UInt8 := [97, 115, 99, 105, 105]
def nmUtf_8 : List UInt8 := [117, 116, 102, 45, 56]
def nmUtf8 : List UInt8 := [117, 116, 102, 56]
def nmIso : List UInt8 := [105, 115, 111, 45, 56, 56, 53, 57, 45, 49]
def nmLatin1 : List UInt8 := [108, 97, 116, 105, 110, 49]
def nmWin : List UInt8 := [119, 105, 110, 100, 111, 119, 115, 45, 49, 50, 53, 50]
def nmCp : List UInt8 := [99, 112, 49, 50, 53, 50]
def kindL (m : List UInt8) : Nat :=
  if m = nmUsAscii then 1 else if m = nmAscii then 1 else if m = nmUtf_8 then 2 else if m = nmUtf8 then 2 else if m = nmIso then 3 else if m = nmLatin1 then 3 else if m = nmWin then 4 else if m = nmCp then 4 else 0
def kind (l : List UInt8) : Nat := kindL (l.map lowerB)
def highT : List Nat := [8364, 129, 8218, 402, 8222, 8230, 8224, 8225, 710, 8240, 352, 8249, 338, 141, 381, 143, 144, 8216, 8217, 8220, 8221, 8226, 8211, 8212, 732, 8482, 353, 8250, 339, 157, 382, 376]
/-- The code point of a byte. -/
def sgn (k : Nat) (b : UInt8) : Nat :=
  if k = 1 then (if b.toNat < 128 then b.toNat else 65533) else if k = 3 then b.toNat else if b.toNat < 128 then b.toNat else if b.toNat < 160 then highT.getD (b.toNat - 128) 0 else b.toNat
def decodeS (name l : List UInt8) : List UInt8 := if kind name = 2 then repair l else encs (l.map (sgn (kind name)))
theorem highT_scal : ∀ c ∈ highT, scal c := by decide
theorem highT_get (i : Nat) (h : i < 32) : scal (highT.getD i 0) ∧ highT.getD i 0 ≤ 65535 := by
  have : ∀ i : Fin 32, scal (highT.getD i.val 0) ∧ highT.getD i.val 0 ≤ 65535 := by decide
  exact this ⟨i, h⟩
theorem sgn_scal (k : Nat) (b : UInt8) : scal (sgn k b) := by
  have hb := UInt8.toNat_lt b
  unfold sgn
  split
  · split
    · exact .inl (by omega)
    · exact scal_bad
  · split
    · exact .inl (by omega)
    · split
      · exact .inl (by omega)
      · split
        · exact (highT_get _ (by omega)).1
        · exact .inl (by omega)
theorem sgn_low (k : Nat) (b : UInt8) (h : b.toNat < 128) : sgn k b = b.toNat := by
  unfold sgn
  simp [h]
theorem kind_le (l : List UInt8) : kind l ≤ 4 := by
  unfold kind kindL
  repeat' split
  all_goals omega
theorem decodeS_len (name l : List UInt8) : (decodeS name l).length ≤ 4 * l.length := by
  unfold decodeS
  split
  · have := repair_len l; omega
  · have := (encs_len (l.map (sgn (kind name)))).2
    rw [List.length_map] at this; exact this
theorem decodeS_valid (name l : List UInt8) : validD (decodeS name l) = true := by
  unfold decodeS
  split
  · exact repair_valid l
  · exact valid_encs' _ fun c hc => by
      obtain ⟨b, _, rfl⟩ := List.mem_map.1 hc
      exact sgn_scal _ b
theorem runes_sgn (k : Nat) (l : List UInt8) : runes (encs (l.map (sgn k))) = l.map (sgn k) := runes_encs' _ fun c hc => by
  obtain ⟨b, _, rfl⟩ := List.mem_map.1 hc
  exact sgn_scal _ b
theorem encs_low (l : List UInt8) (h : ∀ b ∈ l, b.toNat < 128) : encs (l.map UInt8.toNat) = l := by
  induction l with
  | nil => rfl
  | cons b t ih =>
    rw [List.map_cons, encs_cons, ih fun x hx => h x (by simp [hx]), enc_of1 (h b (by simp)) rfl]; rfl
theorem runes_low (l : List UInt8) (h : ∀ b ∈ l, b.toNat < 128) : runes l = l.map UInt8.toNat := by
  have e := encs_low l h
  have := runes_encs' (l.map UInt8.toNat) (fun c hc => by
    obtain ⟨b, hb, rfl⟩ := List.mem_map.1 hc
    exact .inl (by have := h b hb; omega))
  rwa [e] at this
theorem decodeS_low (name l : List UInt8) (h : ∀ b ∈ l, b.toNat < 128) : decodeS name l = l := by
  unfold decodeS
  split
  · unfold repair; rw [runes_low l h, encs_low l h]
  · have : l.map (sgn (kind name)) = l.map UInt8.toNat := List.map_congr_left fun b hb => sgn_low _ b (h b hb)
    rw [this, encs_low l h]
end Go.Cs

namespace Go.Cs
open Go.Lib
set_option linter.unusedVariables false
theorem b2 (x : Nat) (y : Int) (h : (x : Int) = y) : UInt8.ofNat x = y.toNat.toUInt8 := by subst h; rfl
set_option maxHeartbeats 1000000 in
/-- The model's encoding and the shelf's are one. -/
theorem encode_str (r : Int) : Utf8.encode r = str (encodeRune r) := by
  unfold str encodeRune
  by_cases hv : (0 ≤ r ∧ r < 55296) ∨ (57344 ≤ r ∧ r ≤ 1114111)
  · have hv' : Utf8.valid r = true := by unfold Utf8.valid; simp; omega
    unfold Utf8.encode
    rw [if_pos hv']
    dsimp only
    by_cases h1 : r ≤ 127
    · rw [if_pos (by omega), encodeRuneZ_one (by omega) h1]; rfl
    by_cases h2 : r ≤ 2047
    · rw [if_neg (by omega), if_pos (by omega), encodeRuneZ_two (by omega) h2]
      simp only [List.map_cons, List.map_nil]
      rw [b2 (192 + r.toNat / 64) (192 + r / 64) (by omega), b2 (128 + r.toNat % 64) (128 + r % 64) (by omega)]
    by_cases h3 : r ≤ 65535
    · rw [if_neg (by omega), if_neg (by omega), if_pos (by omega), encodeRuneZ_three (by omega)]
      simp only [List.map_cons, List.map_nil]
      rw [b2 (224 + r.toNat / 4096) (224 + r / 4096) (by omega), b2 (128 + r.toNat / 64 % 64) (128 + r / 64 % 64) (by omega), b2 (128 + r.toNat % 64) (128 + r % 64) (by omega)]
    · rw [if_neg (by omega), if_neg (by omega), if_neg (by omega), encodeRuneZ_four (by omega) (by omega)]
      simp only [List.map_cons, List.map_nil]
      rw [b2 (240 + r.toNat / 262144) (240 + r / 262144) (by omega), b2 (128 + r.toNat / 4096 % 64) (128 + r / 4096 % 64) (by omega), b2 (128 + r.toNat / 64 % 64) (128 + r / 64 % 64) (by omega), b2 (128 + r.toNat % 64) (128 + r % 64) (by omega)]
  · have hv' : Utf8.valid r = false := by unfold Utf8.valid; simp; omega
    unfold Utf8.encode
    rw [hv', encodeRuneZ_bad (by omega)]
    simp only [Bool.false_eq_true, if_false]
    decide +kernel
theorem empty_iff (s : ByteArray) : s = ⟨#[]⟩ ↔ s.size = 0 := by
  constructor
  · intro h; rw [h]; rfl
  · intro h
    rw [← str_L s]
    have : L s = [] := List.eq_nil_of_length_eq_zero (by rw [L_len]; exact h)
    rw [this]; rfl
theorem take_byte (s : ByteArray) (n : Nat) (h : n < s.size) : ∃ x : UInt8, s.data.toList.getD n 0 = x ∧ (L s)[n]? = some x ∧ (L s).take (n + 1) = (L s).take n ++ [x] ∧ (L s).drop n = x :: (L s).drop (n + 1) := by
  have hl := L_len s
  have hn : n < (L s).length := by omega
  refine ⟨(L s)[n], ?_, List.getElem?_eq_getElem hn, ?_, ?_⟩
  · show (L s).getD n 0 = _; rw [List.getD, List.getElem?_eq_getElem hn]; rfl
  · rw [List.take_add_one, List.getElem?_eq_getElem hn]; rfl
  · rw [List.drop_eq_getElem_cons hn]
end Go.Cs
