/- Helper text of this claim: Cs0: lemmas and contracts that the proved statement rests on; no conditions of its own. -/
import Derived.Lib.ValidLaws
import Derived.Lib.RuneBytes
import Derived.Lib.MapLaws
namespace Go.Cs
open Go.Lib
set_option linter.unusedVariables false
/-! ### Text as bytes and code points: plain -/
def scal (n : Nat) : Prop := n < 55296 ∨ (57343 < n ∧ n ≤ 1114111)
instance (n : Nat) : Decidable (scal n) := by unfold scal; infer_instance
def enc (n : Nat) : List UInt8 := encodeRune (n : Int)
def encs (rs : List Nat) : List UInt8 := rs.flatMap enc
theorem encs_nil : encs [] = [] := rfl
theorem encs_cons (c : Nat) (rs : List Nat) : encs (c :: rs) = enc c ++ encs rs := rfl
theorem encs_append (a b : List Nat) : encs (a ++ b) = encs a ++ encs b := by unfold encs; rw [List.flatMap_append]
theorem enc_len (c : Nat) : 1 ≤ (enc c).length ∧ (enc c).length ≤ 4 := by
  have := runeCells_le (c : Int)
  rw [runeCells_length] at this; exact this
theorem u8_back (b : UInt8) : (((b.toNat : Nat) : Int).toNat).toUInt8 = b := by simp
theorem enc1 {c : Nat} (h : c < 128) : enc c = [c.toUInt8] := by
  unfold enc encodeRune; rw [encodeRuneZ_one (by omega) (by omega)]; simp
theorem enc_of1 {c : Nat} {b0 : UInt8} (h : c < 128) (e0 : c = b0.toNat) : enc c = [b0] := by
  rw [enc1 h, e0]; simp
theorem toU (x : Int) (b : UInt8) (h : x = b.toNat) : x.toNat.toUInt8 = b := by subst h; simp
theorem enc_of2 {c : Nat} {b0 b1 : UInt8} (h : 128 ≤ c) (h' : c ≤ 2047) (e0 : (192 + (c : Int) / 64) = b0.toNat) (e1 : (128 + (c : Int) % 64) = b1.toNat) : enc c = [b0, b1] := by
  unfold enc encodeRune; rw [encodeRuneZ_two (by omega) (by omega)]
  simp only [List.map_cons, List.map_nil, toU _ _ e0, toU _ _ e1]
theorem enc_of3 {c : Nat} {b0 b1 b2 : UInt8} (h : 2048 ≤ c ∧ c ≤ 65535 ∧ scal c) (e0 : (224 + (c : Int) / 4096) = b0.toNat) (e1 : (128 + (c : Int) / 64 % 64) = b1.toNat) (e2 : (128 + (c : Int) % 64) = b2.toNat) : enc c = [b0, b1, b2] := by
  unfold enc encodeRune; rw [encodeRuneZ_three (by unfold scal at h; omega)]
  simp only [List.map_cons, List.map_nil, toU _ _ e0, toU _ _ e1, toU _ _ e2]
theorem enc_of4 {c : Nat} {b0 b1 b2 b3 : UInt8} (h : 65536 ≤ c) (h' : c ≤ 1114111) (e0 : (240 + (c : Int) / 262144) = b0.toNat) (e1 : (128 + (c : Int) / 4096 % 64) = b1.toNat) (e2 : (128 + (c : Int) / 64 % 64) = b2.toNat) (e3 : (128 + (c : Int) % 64) = b3.toNat) : enc c = [b0, b1, b2, b3] := by
  unfold enc encodeRune; rw [encodeRuneZ_four (by omega) (by omega)]
  simp only [List.map_cons, List.map_nil, toU _ _ e0, toU _ _ e1, toU _ _ e2, toU _ _ e3]
/-- What a decoder's step says of the bytes ahead. -/
def Whole (l : List UInt8) (c k : Nat) : Prop := scal c ∧ l.take k = enc c ∧ k = (enc c).length ∧ ¬ (c = 65533 ∧ k = 1)
set_option maxHeartbeats 4000000 in
theorem dec_whole (l : List UInt8) (hne : l ≠ []) : decodeL l = (65533, 1) ∨ Whole l (decodeL l).1 (decodeL l).2 := by
  rw [decodeL_N]
  obtain ⟨b0, t, rfl⟩ := List.exists_cons_of_ne_nil hne
  have h0 := UInt8.toNat_lt b0
  simp only [List.getD_cons_zero, List.getD_cons_succ, List.length_cons]
  have h1 := UInt8.toNat_lt (t.getD 0 0)
  have h2 := UInt8.toNat_lt (t.getD 1 0)
  have h3 := UInt8.toNat_lt (t.getD 2 0)
  unfold decodeN
  split
  · rename_i h
    right
    have e := enc_of1 h (b0 := b0) rfl
    exact ⟨.inl (by omega), by rw [e]; rfl, by rw [e]; rfl, by omega⟩
  · split
    · rename_i h
      split
      · rename_i hc
        right
        obtain ⟨b1, t, rfl⟩ := List.exists_cons_of_ne_nil (l := t) (by rintro rfl; simp at h)
        simp only [List.getD_cons_zero] at *
        have e := enc_of2 (c := b0.toNat % 32 * 64 + b1.toNat % 64) (b0 := b0) (b1 := b1) (by omega) (by omega) (by omega) (by omega)
        exact ⟨.inl (by omega), by rw [e]; rfl, by rw [e]; rfl, by omega⟩
      · exact .inl rfl
    · split
      · rename_i h
        split
        · rename_i hc
          right
          obtain ⟨b1, t, rfl⟩ := List.exists_cons_of_ne_nil (l := t) (by rintro rfl; simp at h)
          obtain ⟨b2, t, rfl⟩ := List.exists_cons_of_ne_nil (l := t) (by rintro rfl; simp at h)
          simp only [List.getD_cons_zero, List.getD_cons_succ] at *
          have hs : scal (b0.toNat % 16 * 4096 + b1.toNat % 64 * 64 + b2.toNat % 64) := by unfold scal; omega
          have e := enc_of3 (c := b0.toNat % 16 * 4096 + b1.toNat % 64 * 64 + b2.toNat % 64) (b0 := b0) (b1 := b1) (b2 := b2) ⟨by omega, by omega, hs⟩ (by omega) (by omega) (by omega)
          exact ⟨hs, by rw [e]; rfl, by rw [e]; rfl, by omega⟩
        · exact .inl rfl
      · split
        · rename_i h
          split
          · rename_i hc
            right
            obtain ⟨b1, t, rfl⟩ := List.exists_cons_of_ne_nil (l := t) (by rintro rfl; simp at h)
            obtain ⟨b2, t, rfl⟩ := List.exists_cons_of_ne_nil (l := t) (by rintro rfl; simp at h)
            obtain ⟨b3, t, rfl⟩ := List.exists_cons_of_ne_nil (l := t) (by rintro rfl; simp at h)
            simp only [List.getD_cons_zero, List.getD_cons_succ] at *
            have hs : scal (b0.toNat % 8 * 262144 + b1.toNat % 64 * 4096 + b2.toNat % 64 * 64 + b3.toNat % 64) := by unfold scal; omega
            have e := enc_of4 (c := b0.toNat % 8 * 262144 + b1.toNat % 64 * 4096 + b2.toNat % 64 * 64 + b3.toNat % 64) (b0 := b0) (b1 := b1) (b2 := b2) (b3 := b3) (by omega) (by omega) (by omega) (by omega) (by omega) (by omega)
            exact ⟨hs, by rw [e]; rfl, by rw [e]; rfl, by omega⟩
          · exact .inl rfl
        · exact .inl rfl
theorem u8n (x : Int) (h : 0 ≤ x ∧ x < 256) : (x.toNat.toUInt8).toNat = x.toNat := by
  simp; omega
set_option maxHeartbeats 4000000 in
theorem dec_enc (c : Nat) (h : scal c) (t : List UInt8) : decodeL (enc c ++ t) = (c, (enc c).length) := by
  rw [decodeL_N]
  unfold scal at h
  unfold enc encodeRune
  by_cases h1 : c < 128
  · rw [encodeRuneZ_one (by omega) (by omega)]
    simp only [List.map_cons, List.map_nil, List.cons_append, List.nil_append, List.getD_cons_zero, List.length_cons, List.length_nil]
    rw [u8n _ (by omega)]
    unfold decodeN
    rw [if_pos (by omega)]
    simp
  by_cases h2 : c ≤ 2047
  · rw [encodeRuneZ_two (by omega) (by omega)]
    simp only [List.map_cons, List.map_nil, List.cons_append, List.nil_append, List.getD_cons_zero, List.getD_cons_succ, List.length_cons, List.length_nil]
    rw [u8n _ (by omega), u8n _ (by omega)]
    unfold decodeN
    rw [if_neg (by omega), if_pos (by omega), if_pos (by omega)]
    congr 1; omega
  by_cases h3 : c ≤ 65535
  · rw [encodeRuneZ_three (by omega)]
    simp only [List.map_cons, List.map_nil, List.cons_append, List.nil_append, List.getD_cons_zero, List.getD_cons_succ, List.length_cons, List.length_nil]
    rw [u8n _ (by omega), u8n _ (by omega), u8n _ (by omega)]
    unfold decodeN
    rw [if_neg (by omega), if_neg (by omega), if_pos (by omega), if_pos (by omega)]
    congr 1; omega
  · rw [encodeRuneZ_four (by omega) (by omega)]
    simp only [List.map_cons, List.map_nil, List.cons_append, List.nil_append, List.getD_cons_zero, List.getD_cons_succ, List.length_cons, List.length_nil]
    rw [u8n _ (by omega), u8n _ (by omega), u8n _ (by omega), u8n _ (by omega)]
    unfold decodeN
    rw [if_neg (by omega), if_neg (by omega), if_neg (by omega), if_pos (by omega), if_pos (by omega)]
    congr 1; omega

def runesF : Nat → List UInt8 → List Nat
  | 0, _ => []
  | _ + 1, [] => []
  | n + 1, b :: t => (decodeL (b :: t)).1 :: runesF n ((b :: t).drop (decodeL (b :: t)).2)
def runes (l : List UInt8) : List Nat := runesF l.length l
theorem runesF_fuel : ∀ (n m : Nat) (l : List UInt8), l.length ≤ n → l.length ≤ m → runesF n l = runesF m l
  | 0, m, l, hn, _ => by
    have : l = [] := List.eq_nil_of_length_eq_zero (by omega)
    subst this
    cases m <;> rfl
  | n + 1, 0, l, _, hm => by
    have : l = [] := List.eq_nil_of_length_eq_zero (by omega)
    subst this; rfl
  | n + 1, m + 1, [], _, _ => rfl
  | n + 1, m + 1, b :: t, hn, hm => by
    have hw := decodeL_width (b :: t)
    simp only [runesF]
    rw [runesF_fuel n m _ (by rw [List.length_drop]; omega) (by rw [List.length_drop]; omega)]
theorem runes_nil : runes [] = [] := rfl
theorem runes_step (l : List UInt8) (hne : l ≠ []) : runes l = (decodeL l).1 :: runes (l.drop (decodeL l).2) := by
  obtain ⟨b, t, rfl⟩ := List.exists_cons_of_ne_nil hne
  have hw := decodeL_width (b :: t)
  show (decodeL (b :: t)).1 :: runesF t.length _ = _
  rw [runesF_fuel t.length ((b :: t).drop (decodeL (b :: t)).2).length _ (by rw [List.length_drop, List.length_cons]; omega) (Nat.le_refl _)]
  rfl
theorem dec_ind {motive : List UInt8 → Prop} (nil : motive []) (step : ∀ l, l ≠ [] → motive (l.drop (decodeL l).2) → motive l) : ∀ l, motive l := by
  have key : ∀ n l, l.length = n → motive l := by
    intro n
    induction n using Nat.strongRecOn with
    | _ n ih =>
      intro l hl
      by_cases hne : l = []
      · rw [hne]; exact nil
      · have hw := decodeL_width l
        have h0 : 0 < l.length := List.length_pos_iff.2 hne
        exact step l hne (ih _ (by rw [List.length_drop]; omega) _ rfl)
  exact fun l => key _ l rfl
def repair (l : List UInt8) : List UInt8 := encs (runes l)
theorem scal_bad : scal 65533 := .inr ⟨by omega, by omega⟩
theorem dec_scal (l : List UInt8) (hne : l ≠ []) : scal (decodeL l).1 := by
  rcases dec_whole l hne with h | h
  · rw [h]; exact scal_bad
  · exact h.1
theorem runes_scal (l : List UInt8) : ∀ c ∈ runes l, scal c := by
  induction l using dec_ind with
  | nil => intro c hc; cases hc
  | step l hne ih =>
    intro c hc
    rw [runes_step l hne] at hc
    rcases List.mem_cons.1 hc with rfl | hc
    · exact dec_scal l hne
    · exact ih c hc
theorem enc_ne (c : Nat) (t : List UInt8) : enc c ++ t ≠ [] := by
  have := enc_len c
  intro h
  have h := congrArg List.length h
  rw [List.length_append, List.length_nil] at h; omega
theorem runes_enc (c : Nat) (h : scal c) (t : List UInt8) : runes (enc c ++ t) = c :: runes t := by
  rw [runes_step _ (enc_ne c t), dec_enc c h]
  simp
theorem runes_encs (rs : List Nat) (h : ∀ c ∈ rs, scal c) (t : List UInt8) : runes (encs rs ++ t) = rs ++ runes t := by
  induction rs with
  | nil => rfl
  | cons c rs ih =>
    rw [encs_cons, List.append_assoc, runes_enc c (h c (by simp)), ih fun x hx => h x (by simp [hx])]; rfl
theorem runes_encs' (rs : List Nat) (h : ∀ c ∈ rs, scal c) : runes (encs rs) = rs := by
  have := runes_encs rs h []
  simpa [runes_nil] using this
theorem enc_bad_len : (enc 65533).length = 3 := by decide
theorem valid_enc (c : Nat) (h : scal c) (t : List UInt8) : validD (enc c ++ t) = validD t := by
  rw [validD_step _ (enc_ne c t), dec_enc c h, if_neg]
  · simp
  · rintro ⟨h1, h2⟩
    simp only at h1 h2
    subst h1
    rw [enc_bad_len] at h2; omega
theorem valid_encs (rs : List Nat) (h : ∀ c ∈ rs, scal c) (t : List UInt8) : validD (encs rs ++ t) = validD t := by
  induction rs with
  | nil => rfl
  | cons c rs ih => rw [encs_cons, List.append_assoc, valid_enc c (h c (by simp)), ih fun x hx => h x (by simp [hx])]
theorem valid_encs' (rs : List Nat) (h : ∀ c ∈ rs, scal c) : validD (encs rs) = true := by
  have := valid_encs rs h []
  simpa [validD_nil] using this
theorem repair_of_valid (l : List UInt8) : validD l = true → repair l = l := by
  unfold repair
  induction l using dec_ind with
  | nil => intro _; rfl
  | step l hne ih =>
    intro hv
    rw [validD_step l hne] at hv
    split at hv
    · cases hv
    · rename_i hb
      rw [runes_step l hne, encs_cons, ih hv]
      rcases dec_whole l hne with h | h
      · rw [h] at hb; simp at hb
      · rw [← h.2.1, List.take_append_drop]
theorem repair_valid (l : List UInt8) : validD (repair l) = true := valid_encs' _ (runes_scal l)
theorem repair_iff (l : List UInt8) : repair l = l ↔ validD l = true := ⟨fun h => by rw [← h]; exact repair_valid l, repair_of_valid l⟩
theorem runes_repair (l : List UInt8) : runes (repair l) = runes l := runes_encs' _ (runes_scal l)
theorem repair_repair (l : List UInt8) : repair (repair l) = repair l := by show encs (runes (repair l)) = _; rw [runes_repair]; rfl
theorem dec_le4 (l : List UInt8) (hne : l ≠ []) : (decodeL l).2 ≤ 4 := by
  rcases dec_whole l hne with h | h
  · rw [h]; simp
  · rw [h.2.2.1]; exact (enc_len _).2
theorem runes_len (l : List UInt8) : (runes l).length ≤ l.length ∧ l.length ≤ 4 * (runes l).length := by
  induction l using dec_ind with
  | nil => exact ⟨Nat.le_refl _, Nat.le_refl _⟩
  | step l hne ih =>
    have hw := decodeL_width l
    have h4 := dec_le4 l hne
    have hl := decodeL_le l hne
    rw [runes_step l hne]
    rw [List.length_drop] at ih
    simp only [List.length_cons]
    omega
theorem repair_len (l : List UInt8) : (repair l).length ≤ 3 * l.length := by
  unfold repair
  induction l using dec_ind with
  | nil => exact Nat.le_refl _
  | step l hne ih =>
    have hw := decodeL_width l
    have hl := decodeL_le l hne
    rw [List.length_drop] at ih
    rw [runes_step l hne, encs_cons, List.length_append]
    rcases dec_whole l hne with h | h
    · have e1 : (decodeL l).1 = 65533 := by rw [h]
      have e2 : (decodeL l).2 = 1 := by rw [h]
      have := enc_bad_len
      rw [e1]
      omega
    · have := h.2.2.1
      omega
theorem encs_len (rs : List Nat) : rs.length ≤ (encs rs).length ∧ (encs rs).length ≤ 4 * rs.length := by
  induction rs with
  | nil => exact ⟨Nat.le_refl _, Nat.le_refl _⟩
  | cons c rs ih =>
    have := enc_len c
    rw [encs_cons, List.length_append, List.length_cons]; omega
theorem repair_app (a b : List UInt8) : repair (repair a ++ b) = repair a ++ repair b := by
  show encs (runes (repair a ++ b)) = _
  have : runes (repair a ++ b) = runes a ++ runes b := runes_encs _ (runes_scal a) b
  rw [this, encs_append]; rfl
theorem valid_app (a b : List UInt8) : validD (repair a ++ b) = validD b := valid_encs _ (runes_scal a) b
end Go.Cs
