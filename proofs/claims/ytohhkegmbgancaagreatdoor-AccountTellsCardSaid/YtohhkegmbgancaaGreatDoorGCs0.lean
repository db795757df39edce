/- Helper text of this claim: lemmas and contracts that the proved statement rests on; no conditions of its own. -/
import Derived.Lib.ValidLaws
import Derived.Lib.RuneBytes
import Derived.Lib.MapLaws
import Derived.Laws.Concat
import Derived.Lib.ConvBytes
import Derived.Laws.IdiomStrings
import Derived.Laws.BytesArg
import Derived.Lib.UnsafeStr
import Derived.Test.YtohhkegmbgancaaGreatDoorProg
import Derived.Test.YtohhkegmbgancaaGreatDoorWcz
namespace Go.Cs
set_option maxHeartbeats 4000000
open Go.Lib
set_option linter.unusedVariables false
def scal (n : Nat) : Prop := n < 55296 ∨ (57343 < n ∧ n ≤ 1114111)
instance (n : Nat) : Decidable (scal n) := by unfold scal; infer_instance
def enc (n : Nat) : List UInt8 := encodeRune (n : Int)
def encs (rs : List Nat) : List UInt8 := rs.flatMap enc
theorem zkQ (c : Nat) (rs : List Nat) : encs (c :: rs) = enc c ++ encs rs := rfl
theorem znY (c : Nat) : 1 ≤ (enc c).length ∧ (enc c).length ≤ 4 := by
 have := runeCells_le (c : Int)
 rw [runeCells_length] at this; exact this
theorem enc1 {c : Nat} (h : c < 128) : enc c = [c.toUInt8] := by
 unfold enc encodeRune; rw [encodeRuneZ_one (by omega) (by omega)]; simp
theorem zos {c : Nat} {b0 : UInt8} (h : c < 128) (e0 : c = b0.toNat) : enc c = [b0] := by
 rw [enc1 h, e0]; simp
theorem toU (x : Int) (b : UInt8) (h : x = b.toNat) : x.toNat.toUInt8 = b := by subst h; simp
theorem zpf {c : Nat} {b0 b1 : UInt8} (h : 128 ≤ c) (h' : c ≤ 2047) (e0 : (192 + (c : Int) / 64) = b0.toNat) (e1 : (128 + (c : Int) % 64) = b1.toNat) : enc c = [b0, b1] := by
 unfold enc encodeRune; rw [encodeRuneZ_two (by omega) (by omega)]
 simp only [List.map_cons, List.map_nil, toU _ _ e0, toU _ _ e1]
theorem zoa {c : Nat} {b0 b1 b2 : UInt8} (h : 2048 ≤ c ∧ c ≤ 65535 ∧ scal c) (e0 : (224 + (c : Int) / 4096) = b0.toNat) (e1 : (128 + (c : Int) / 64 % 64) = b1.toNat) (e2 : (128 + (c : Int) % 64) = b2.toNat) : enc c = [b0, b1, b2] := by
 unfold enc encodeRune; rw [encodeRuneZ_three (by unfold scal at h; omega)]
 simp only [List.map_cons, List.map_nil, toU _ _ e0, toU _ _ e1, toU _ _ e2]
theorem zoi {c : Nat} {b0 b1 b2 b3 : UInt8} (h : 65536 ≤ c) (h' : c ≤ 1114111) (e0 : (240 + (c : Int) / 262144) = b0.toNat) (e1 : (128 + (c : Int) / 4096 % 64) = b1.toNat) (e2 : (128 + (c : Int) / 64 % 64) = b2.toNat) (e3 : (128 + (c : Int) % 64) = b3.toNat) : enc c = [b0, b1, b2, b3] := by
 unfold enc encodeRune; rw [encodeRuneZ_four (by omega) (by omega)]
 simp only [List.map_cons, List.map_nil, toU _ _ e0, toU _ _ e1, toU _ _ e2, toU _ _ e3]
def Whole (l : List UInt8) (c k : Nat) : Prop := scal c ∧ l.take k = enc c ∧ k = (enc c).length ∧ ¬ (c = 65533 ∧ k = 1)
theorem dec_whole (l : List UInt8) (hne : l ≠ []) : decodeL l = (65533, 1) ∨ Whole l (decodeL l).1 (decodeL l).2 := by
 rw [decodeL_N]
 obtain ⟨b0, t, rfl⟩ := List.exists_cons_of_ne_nil hne
 have h0 := UInt8.toNat_lt b0
 simp only [List.getD_cons_zero, List.getD_cons_succ, List.length_cons]
 have h1 := UInt8.toNat_lt (t.getD 0 0)
 have h2 := UInt8.toNat_lt (t.getD 1 0)
 have h3 := UInt8.toNat_lt (t.getD 2 0)
 unfold decodeN
 split
 ·rename_i h
  right
  have e := zos h (b0 := b0) rfl
  exact ⟨.inl (by omega), by rw [e]; rfl, by rw [e]; rfl, by omega⟩
 ·split
  ·rename_i h
   split
   ·rename_i hc
    right
    obtain ⟨b1, t, rfl⟩ := List.exists_cons_of_ne_nil (l := t) (by rintro rfl; simp at h)
    simp only [List.getD_cons_zero] at *
    have e := zpf (c := b0.toNat % 32 * 64 + b1.toNat % 64) (b0 := b0) (b1 := b1) (by omega) (by omega) (by omega) (by omega)
    exact ⟨.inl (by omega), by rw [e]; rfl, by rw [e]; rfl, by omega⟩
   ·exact .inl rfl
  ·split
   ·rename_i h
    split
    ·rename_i hc
     right
     obtain ⟨b1, t, rfl⟩ := List.exists_cons_of_ne_nil (l := t) (by rintro rfl; simp at h)
     obtain ⟨b2, t, rfl⟩ := List.exists_cons_of_ne_nil (l := t) (by rintro rfl; simp at h)
     simp only [List.getD_cons_zero, List.getD_cons_succ] at *
     have hs : scal (b0.toNat % 16 * 4096 + b1.toNat % 64 * 64 + b2.toNat % 64) := by unfold scal; omega
     have e := zoa (c := b0.toNat % 16 * 4096 + b1.toNat % 64 * 64 + b2.toNat % 64) (b0 := b0) (b1 := b1) (b2 := b2) ⟨by omega, by omega, hs⟩ (by omega) (by omega) (by omega)
     exact ⟨hs, by rw [e]; rfl, by rw [e]; rfl, by omega⟩
    ·exact .inl rfl
   ·split
    ·rename_i h
     split
     ·rename_i hc
      right
      obtain ⟨b1, t, rfl⟩ := List.exists_cons_of_ne_nil (l := t) (by rintro rfl; simp at h)
      obtain ⟨b2, t, rfl⟩ := List.exists_cons_of_ne_nil (l := t) (by rintro rfl; simp at h)
      obtain ⟨b3, t, rfl⟩ := List.exists_cons_of_ne_nil (l := t) (by rintro rfl; simp at h)
      simp only [List.getD_cons_zero, List.getD_cons_succ] at *
      have hs : scal (b0.toNat % 8 * 262144 + b1.toNat % 64 * 4096 + b2.toNat % 64 * 64 + b3.toNat % 64) := by unfold scal; omega
      have e := zoi (c := b0.toNat % 8 * 262144 + b1.toNat % 64 * 4096 + b2.toNat % 64 * 64 + b3.toNat % 64) (b0 := b0) (b1 := b1) (b2 := b2) (b3 := b3) (by omega) (by omega) (by omega) (by omega) (by omega) (by omega)
      exact ⟨hs, by rw [e]; rfl, by rw [e]; rfl, by omega⟩
     ·exact .inl rfl
    ·exact .inl rfl
theorem u8n (x : Int) (h : 0 ≤ x ∧ x < 256) : (x.toNat.toUInt8).toNat = x.toNat := by
 simp; omega
theorem zif (c : Nat) (h : scal c) (t : List UInt8) : decodeL (enc c ++ t) = (c, (enc c).length) := by
 rw [decodeL_N]
 unfold scal at h
 unfold enc encodeRune
 by_cases h1 : c < 128
 ·rw [encodeRuneZ_one (by omega) (by omega)]
  simp only [List.map_cons, List.map_nil, List.cons_append, List.nil_append, List.getD_cons_zero, List.length_cons, List.length_nil]
  rw [u8n _ (by omega)]
  unfold decodeN
  rw [if_pos (by omega)]
  simp
 by_cases h2 : c ≤ 2047
 ·rw [encodeRuneZ_two (by omega) (by omega)]
  simp only [List.map_cons, List.map_nil, List.cons_append, List.nil_append, List.getD_cons_zero, List.getD_cons_succ, List.length_cons, List.length_nil]
  rw [u8n _ (by omega), u8n _ (by omega)]
  unfold decodeN
  rw [if_neg (by omega), if_pos (by omega), if_pos (by omega)]
  congr 1; omega
 by_cases h3 : c ≤ 65535
 ·rw [encodeRuneZ_three (by omega)]
  simp only [List.map_cons, List.map_nil, List.cons_append, List.nil_append, List.getD_cons_zero, List.getD_cons_succ, List.length_cons, List.length_nil]
  rw [u8n _ (by omega), u8n _ (by omega), u8n _ (by omega)]
  unfold decodeN
  rw [if_neg (by omega), if_neg (by omega), if_pos (by omega), if_pos (by omega)]
  congr 1; omega
 ·rw [encodeRuneZ_four (by omega) (by omega)]
  simp only [List.map_cons, List.map_nil, List.cons_append, List.nil_append, List.getD_cons_zero, List.getD_cons_succ, List.length_cons, List.length_nil]
  rw [u8n _ (by omega), u8n _ (by omega), u8n _ (by omega), u8n _ (by omega)]
  unfold decodeN
  rw [if_neg (by omega), if_neg (by omega), if_neg (by omega), if_pos (by omega), if_pos (by omega)]
  congr 1; omega
def runesF : Nat → List UInt8 → List Nat
 | 0, _ => []
 | _ + 1, [] => []
 | n + 1, b :: t => (decodeL (b :: t)).1 :: runesF n ((b :: t).drop (decodeL (b :: t)).2)
def runes (l : List UInt8) : List Nat := runesF l.length l
theorem zeM : ∀ (n m : Nat) (l : List UInt8), l.length ≤ n → l.length ≤ m → runesF n l = runesF m l
 | 0, m, l, hn, _ => by
  have : l = [] := List.eq_nil_of_length_eq_zero (by omega)
  subst this
  cases m <;> rfl
 | n + 1, 0, l, _, hm => by
  have : l = [] := List.eq_nil_of_length_eq_zero (by omega)
  subst this; rfl
 | n + 1, m + 1, [], _, _ => rfl
 | n + 1, m + 1, b :: t, hn, hm => by
  have hw := decodeL_width (b :: t)
  simp only [runesF]
  rw [zeM n m _ (by rw [List.length_drop]; omega) (by rw [List.length_drop]; omega)]
theorem zea (l : List UInt8) (hne : l ≠ []) : runes l = (decodeL l).1 :: runes (l.drop (decodeL l).2) := by
 obtain ⟨b, t, rfl⟩ := List.exists_cons_of_ne_nil hne
 have hw := decodeL_width (b :: t)
 show (decodeL (b :: t)).1 :: runesF t.length _ = _
 rw [zeM t.length ((b :: t).drop (decodeL (b :: t)).2).length _ (by rw [List.length_drop, List.length_cons]; omega) (Nat.le_refl _)]
 rfl
theorem zey {motive : List UInt8 → Prop} (nil : motive []) (step : ∀ l, l ≠ [] → motive (l.drop (decodeL l).2) → motive l) : ∀ l, motive l := by
 have key : ∀ n l, l.length = n → motive l := by
  intro n
  induction n using Nat.strongRecOn with
  | _ n ih =>
   intro l hl
   by_cases hne : l = []
   ·rw [hne]; exact nil
   ·have hw := decodeL_width l
    have h0 : 0 < l.length := List.length_pos_iff.2 hne
    exact step l hne (ih _ (by rw [List.length_drop]; omega) _ rfl)
 exact fun l => key _ l rfl
def repair (l : List UInt8) : List UInt8 := encs (runes l)
theorem zjB : scal 65533 := .inr ⟨by omega, by omega⟩
theorem znb (l : List UInt8) (hne : l ≠ []) : scal (decodeL l).1 := by
 rcases dec_whole l hne with h | h
 ·rw [h]; exact zjB
 ·exact h.1
theorem zfS (l : List UInt8) : ∀ c ∈ runes l, scal c := by
 induction l using zey with
 | nil => intro c hc; cases hc
 | step l hne ih =>
  intro c hc
  rw [zea l hne] at hc
  rcases List.mem_cons.1 hc with rfl | hc
  ·exact znb l hne
  ·exact ih c hc
theorem zcZ : (enc 65533).length = 3 := by decide
theorem zfb (l : List UInt8) : validD l = true → repair l = l := by
 unfold repair
 induction l using zey with
 | nil => intro _; rfl
 | step l hne ih =>
  intro hv
  rw [validD_step l hne] at hv
  split at hv
  ·cases hv
  ·rename_i hb
   rw [zea l hne, zkQ, ih hv]
   rcases dec_whole l hne with h | h
   ·rw [h] at hb; simp at hb
   ·rw [← h.2.1, List.take_append_drop]
theorem zlM (l : List UInt8) (hne : l ≠ []) : (decodeL l).2 ≤ 4 := by
 rcases dec_whole l hne with h | h
 ·rw [h]; simp
 ·rw [h.2.2.1]; exact (znY _).2
def bt (l : List UInt8) (i : Nat) : Int := ((l.getD i 0).toNat : Int)
def base (l : List UInt8) (m : Nat) : Int := if m = 1 then bt l 0 else if m = 2 then bt l 0 - 192 else if m = 3 then bt l 0 - 224 else bt l 0 - 240
def candJ (l : List UInt8) (x : Int) : Nat → Int
 | 0 => x
 | j + 1 => 64 * candJ l x j + bt l (j + 1) - 128
def cand (l : List UInt8) (m : Nat) : Int := candJ l (base l m) (m - 1)
def isSign (n : Int) : Bool := decide (0 ≤ n) && (decide (n ≤ 1114111) && (decide (n < 55296) || decide (57343 < n)))
theorem zdZ (n : Int) : isSign n = true ↔ 0 ≤ n ∧ n ≤ 1114111 ∧ (n < 55296 ∨ 57343 < n) := by
 unfold isSign; simp
theorem zfa (n : Int) (h : isSign n = true) : scal n.toNat ∧ (n.toNat : Int) = n := by
 rw [zdZ] at h; unfold scal; omega
theorem zhq (c : Nat) (h : scal c) : isSign (c : Int) = true := by
 rw [zdZ]; unfold scal at h; omega
def okAt (l : List UInt8) (m : Nat) : Bool := isSign (cand l m) && decide (encodeRune (cand l m) = l.take m)
theorem zlN (l : List UInt8) (m : Nat) (h1 : 1 ≤ m) (hm : m ≤ l.length) (h : okAt l m = true) : decodeL l = ((cand l m).toNat, m) ∧ ¬ ((cand l m) = 65533 ∧ m = 1) := by
 unfold okAt at h
 rw [Bool.and_eq_true, decide_eq_true_eq] at h
 obtain ⟨hs, he⟩ := h
 obtain ⟨h2, h3⟩ := zfa _ hs
 have e : enc (cand l m).toNat = l.take m := by unfold enc; rw [h3]; exact he
 have hd := zif _ h2 (l.drop m)
 have hlen : (enc (cand l m).toNat).length = m := by rw [e, List.length_take]; omega
 rw [e, List.take_append_drop] at hd
 rw [hd]
 refine ⟨by rw [List.length_take]; congr 1; omega, ?_⟩
 rintro ⟨h4, h5⟩
 rw [h4, h5] at hlen
 have := zcZ
 rw [show ((65533 : Int)).toNat = 65533 from rfl] at hlen
 omega
theorem zmu (c : Nat) (h : scal c) (t : List UInt8) : cand (enc c ++ t) (enc c).length = c := by
 unfold scal at h
 unfold enc encodeRune
 by_cases h1 : c < 128
 ·rw [encodeRuneZ_one (by omega) (by omega)]
  simp [cand, candJ, base, bt]
  omega
 by_cases h2 : c ≤ 2047
 ·rw [encodeRuneZ_two (by omega) (by omega)]
  simp only [List.map_cons, List.map_nil, List.cons_append, List.nil_append, List.length_cons, List.length_nil, cand, candJ, base, bt, List.getD_cons_zero, List.getD_cons_succ]
  rw [u8n _ (by omega), u8n _ (by omega)]
  simp
  omega
 by_cases h3 : c ≤ 65535
 ·rw [encodeRuneZ_three (by omega)]
  simp only [List.map_cons, List.map_nil, List.cons_append, List.nil_append, List.length_cons, List.length_nil, cand, candJ, base, bt, List.getD_cons_zero, List.getD_cons_succ]
  rw [u8n _ (by omega), u8n _ (by omega), u8n _ (by omega)]
  simp
  omega
 ·rw [encodeRuneZ_four (by omega) (by omega)]
  simp only [List.map_cons, List.map_nil, List.cons_append, List.nil_append, List.length_cons, List.length_nil, cand, candJ, base, bt, List.getD_cons_zero, List.getD_cons_succ]
  rw [u8n _ (by omega), u8n _ (by omega), u8n _ (by omega), u8n _ (by omega)]
  simp
  omega
theorem ziY (l : List UInt8) (hne : l ≠ []) (h : ∀ m, 1 ≤ m → m ≤ 4 → m ≤ l.length → okAt l m = false) : decodeL l = (65533, 1) := by
 rcases dec_whole l hne with h' | ⟨hs, ht, hk, hb⟩
 ·exact h'
 ·exfalso
  have hw := decodeL_width l
  have hl := decodeL_le l hne
  have h4 := zlM l hne
  have := h _ hw h4 hl
  have hc := zmu _ hs (l.drop (decodeL l).2)
  rw [← hk, ← ht, List.take_append_drop] at hc
  unfold okAt at this
  rw [hc, zhq _ hs, ht] at this
  unfold enc at this
  simp at this
def good (l : List UInt8) : Bool := !decide ((decodeL l).1 = 65533 ∧ (decodeL l).2 = 1)
theorem zdj (l : List UInt8) (i : Nat) : 0 ≤ bt l i ∧ bt l i ≤ 255 := by
 have := UInt8.toNat_lt (l.getD i 0)
 unfold bt; omega
theorem zhM (l : List UInt8) (x : Int) (h : -240 ≤ x ∧ x ≤ 255) (j : Nat) (hj : j ≤ 2) : -2000000 ≤ candJ l x j ∧ candJ l x j ≤ 2000000 := by
 have h1 := zdj l (0 + 1)
 have h2 := zdj l (1 + 1)
 match j, hj with
 | 0, _ => simp only [candJ]; omega
 | 1, _ => simp only [candJ]; omega
 | 2, _ => simp only [candJ]; omega
theorem zkh (l : List UInt8) (m : Nat) : -240 ≤ base l m ∧ base l m ≤ 255 := by
 have h1 := zdj l 0
 unfold base
 repeat' split
 all_goals omega
def off (m : Nat) : Int := if m = 2 then 192 else if m = 3 then 224 else 240
theorem znq (l : List UInt8) (m : Nat) (h : 1 < m) : base l m = bt l 0 - off m := by
 unfold base off
 rw [if_neg (by omega)]
 repeat' split
 all_goals first | rfl | omega
def L (s : ByteArray) : List UInt8 := s.data.toList
def str (l : List UInt8) : ByteArray := ⟨l.toArray⟩
theorem L_str (l : List UInt8) : L (str l) = l := rfl
theorem str_L (s : ByteArray) : str (L s) = s := rfl
theorem L_len (s : ByteArray) : (L s).length = s.size := rfl
theorem zav (l : List UInt8) : (str l).size = l.length := rfl
theorem zbm {a b : List UInt8} : str a = str b ↔ a = b := by
 constructor
 ·intro h; rw [← L_str a, h, L_str]
 ·intro h; rw [h]
theorem L_extract (s : ByteArray) (i j : Nat) : L (s.extract i j) = ((L s).take j).drop i := by
 unfold L
 rw [ByteArray.data_extract, Array.toList_extract, List.extract_eq_take_drop, List.drop_take]
theorem L_from (s : ByteArray) (i : Nat) : L (s.extract i s.size) = (L s).drop i := by
 rw [L_extract, List.take_of_length_le (by rw [L_len]; exact Nat.le_refl _)]
theorem zil (s : ByteArray) (i j : Nat) : s.extract i j = str (((L s).take j).drop i) := by rw [← L_extract, str_L]
theorem L_ne {s : ByteArray} (h : 0 < s.size) : L s ≠ [] := by
 intro e; have := L_len s; rw [e] at this; simp at this; omega
end Go.Cs
namespace Go.Vc
set_option maxHeartbeats 4000000
open Go Go.Pw Go.RowKit
set_option linter.unusedVariables false
section
variable {w w' : World} {B s n : Nat} {e : TypeId} {v : Value} {xs : List Value} {c : Nat → Prop}
theorem zah (h : w.ownsRow B e s v n xs) (k : Kp w w' c) (hc : ∀ b, v.ownBlock = some b → ¬ c b) : w'.ownsRow B e s v n xs := by
 refine ⟨h.1, ?_⟩
 rcases h.2 with hn | ⟨g, cap, cur, rfl, hb, hgg, rest⟩
 ·exact .inl hn
 ·have hlt : g < w.heap.size := by
   rcases Nat.lt_or_ge g w.heap.size with h' | h'
   ·exact h'
   ·rw [Array.getElem?_eq_none h'] at hgg; cases hgg
  exact .inr ⟨g, cap, cur, rfl, hb, (k.block g hlt (hc g rfl)).trans hgg, rest⟩
theorem zaf (h : w.ownsRow B e s v n xs) (k : Kp w w' n_) : w'.ownsRow B e s v n xs := zah h k fun _ _ => id
theorem zaj {B' : Nat} (h : w.ownsRow B e s v n xs) (hB : B' ≤ B) : w.ownsRow B' e s v n xs := by
 refine ⟨h.1, ?_⟩
 rcases h.2 with hn | ⟨g, cap, cur, rfl, hb, rest⟩
 ·exact .inl hn
 ·exact .inr ⟨g, cap, cur, rfl, Nat.le_trans hB hb, rest⟩
theorem zab (h : w.ownsRow B e s v n xs) : ∃ a cap, v = .slice a n cap := by
 rcases h.2 with ⟨rfl, rfl⟩ | ⟨g, cap, cur, rfl, _⟩
 ·exact ⟨_, _, rfl⟩
 ·exact ⟨_, _, rfl⟩
theorem zmT (h : w.ownsRow B e 1 v n xs) : xs.length = n := by have := h.1; omega
theorem zcx {a : Option Addr} {cap : Nat} (h : w.ownsRow B e s (.slice a n cap) n xs) (h0 : 0 < n) : ∃ g, a = some ⟨g, 0, none⟩ ∧ B ≤ g ∧ g < w.heap.size ∧ At w g 0 xs := by
 rcases h.2 with ⟨h1, h2⟩ | ⟨g, cap', cur, h1, hb, hgg, _⟩
 ·omega
 ·injection h1 with h1 _ h3
  subst h1
  subst h3
  refine ⟨g, rfl, hb, (h.lt g rfl).2, fun i u hi => ?_⟩
  have := h.cells (g := g) rfl i u hi
  rw [add_none] at this; exact this
theorem _root_.Go.Pw.Kp.grown {a : World} {row : Option Nat} (h : Kp a w c) (hg : w.grownBy w' row) (hr : ∀ k, row = some k → a.heap.size ≤ k) : Kp a w' c :=
 ⟨hg.os.trans h.os, hg.tape.trans h.tape, hg.output.trans h.output, Nat.le_trans h.size hg.size, fun i hi hn =>
  (hg.block i (Nat.lt_of_lt_of_le hi h.size) (fun e => by have := hr i e.symm; omega)).trans (h.block i hi hn)⟩
theorem _root_.Go.Pw.Kp.own {a : World} (h : Kp a w c) (ho : w.ownsRow B e s v n xs) (hB : a.heap.size ≤ B) (hg : w.grownBy w' v.ownBlock) : Kp a w' c :=
 h.grown hg fun k hk => Nat.le_trans hB (ho.lt k hk).1
theorem _root_.Go.Pw.Kp.below' {a : World} (h : Kp a w c) (hb : Below B w w') (hB : a.heap.size ≤ B) : Kp a w' c :=
 ⟨hb.os.trans h.os, hb.tape.trans h.tape, hb.output.trans h.output, Nat.le_trans h.size hb.size, fun i hi hn => (hb.block i (by omega)).trans (h.block i hi hn)⟩
end
section
variable {P : Program} {w : World}
theorem RunV.str {src dst e T : TypeId} {B n cap : Nat} {a : Option Addr} {l : List UInt8} {K : Value → World → Prop} (hs : P.underlying src = some (.slice e)) (he : P.underlying e = some (.int .u8)) (hd : P.underlying dst = some .string)
  (h : w.ownsRow B T 1 (.slice a n cap) n (Lib.byteCells l)) (k : K (.string ⟨l.toArray⟩) w) : RunV P (convert src dst (.slice a n cap)) w K := by
 have hn := zmT h
 rw [Lib.byteCells_length] at hn
 subst hn
 by_cases h0 : 0 < l.length
 ·obtain ⟨g, rfl, _, _, hat⟩ := zcx h h0
  refine ⟨_, _, run_convert_bytes_back w src dst e ⟨g, 0, none⟩ cap l hs he hd (fun j hj => ?_), k⟩
  have := hat j (.int .u8 l[j].toNat) (by simp [Lib.byteCells, hj])
  rw [add_none]; exact this
 ·have hl : l = [] := List.eq_nil_of_length_eq_zero (by omega)
  subst hl
  rcases h.2 with ⟨h1, _⟩ | ⟨g, cap', cur, h1, _⟩
  ·injection h1 with h1 _ _
   subst h1
   exact ⟨_, _, run_convert_bytes_nil w src e hs he _ _ dst hd, k⟩
  ·injection h1 with h1 _ _
   subst h1
   exact ⟨_, _, run_convert_bytes_back w src dst e ⟨g, 0, none⟩ cap [] hs he hd (fun j hj => by simp at hj), k⟩
theorem zbn (n : Int) (h : 0 ≤ n ∧ n < 256) : IntKind.u8.wrap n = n := by
 unfold IntKind.wrap; simp [IntKind.signed, IntKind.bits]; omega
theorem zbl (n : Int) (h : -9223372036854775808 ≤ n ∧ n ≤ 9223372036854775807) : IntKind.i64.wrap n = n := by
 unfold IntKind.wrap; simp [IntKind.signed, IntKind.bits]; omega
end
end Go.Vc
namespace Go.Vc
set_option maxHeartbeats 4000000
open Go
theorem zeP (b : UInt8) : IntKind.i64.wrap ((b.toNat : Nat) : Int) = b.toNat := zbl _ (by have := UInt8.toNat_lt b; omega)
end Go.Vc
namespace Go.Vc
set_option maxHeartbeats 4000000
open Go Go.Pw Go.RowKit
theorem RunN.app {P : Program} {w : World} {K : Value → World → Prop} {t ty e : TypeId} {cs : Array Bool} {B s n bytes : Nat} {z v : Value} {xs : List Value} (ht : P.underlying t = some (.slice e)) (hb : (P.info? e).map (fun i => (i.zero, i.size, i.bytes)) = some (some z, s, bytes)) (hz : z.cells.size = s) (hs : 0 < s)
  (hown : w.ownsRow B e s v n xs) (hB : B ≤ w.heap.size) (a : Addr) (m c : Nat) (news : List Value) (hl : news.length = m * s) (hnews : ∀ j u, news[j]? = some u → w.cell? (a.add j) = some u) (h1 : ∀ u ∈ news, u.oneCell' = true)
  (h63 : n + m ≤ 9223372036854775807) (hbytes : (n + m) * bytes ≤ 140737488355328)
  (k : ∀ v' w', w'.ownsRow B e s v' (n + m) (xs ++ news) → w.grownBy w' v.ownBlock → K v' w') : RunN P (builtin .append #[t, t] ty cs [v, .slice (some a) m c].toArray) w K := by
 obtain ⟨i, hi, hi2⟩ := Option.map_eq_some_iff.1 hb
 simp only [Prod.mk.injEq] at hi2
 obtain ⟨z1, z2, z3⟩ := hi2
 refine RunN.append B e i z s bytes ht hi z1 z2 z3 hz hs v n xs hown a m c news hl hnews h1 (by rw [show maxLen = 9223372036854775807 from rfl]; omega) hbytes hB fun v' w' h2 h3 _ => k v' w' h2 h3
theorem zfl (w : World) (cs : Array Value) (e : TypeId) : ∀ j u, cs.toList[j]? = some u → (w.alloc (.cells cs e)).cell? ((⟨w.heap.size, 0, none⟩ : Addr).add j) = some u := by
 intro j u h
 rw [add_none, Nat.zero_add, World.cell?_alloc_new]
 simpa using h
end Go.Vc
namespace Go.Vc
set_option maxHeartbeats 4000000
open Go
end Go.Vc
namespace Go.Proofs.YtohhkegmbgancaaGreatDoor
set_option maxHeartbeats 4000000
open Go.RowKit Go.Pw Go.Vc Go.Cs Go.Lib
set_option linter.unusedVariables false
set_option maxRecDepth 100000
theorem hmix : Tryz.prog.follows .mixedOrders = true := by kernel_rfl
theorem zgx (x : Int) (w : World) : (Instr.buildSlice 162 1 [(0, .int .u8 x)].toArray).run Tryz.prog w = .ok (.slice (some ⟨w.heap.size, 0, none⟩) 1 1) (w.alloc (.cells #[.int .u8 x] 5)) := by
 simp [Instr.buildSlice, go_sem, Tryz.runUnderlying162]
theorem zjh (x y : Int) (w : World) : (Instr.buildSlice 162 2 [(0, .int .u8 x), (1, .int .u8 y)].toArray).run Tryz.prog w = .ok (.slice (some ⟨w.heap.size, 0, none⟩) 2 2) (w.alloc (.cells #[.int .u8 x, .int .u8 y] 5)) := by
 simp [Instr.buildSlice, go_sem, Tryz.runUnderlying162]
theorem znn (x y z : Int) (w : World) : (Instr.buildSlice 162 3 [(0, .int .u8 x), (1, .int .u8 y), (2, .int .u8 z)].toArray).run Tryz.prog w = .ok (.slice (some ⟨w.heap.size, 0, none⟩) 3 3) (w.alloc (.cells #[.int .u8 x, .int .u8 y, .int .u8 z] 5)) := by
 simp [Instr.buildSlice, go_sem, Tryz.runUnderlying162]
theorem zmN (x y z u : Int) (w : World) : (Instr.buildSlice 162 4 [(0, .int .u8 x), (1, .int .u8 y), (2, .int .u8 z), (3, .int .u8 u)].toArray).run Tryz.prog w = .ok (.slice (some ⟨w.heap.size, 0, none⟩) 4 4) (w.alloc (.cells #[.int .u8 x, .int .u8 y, .int .u8 z, .int .u8 u] 5)) := by
 simp [Instr.buildSlice, go_sem, Tryz.runUnderlying162]
theorem zmH (x : Int) (w : World) : (Instr.buildSlice 25 1 [(0, .int .i64 x)].toArray).run Tryz.prog w = .ok (.slice (some ⟨w.heap.size, 0, none⟩) 1 1) (w.alloc (.cells #[.int .i64 x] 3)) := by
 simp [Instr.buildSlice, go_sem, Tryz.runUnderlying25]
section
variable {w : World}
theorem znv (n : Int) : Calls Tryz.prog 218 #[.int .i64 n] w fun e w' => e = .returned (.bool (isSign n)) ∧ w = w' := by
 unfold isSign
 refine zaa (args := [.int .i64 n]) Tryz.func218 rfl NL ?_; refine GW ?_
 by_cases h0 : 0 ≤ n
 ·by_cases h1 : n ≤ 1114111
  ·by_cases h2 : n < 55296
   ·refine GO ?_
    exact ⟨by simp [h0, h1, h2], rfl⟩
   ·refine GO ?_
    exact ⟨by simp [h0, h1, h2], rfl⟩
  ·refine GO ?_
   exact ⟨by simp [h0, h1], rfl⟩
 ·refine GO ?_
  exact ⟨by simp [h0], rfl⟩
theorem zgS (w : World) (cs : Array Value) (e : TypeId) (n : Nat) (hn : cs.size = n) (hm : n ≤ 9223372036854775807) : (w.alloc (.cells cs e)).ownsRow w.heap.size e 1 (.slice (some ⟨w.heap.size, 0, none⟩) n n) n cs.toList :=
  World.ownsRow_lit w cs n (Nat.le_refl _) (by have : maxLen = 9223372036854775807 := by rfl
                                               omega) (by omega)
def Bytes (w : World) (B : Nat) (v : Value) (l : List UInt8) : Prop := w.ownsRow B 5 1 v l.length (Go.Lib.byteCells l)
theorem zla (n : Int) : Go.Lib.byteCells (encodeRune n) = runeCells n := byteCells_encodeRune n
theorem zei {n : Int} {k : Nat} {cs : Array Value} (hk : cs.size = k) (h4 : k ≤ 4) (he : runeCells n = cs.toList) :
  ∃ v, Value.slice (some ⟨w.heap.size, 0, none⟩) k k = v ∧ Bytes (w.alloc (.cells cs 5)) w.heap.size v (encodeRune n) ∧ Kp w (w.alloc (.cells cs 5)) n_ := by
 refine ⟨_, rfl, ?_, (Kp.refl _ _).alloc _⟩
 unfold Bytes
 rw [zla, ← runeCells_length, he]
 have := zgS w cs 5 k hk (by omega)
 rw [show cs.toList.length = k by simpa using hk]
 exact this
theorem zna (n : Int) (hs : isSign n = true) : Calls Tryz.prog 219 #[.int .i64 n] w fun e w' => ∃ v, e = .returned v ∧ Bytes w' w.heap.size v (encodeRune n) ∧ Kp w w' n_ := by
 rw [zdZ] at hs
 obtain ⟨h0, h1, h2⟩ := hs
 refine zaa (args := [.int .i64 n]) Tryz.func219 rfl NL ?_; refine GW ?_
 by_cases c1 : n < 128
 ·refine GO ?_
  refine RunV.of (zgx _ _) ?_
  refine GW ?_
  rw [zbn n (by omega)]
  obtain ⟨v, e, h⟩ := zei (w := w) (n := n) (k := 1) (cs := #[.int .u8 n]) rfl (by omega) (by unfold runeCells; rw [encodeRuneZ_one (by omega) (by omega)]; rfl)
  exact ⟨v, by rw [← e], h⟩
 have q (d m : Int) (hd : d = 64 ∨ d = 4096 ∨ d = 262144) (hm0 : 0 ≤ m) (hm : m ≤ 1114111) : IntKind.i64.wrap (m.tdiv d) = m / d := by
  rw [Int.tdiv_eq_ediv_of_nonneg hm0]
  rcases hd with rfl | rfl | rfl <;> exact zbl _ (by omega)
 have r (m : Int) (hm0 : 0 ≤ m) (hm : m ≤ 1114111) : m.tmod 64 = m % 64 := Int.tmod_eq_emod_of_nonneg hm0
 by_cases c2 : n < 2048
 ·refine GO ?_
  rw [q 64 n (by omega) (by omega) (by omega)]
  refine GO ?_
  rw [r n (by omega) (by omega)]
  refine GO ?_
  refine RunV.of (zjh _ _ _) ?_
  refine GW ?_
  rw [zbn (192 + n / 64) (by omega), zbn (128 + n % 64) (by omega)]
  obtain ⟨v, e, h⟩ := zei (w := w) (n := n) (k := 2) (cs := #[.int .u8 (192 + n / 64), .int .u8 (128 + n % 64)]) rfl (by omega) (by unfold runeCells; rw [encodeRuneZ_two (by omega) (by omega)]; rfl)
  exact ⟨v, by rw [← e], h⟩
 by_cases c3 : n < 65536
 ·refine GO ?_
  rw [q 4096 n (by omega) (by omega) (by omega)]
  refine GO ?_
  rw [q 64 n (by omega) (by omega) (by omega), r (n / 64) (by omega) (by omega)]
  refine GO ?_
  rw [r n (by omega) (by omega)]
  refine GO ?_
  refine RunV.of (znn _ _ _ _) ?_
  refine GW ?_
  rw [zbn (224 + n / 4096) (by omega), zbn (128 + n / 64 % 64) (by omega), zbn (128 + n % 64) (by omega)]
  obtain ⟨v, e, h⟩ := zei (w := w) (n := n) (k := 3) (cs := #[.int .u8 (224 + n / 4096), .int .u8 (128 + n / 64 % 64), .int .u8 (128 + n % 64)]) rfl (by omega) (by unfold runeCells; rw [encodeRuneZ_three (by omega)]; rfl)
  exact ⟨v, by rw [← e], h⟩
 ·refine GO ?_
  rw [q 262144 n (by omega) (by omega) (by omega)]
  refine GO ?_
  rw [q 4096 n (by omega) (by omega) (by omega), r (n / 4096) (by omega) (by omega)]
  refine GO ?_
  rw [q 64 n (by omega) (by omega) (by omega), r (n / 64) (by omega) (by omega)]
  refine GO ?_
  rw [r n (by omega) (by omega)]
  refine GO ?_
  refine RunV.of (zmN _ _ _ _ _) ?_
  refine GW ?_
  rw [zbn (240 + n / 262144) (by omega), zbn (128 + n / 4096 % 64) (by omega), zbn (128 + n / 64 % 64) (by omega), zbn (128 + n % 64) (by omega)]
  obtain ⟨v, e, h⟩ := zei (w := w) (n := n) (k := 4) (cs := #[.int .u8 (240 + n / 262144), .int .u8 (128 + n / 4096 % 64), .int .u8 (128 + n / 64 % 64), .int .u8 (128 + n % 64)]) rfl (by omega) (by unfold runeCells; rw [encodeRuneZ_four (by omega) (by omega)]; rfl)
  exact ⟨v, by rw [← e], h⟩
theorem zoV {B : Nat} {v : Value} {l : List UInt8} (h : Bytes w B v l) : ∃ a cap, v = .slice a l.length cap := zab h
end
end Go.Proofs.YtohhkegmbgancaaGreatDoor
