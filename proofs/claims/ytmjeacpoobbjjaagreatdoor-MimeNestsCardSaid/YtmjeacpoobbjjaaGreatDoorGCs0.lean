/- Helper lemmas that the proved statement rests on; no conditions of their own. -/
import Derived.Lib.ValidLaws
import Derived.Lib.RuneBytes
import Derived.Lib.MapLaws
import Derived.Laws.Concat
import Derived.Lib.ConvBytes
import Derived.Laws.IdiomStrings
import Derived.Laws.BytesArg
import Derived.Lib.UnsafeStr
import Derived.Test.YtmjeacpoobbjjaaGreatDoorProg
import Derived.Laws.CopyRow
import Derived.Lib.AppendZerosOnto
import Derived.Lib.Overlaps
import Derived.Laws.Externs
import Derived.Lib.SliceRun
import Derived.Deep.Slices
import Derived.ProofKit
import Derived.Lay
import Derived.SevenTiedAt
import Derived.OpenShut
import Derived.SizedLaws
import Derived.ChangeOld
import Derived.Test.YtmjeacpoobbjjaaGreatDoorWcz
set_option linter.unusedVariables false
set_option maxHeartbeats 4000000
set_option maxRecDepth 100000
namespace Go.Cs
open Go.Lib
def scal (n : Nat) : Prop := n < 55296 ∨ (57343 < n ∧ n ≤ 1114111)
instance (n : Nat) : Decidable (scal n) := by unfold scal; infer_instance
def enc (n : Nat) : List UInt8 := encodeRune (n : Int)
def encs (rs : List Nat) : List UInt8 := rs.flatMap enc
theorem zjA : encs [] = [] := rfl
theorem zdm (c : Nat) (rs : List Nat) : encs (c :: rs) = enc c ++ encs rs := rfl
theorem zgk (a b : List Nat) : encs (a ++ b) = encs a ++ encs b := by unfold encs; rw [List.flatMap_append]
theorem zeQ (c : Nat) : 1 ≤ (enc c).length ∧ (enc c).length ≤ 4 := by
 have := runeCells_le (c : Int)
 rw [runeCells_length] at this; exact this
theorem enc1 {c : Nat} (h : c < 128) : enc c = [c.toUInt8] := by
 unfold enc encodeRune; rw [encodeRuneZ_one (by omega) (by omega)]; simp
theorem zkS {c : Nat} {b0 : UInt8} (h : c < 128) (e0 : c = b0.toNat) : enc c = [b0] := by
 rw [enc1 h, e0]; simp
theorem toU (x : Int) (b : UInt8) (h : x = b.toNat) : x.toNat.toUInt8 = b := by subst h; simp
theorem zls {c : Nat} {b0 b1 : UInt8} (h : 128 ≤ c) (h' : c ≤ 2047) (e0 : (192 + (c : Int) / 64) = b0.toNat) (e1 : (128 + (c : Int) % 64) = b1.toNat) : enc c = [b0, b1] := by
 unfold enc encodeRune; rw [encodeRuneZ_two (by omega) (by omega)]
 simp only [List.map_cons, List.map_nil, toU _ _ e0, toU _ _ e1]
theorem zlo {c : Nat} {b0 b1 b2 : UInt8} (h : 2048 ≤ c ∧ c ≤ 65535 ∧ scal c) (e0 : (224 + (c : Int) / 4096) = b0.toNat) (e1 : (128 + (c : Int) / 64 % 64) = b1.toNat) (e2 : (128 + (c : Int) % 64) = b2.toNat) : enc c = [b0, b1, b2] := by
 unfold enc encodeRune; rw [encodeRuneZ_three (by unfold scal at h; omega)]
 simp only [List.map_cons, List.map_nil, toU _ _ e0, toU _ _ e1, toU _ _ e2]
theorem zkL {c : Nat} {b0 b1 b2 b3 : UInt8} (h : 65536 ≤ c) (h' : c ≤ 1114111) (e0 : (240 + (c : Int) / 262144) = b0.toNat) (e1 : (128 + (c : Int) / 4096 % 64) = b1.toNat) (e2 : (128 + (c : Int) / 64 % 64) = b2.toNat) (e3 : (128 + (c : Int) % 64) = b3.toNat) : enc c = [b0, b1, b2, b3] := by
 unfold enc encodeRune; rw [encodeRuneZ_four (by omega) (by omega)]
 simp only [List.map_cons, List.map_nil, toU _ _ e0, toU _ _ e1, toU _ _ e2, toU _ _ e3]
def Whole (l : List UInt8) (c k : Nat) : Prop := scal c ∧ l.take k = enc c ∧ k = (enc c).length ∧ ¬ (c = 65533 ∧ k = 1)
theorem dec_whole (l : List UInt8) (hne : l ≠ []) : decodeL l = (65533, 1) ∨ Whole l (decodeL l).1 (decodeL l).2 := by
 rw [decodeL_N]
 obtain ⟨b0, t, rfl⟩ := List.exists_cons_of_ne_nil hne
 have h0 := UInt8.toNat_lt b0
 simp only [List.getD_cons_zero, List.getD_cons_succ, List.length_cons]
 have h1 := UInt8.toNat_lt (t.getD 0 0)
 have h2 := UInt8.toNat_lt (t.getD 1 0)
 have h3 := UInt8.toNat_lt (t.getD 2 0)
 unfold decodeN
 split
 ·rename_i h
  right
  have e := zkS h (b0 := b0) rfl
  exact ⟨.inl (by omega), by rw [e]; rfl, by rw [e]; rfl, by omega⟩
 ·split
  ·rename_i h
   split
   ·rename_i hc
    right
    obtain ⟨b1, t, rfl⟩ := List.exists_cons_of_ne_nil (l := t) (by rintro rfl; simp at h)
    simp only [List.getD_cons_zero] at *
    have e := zls (c := b0.toNat % 32 * 64 + b1.toNat % 64) (b0 := b0) (b1 := b1) (by omega) (by omega) (by omega) (by omega)
    exact ⟨.inl (by omega), by rw [e]; rfl, by rw [e]; rfl, by omega⟩
   ·exact .inl rfl
  ·split
   ·rename_i h
    split
    ·rename_i hc
     right
     obtain ⟨b1, t, rfl⟩ := List.exists_cons_of_ne_nil (l := t) (by rintro rfl; simp at h)
     obtain ⟨b2, t, rfl⟩ := List.exists_cons_of_ne_nil (l := t) (by rintro rfl; simp at h)
     simp only [List.getD_cons_zero, List.getD_cons_succ] at *
     have hs : scal (b0.toNat % 16 * 4096 + b1.toNat % 64 * 64 + b2.toNat % 64) := by unfold scal; omega
     have e := zlo (c := b0.toNat % 16 * 4096 + b1.toNat % 64 * 64 + b2.toNat % 64) (b0 := b0) (b1 := b1) (b2 := b2) ⟨by omega, by omega, hs⟩ (by omega) (by omega) (by omega)
     exact ⟨hs, by rw [e]; rfl, by rw [e]; rfl, by omega⟩
    ·exact .inl rfl
   ·split
    ·rename_i h
     split
     ·rename_i hc
      right
      obtain ⟨b1, t, rfl⟩ := List.exists_cons_of_ne_nil (l := t) (by rintro rfl; simp at h)
      obtain ⟨b2, t, rfl⟩ := List.exists_cons_of_ne_nil (l := t) (by rintro rfl; simp at h)
      obtain ⟨b3, t, rfl⟩ := List.exists_cons_of_ne_nil (l := t) (by rintro rfl; simp at h)
      simp only [List.getD_cons_zero, List.getD_cons_succ] at *
      have hs : scal (b0.toNat % 8 * 262144 + b1.toNat % 64 * 4096 + b2.toNat % 64 * 64 + b3.toNat % 64) := by unfold scal; omega
      have e := zkL (c := b0.toNat % 8 * 262144 + b1.toNat % 64 * 4096 + b2.toNat % 64 * 64 + b3.toNat % 64) (b0 := b0) (b1 := b1) (b2 := b2) (b3 := b3) (by omega) (by omega) (by omega) (by omega) (by omega) (by omega)
      exact ⟨hs, by rw [e]; rfl, by rw [e]; rfl, by omega⟩
     ·exact .inl rfl
    ·exact .inl rfl
theorem u8n (x : Int) (h : 0 ≤ x ∧ x < 256) : (x.toNat.toUInt8).toNat = x.toNat := by
 simp; omega
theorem ziP (c : Nat) (h : scal c) (t : List UInt8) : decodeL (enc c ++ t) = (c, (enc c).length) := by
 rw [decodeL_N]
 unfold scal at h
 unfold enc encodeRune
 by_cases h1 : c < 128
 ·rw [encodeRuneZ_one (by omega) (by omega)]
  simp only [List.map_cons, List.map_nil, List.cons_append, List.nil_append, List.getD_cons_zero, List.length_cons, List.length_nil]
  rw [u8n _ (by omega)]
  unfold decodeN
  rw [if_pos (by omega)]
  simp
 by_cases h2 : c ≤ 2047
 ·rw [encodeRuneZ_two (by omega) (by omega)]
  simp only [List.map_cons, List.map_nil, List.cons_append, List.nil_append, List.getD_cons_zero, List.getD_cons_succ, List.length_cons, List.length_nil]
  rw [u8n _ (by omega), u8n _ (by omega)]
  unfold decodeN
  rw [if_neg (by omega), if_pos (by omega), if_pos (by omega)]
  congr 1; omega
 by_cases h3 : c ≤ 65535
 ·rw [encodeRuneZ_three (by omega)]
  simp only [List.map_cons, List.map_nil, List.cons_append, List.nil_append, List.getD_cons_zero, List.getD_cons_succ, List.length_cons, List.length_nil]
  rw [u8n _ (by omega), u8n _ (by omega), u8n _ (by omega)]
  unfold decodeN
  rw [if_neg (by omega), if_neg (by omega), if_pos (by omega), if_pos (by omega)]
  congr 1; omega
 ·rw [encodeRuneZ_four (by omega) (by omega)]
  simp only [List.map_cons, List.map_nil, List.cons_append, List.nil_append, List.getD_cons_zero, List.getD_cons_succ, List.length_cons, List.length_nil]
  rw [u8n _ (by omega), u8n _ (by omega), u8n _ (by omega), u8n _ (by omega)]
  unfold decodeN
  rw [if_neg (by omega), if_neg (by omega), if_neg (by omega), if_pos (by omega), if_pos (by omega)]
  congr 1; omega
def runesF : Nat → List UInt8 → List Nat
 | 0, _ => []
 | _ + 1, [] => []
 | n + 1, b :: t => (decodeL (b :: t)).1 :: runesF n ((b :: t).drop (decodeL (b :: t)).2)
def runes (l : List UInt8) : List Nat := runesF l.length l
theorem zcW : ∀ (n m : Nat) (l : List UInt8), l.length ≤ n → l.length ≤ m → runesF n l = runesF m l
 | 0, m, l, hn, _ => by
  have : l = [] := List.eq_nil_of_length_eq_zero (by omega)
  subst this
  cases m <;> rfl
 | n + 1, 0, l, _, hm => by
  have : l = [] := List.eq_nil_of_length_eq_zero (by omega)
  subst this; rfl
 | n + 1, m + 1, [], _, _ => rfl
 | n + 1, m + 1, b :: t, hn, hm => by
  have hw := decodeL_width (b :: t)
  simp only [runesF]
  rw [zcW n m _ (by rw [List.length_drop]; omega) (by rw [List.length_drop]; omega)]
theorem zbJ (l : List UInt8) (hne : l ≠ []) : runes l = (decodeL l).1 :: runes (l.drop (decodeL l).2) := by
 obtain ⟨b, t, rfl⟩ := List.exists_cons_of_ne_nil hne
 have hw := decodeL_width (b :: t)
 show (decodeL (b :: t)).1 :: runesF t.length _ = _
 rw [zcW t.length ((b :: t).drop (decodeL (b :: t)).2).length _ (by rw [List.length_drop, List.length_cons]; omega) (Nat.le_refl _)]
 rfl
theorem zgj {motive : List UInt8 → Prop} (nil : motive []) (step : ∀ l, l ≠ [] → motive (l.drop (decodeL l).2) → motive l) : ∀ l, motive l := by
 have key : ∀ n l, l.length = n → motive l := by
  intro n
  induction n using Nat.strongRecOn with
  | _ n ih =>
   intro l hl
   by_cases hne : l = []
   ·rw [hne]; exact nil
   ·have hw := decodeL_width l
    have h0 : 0 < l.length := List.length_pos_iff.2 hne
    exact step l hne (ih _ (by rw [List.length_drop]; omega) _ rfl)
 exact fun l => key _ l rfl
def repair (l : List UInt8) : List UInt8 := encs (runes l)
theorem zhm : scal 65533 := .inr ⟨by omega, by omega⟩
theorem zjw (l : List UInt8) (hne : l ≠ []) : scal (decodeL l).1 := by
 rcases dec_whole l hne with h | h
 ·rw [h]; exact zhm
 ·exact h.1
theorem zhK (l : List UInt8) : ∀ c ∈ runes l, scal c := by
 induction l using zgj with
 | nil => intro c hc; cases hc
 | step l hne ih =>
  intro c hc
  rw [zbJ l hne] at hc
  rcases List.mem_cons.1 hc with rfl | hc
  ·exact zjw l hne
  ·exact ih c hc
theorem zbU : (enc 65533).length = 3 := by decide
theorem zlc (l : List UInt8) (hne : l ≠ []) : (decodeL l).2 ≤ 4 := by
 rcases dec_whole l hne with h | h
 ·rw [h]; simp
 ·rw [h.2.2.1]; exact (zeQ _).2
theorem zfI (l : List UInt8) : (runes l).length ≤ l.length ∧ l.length ≤ 4 * (runes l).length := by
 induction l using zgj with
 | nil => exact ⟨Nat.le_refl _, Nat.le_refl _⟩
 | step l hne ih =>
  have hw := decodeL_width l
  have h4 := zlc l hne
  have hl := decodeL_le l hne
  rw [zbJ l hne]
  rw [List.length_drop] at ih
  simp only [List.length_cons]
  omega
theorem zee (l : List UInt8) : (repair l).length ≤ 3 * l.length := by
 unfold repair
 induction l using zgj with
 | nil => exact Nat.le_refl _
 | step l hne ih =>
  have hw := decodeL_width l
  have hl := decodeL_le l hne
  rw [List.length_drop] at ih
  rw [zbJ l hne, zdm, List.length_append]
  rcases dec_whole l hne with h | h
  ·have e1 : (decodeL l).1 = 65533 := by rw [h]
   have e2 : (decodeL l).2 = 1 := by rw [h]
   have := zbU
   rw [e1]
   omega
  ·have := h.2.2.1
   omega
theorem zhi (rs : List Nat) : rs.length ≤ (encs rs).length ∧ (encs rs).length ≤ 4 * rs.length := by
 induction rs with
 | nil => exact ⟨Nat.le_refl _, Nat.le_refl _⟩
 | cons c rs ih =>
  have := zeQ c
  rw [zdm, List.length_append, List.length_cons]; omega
def bt (l : List UInt8) (i : Nat) : Int := ((l.getD i 0).toNat : Int)
def base (l : List UInt8) (m : Nat) : Int := if m = 1 then bt l 0 else if m = 2 then bt l 0 - 192 else if m = 3 then bt l 0 - 224 else bt l 0 - 240
def isSign (n : Int) : Bool := decide (0 ≤ n) && (decide (n ≤ 1114111) && (decide (n < 55296) || decide (57343 < n)))
theorem zcC (n : Int) : isSign n = true ↔ 0 ≤ n ∧ n ≤ 1114111 ∧ (n < 55296 ∨ 57343 < n) := by
 unfold isSign; simp
def good (l : List UInt8) : Bool := !decide ((decodeL l).1 = 65533 ∧ (decodeL l).2 = 1)
def off (m : Nat) : Int := if m = 2 then 192 else if m = 3 then 224 else 240
def L (s : ByteArray) : List UInt8 := s.data.toList
def str (l : List UInt8) : ByteArray := ⟨l.toArray⟩
theorem L_str (l : List UInt8) : L (str l) = l := rfl
theorem str_L (s : ByteArray) : str (L s) = s := rfl
theorem L_len (s : ByteArray) : (L s).length = s.size := rfl
theorem zae (l : List UInt8) : (str l).size = l.length := rfl
theorem zaD {a b : List UInt8} : str a = str b ↔ a = b := by
 constructor
 ·intro h; rw [← L_str a, h, L_str]
 ·intro h; rw [h]
theorem L_extract (s : ByteArray) (i j : Nat) : L (s.extract i j) = ((L s).take j).drop i := by
 unfold L
 rw [ByteArray.data_extract, Array.toList_extract, List.extract_eq_take_drop, List.drop_take]
theorem L_from (s : ByteArray) (i : Nat) : L (s.extract i s.size) = (L s).drop i := by
 rw [L_extract, List.take_of_length_le (by rw [L_len]; exact Nat.le_refl _)]
theorem zbS (s : ByteArray) (i j : Nat) : s.extract i j = str (((L s).take j).drop i) := by rw [← L_extract, str_L]
theorem zaF (a b : List UInt8) : str a ++ str b = str (a ++ b) := by
 unfold str; exact ByteArray.mk_append_mk a b
theorem L_ne {s : ByteArray} (h : 0 < s.size) : L s ≠ [] := by
 intro e; have := L_len s; rw [e] at this; simp at this; omega
end Go.Cs
namespace Go.Vc
open Go Go.Pw Go.RowKit
section
variable {w w' : World} {B s n : Nat} {e : TypeId} {v : Value} {xs : List Value} {c : Nat → Prop}
theorem zaf (h : w.ownsRow B e s v n xs) (k : Kp w w' c) (hc : ∀ b, v.ownBlock = some b → ¬ c b) : w'.ownsRow B e s v n xs := by
 refine ⟨h.1, ?_⟩
 rcases h.2 with hn | ⟨g, cap, cur, rfl, hb, hgg, rest⟩
 ·exact .inl hn
 ·have hlt : g < w.heap.size := by
   rcases Nat.lt_or_ge g w.heap.size with h' | h'
   ·exact h'
   ·rw [Array.getElem?_eq_none h'] at hgg; cases hgg
  exact .inr ⟨g, cap, cur, rfl, hb, (k.block g hlt (hc g rfl)).trans hgg, rest⟩
theorem zai (h : w.ownsRow B e s v n xs) (k : Kp w w' n_) : w'.ownsRow B e s v n xs := zaf h k fun _ _ => id
theorem zkf (h : w.ownsRow B e s v n xs) : w.drew.ownsRow B e s v n xs := h
theorem zan {B' : Nat} (h : w.ownsRow B e s v n xs) (hB : B' ≤ B) : w.ownsRow B' e s v n xs := by
 refine ⟨h.1, ?_⟩
 rcases h.2 with hn | ⟨g, cap, cur, rfl, hb, rest⟩
 ·exact .inl hn
 ·exact .inr ⟨g, cap, cur, rfl, Nat.le_trans hB hb, rest⟩
theorem zad (h : w.ownsRow B e s v n xs) : ∃ a cap, v = .slice a n cap := by
 rcases h.2 with ⟨rfl, rfl⟩ | ⟨g, cap, cur, rfl, _⟩
 ·exact ⟨_, _, rfl⟩
 ·exact ⟨_, _, rfl⟩
theorem zjT (h : w.ownsRow B e 1 v n xs) : xs.length = n := by have := h.1; omega
theorem zfA {a : Option Addr} {cap : Nat} (h : w.ownsRow B e s (.slice a n cap) n xs) (h0 : 0 < n) : ∃ g, a = some ⟨g, 0, none⟩ ∧ B ≤ g ∧ g < w.heap.size ∧ At w g 0 xs := by
 rcases h.2 with ⟨h1, h2⟩ | ⟨g, cap', cur, h1, hb, hgg, _⟩
 ·omega
 ·injection h1 with h1 _ h3
  subst h1
  subst h3
  refine ⟨g, rfl, hb, (h.lt g rfl).2, fun i u hi => ?_⟩
  have := h.cells (g := g) rfl i u hi
  rw [zaH] at this; exact this
theorem _root_.Go.Pw.Kp.grown {a : World} {row : Option Nat} (h : Kp a w c) (hg : w.grownBy w' row) (hr : ∀ k, row = some k → a.heap.size ≤ k) : Kp a w' c :=
 ⟨hg.os.trans h.os, hg.tape.trans h.tape, hg.output.trans h.output, Nat.le_trans h.size hg.size, fun i hi hn =>
  (hg.block i (Nat.lt_of_lt_of_le hi h.size) (fun e => by have := hr i e.symm; omega)).trans (h.block i hi hn)⟩
theorem _root_.Go.Pw.Kp.own {a : World} (h : Kp a w c) (ho : w.ownsRow B e s v n xs) (hB : a.heap.size ≤ B) (hg : w.grownBy w' v.ownBlock) : Kp a w' c :=
 h.grown hg fun k hk => Nat.le_trans hB (ho.lt k hk).1
theorem _root_.Go.Pw.Kp.below' {a : World} (h : Kp a w c) (hb : Below B w w') (hB : a.heap.size ≤ B) : Kp a w' c :=
 ⟨hb.os.trans h.os, hb.tape.trans h.tape, hb.output.trans h.output, Nat.le_trans h.size hb.size, fun i hi hn => (hb.block i (by omega)).trans (h.block i hi hn)⟩
end
section
variable {P : Program} {w : World}
theorem RunV.str {src dst e T : TypeId} {B n cap : Nat} {a : Option Addr} {l : List UInt8} {K : Value → World → Prop} (hs : P.underlying src = some (.slice e)) (he : P.underlying e = some (.int .u8)) (hd : P.underlying dst = some .string)
  (h : w.ownsRow B T 1 (.slice a n cap) n (Lib.byteCells l)) (k : K (.string ⟨l.toArray⟩) w) : RunV P (convert src dst (.slice a n cap)) w K := by
 have hn := zjT h
 rw [Lib.byteCells_length] at hn
 subst hn
 by_cases h0 : 0 < l.length
 ·obtain ⟨g, rfl, _, _, hat⟩ := zfA h h0
  refine ⟨_, _, run_convert_bytes_back w src dst e ⟨g, 0, none⟩ cap l hs he hd (fun j hj => ?_), k⟩
  have := hat j (.int .u8 l[j].toNat) (by simp [Lib.byteCells, hj])
  rw [zaH]; exact this
 ·have hl : l = [] := List.eq_nil_of_length_eq_zero (by omega)
  subst hl
  rcases h.2 with ⟨h1, _⟩ | ⟨g, cap', cur, h1, _⟩
  ·injection h1 with h1 _ _
   subst h1
   exact ⟨_, _, run_convert_bytes_nil w src e hs he _ _ dst hd, k⟩
  ·injection h1 with h1 _ _
   subst h1
   exact ⟨_, _, run_convert_bytes_back w src dst e ⟨g, 0, none⟩ cap [] hs he hd (fun j hj => by simp at hj), k⟩
theorem zjC (n : Int) (h : -2147483648 ≤ n ∧ n ≤ 2147483647) : IntKind.i32.wrap n = n := by
 unfold IntKind.wrap; simp [IntKind.signed, IntKind.bits]; omega
theorem zcT (n : Int) (h : -9223372036854775808 ≤ n ∧ n ≤ 9223372036854775807) : IntKind.i64.wrap n = n := by
 unfold IntKind.wrap; simp [IntKind.signed, IntKind.bits]; omega
end
end Go.Vc
namespace Go.Vc
open Go
theorem zcr (b : UInt8) : IntKind.i64.wrap ((b.toNat : Nat) : Int) = b.toNat := zcT _ (by have := UInt8.toNat_lt b; omega)
end Go.Vc
namespace Go.Vc
open Go Go.Pw Go.RowKit
theorem RunN.app {P : Program} {w : World} {K : Value → World → Prop} {t ty e : TypeId} {cs : Array Bool} {B s n bytes : Nat} {z v : Value} {xs : List Value} (ht : P.underlying t = some (.slice e)) (hb : (P.info? e).map (fun i => (i.zero, i.size, i.bytes)) = some (some z, s, bytes)) (hz : z.cells.size = s) (hs : 0 < s)
  (hown : w.ownsRow B e s v n xs) (hB : B ≤ w.heap.size) (a : Addr) (m c : Nat) (news : List Value) (hl : news.length = m * s) (hnews : ∀ j u, news[j]? = some u → w.cell? (a.add j) = some u) (h1 : ∀ u ∈ news, u.oneCell' = true)
  (h63 : n + m ≤ 9223372036854775807) (hbytes : (n + m) * bytes ≤ 140737488355328)
  (k : ∀ v' w', w'.ownsRow B e s v' (n + m) (xs ++ news) → w.grownBy w' v.ownBlock → K v' w') : RunN P (builtin .append #[t, t] ty cs [v, .slice (some a) m c].toArray) w K := by
 obtain ⟨i, hi, hi2⟩ := Option.map_eq_some_iff.1 hb
 simp only [Prod.mk.injEq] at hi2
 obtain ⟨z1, z2, z3⟩ := hi2
 refine RunN.append B e i z s bytes ht hi z1 z2 z3 hz hs v n xs hown a m c news hl hnews h1 (by rw [show maxLen = 9223372036854775807 from rfl]; omega) hbytes hB fun v' w' h2 h3 _ => k v' w' h2 h3
theorem zjm (w : World) (cs : Array Value) (e : TypeId) : ∀ j u, cs.toList[j]? = some u → (w.alloc (.cells cs e)).cell? ((⟨w.heap.size, 0, none⟩ : Addr).add j) = some u := by
 intro j u h
 rw [zaH, Nat.zero_add, World.cell?_alloc_new]
 simpa using h
end Go.Vc
namespace Go.Vc
open Go
theorem v_sl {a : Option Addr} {l l' c : Nat} (h : l = l') : Value.slice a l c = .slice a l' c := by rw [h]
end Go.Vc
namespace Go.Proofs.YtmjeacpoobbjjaaGreatDoor
open Go.RowKit Go.Pw Go.Vc Go.Cs Go.Lib
theorem hmix : Tryz.prog.follows .mixedOrders = true := by kernel_rfl
theorem zjo (x : Int) (w : World) : (Instr.buildSlice 36 1 [(0, .int .i64 x)].toArray).run Tryz.prog w = .ok (.slice (some ⟨w.heap.size, 0, none⟩) 1 1) (w.alloc (.cells #[.int .i64 x] 3)) := by
 simp [Instr.buildSlice, go_sem, Tryz.runUnderlying36]
section
variable {w : World}
theorem zhk (w : World) (cs : Array Value) (e : TypeId) (n : Nat) (hn : cs.size = n) (hm : n ≤ 9223372036854775807) : (w.alloc (.cells cs e)).ownsRow w.heap.size e 1 (.slice (some ⟨w.heap.size, 0, none⟩) n n) n cs.toList :=
  World.ownsRow_lit w cs n (Nat.le_refl _) (by have : maxLen = 9223372036854775807 := by rfl
                                               omega) (by omega)
def Bytes (w : World) (B : Nat) (v : Value) (l : List UInt8) : Prop := w.ownsRow B 5 1 v l.length (Go.Lib.byteCells l)
theorem zhW (n : Int) (h : isSign n = false) : encodeRune n = [239, 191, 189] := by
 have : n < 0 ∨ (55296 ≤ n ∧ n ≤ 57343) ∨ 1114111 < n := by
  have h' : ¬ (isSign n = true) := by rw [h]; decide
  rw [zcC] at h'; omega
 unfold encodeRune; rw [encodeRuneZ_bad this]; rfl
end
end Go.Proofs.YtmjeacpoobbjjaaGreatDoor
namespace Go.Pw
open Go
set_option linter.unusedSectionVars false
section
end
end Go.Pw
namespace Go.Vc
open Go Go.Pw
end Go.Vc
namespace Go.Pw
open Go
set_option linter.unusedSectionVars false
section
end
end Go.Pw
namespace Go.Vc
open Go Go.Pw
theorem zar {w w' : World} {b o : Nat} {vs : List Value} (h : At w b o vs) (k : Kp w w' n_) : At w' b o vs := fun i v hi => by
 have := h i v hi
 have hlt : b < w.heap.size := by
  rcases Nat.lt_or_ge b w.heap.size with h' | h'
  ·exact h'
  ·unfold World.cell? at this
   dsimp only at this
   rw [Array.getElem?_eq_none h'] at this
   cases this
 rw [k.cell hlt id]; exact this
theorem zaE {w w' : World} {a : Addr} {v : Value} (h : w.cell? a = some v) (k : Kp w w' n_) : w'.cell? a = some v := by
 have hlt : a.block < w.heap.size := by
  rcases Nat.lt_or_ge a.block w.heap.size with h' | h'
  ·exact h'
  ·unfold World.cell? at h
   rw [Array.getElem?_eq_none h'] at h
   cases h
 rw [k.cell hlt id]; exact h
section
variable {P : Program} {t : TypeId} {w w0 : World} {K : Value → Prop}
theorem LoadK {a : Addr} {v : Value} (ht : isAggB P t = false) (h : w0.cell? a = some v) (q : Kp w0 w n_) (k : K v) : Load P t a w K := Load.one ht (zaE h q) k
theorem LoadD {a : Addr} {v : Value} (ht : isAggB P t = false) (h : w0.cell? a = some v) (q : Kp w0 w n_) (k : K v) : Load P t a w.drew K := Load.one ht (zaE h q.drew) k
theorem LoadS {a : Addr} {v : Value} (ht : isAggB P t = false) (h : w.cell? a = some v) (k : K v) : Load P t a w.drew K := Load.one ht h k
theorem zfC {α : Type} {enc : α → List Value} {g o n : Nat} {l : List α} (h : At w0 g o (l.flatMap enc)) (hn : ∀ x, (enc x).length = n) {i : Nat} (hi : i < l.length) : At w0 g (o + i * n) (enc l[i]) := fun j v hj => by
 have hjn : j < n := by rw [← hn l[i]]; exact (List.getElem?_eq_some_iff.1 hj).1
 have key : ∀ (l : List α) (i : Nat) (hi : i < l.length) (j : Nat), j < n → (l.flatMap enc)[i * n + j]? = (enc l[i])[j]? := by
  intro l
  induction l with
  | nil => intro i hi; simp at hi
  | cons x r ih =>
   intro i hi j hj
   cases i with
   | zero =>
    rw [List.flatMap_cons, Nat.zero_mul, Nat.zero_add, List.getElem?_append_left (by rw [hn]; exact hj)]; rfl
   | succ i =>
    have e : (i + 1) * n + j = n + (i * n + j) := by rw [Nat.succ_mul]; omega
    rw [List.flatMap_cons, e, List.getElem?_append_right (by rw [hn]; omega), hn, Nat.add_sub_cancel_left, ih i (by simpa using hi) j hj]; rfl
 rw [Nat.add_assoc]
 exact h (i * n + j) v ((key l i hi j hjn).trans hj)
theorem LoadF {α : Type} {enc : α → List Value} {g o n i j : Nat} {l : List α} {v : Value} (ht : isAggB P t = false) (h : At w0 g o (l.flatMap enc)) (q : Kp w0 w n_) (hn : ∀ x, (enc x).length = n) (hi : i < l.length) (hv : (enc l[i])[j]? = some v) (k : K v) : Load P t ⟨g, o + i * n + j, none⟩ w K :=
 Load.one ht (zaE (zfC h hn hi j v hv) q) k
theorem LoadF0 {α : Type} {enc : α → List Value} {g o n i : Nat} {l : List α} {v : Value} (ht : isAggB P t = false) (h : At w0 g o (l.flatMap enc)) (q : Kp w0 w n_) (hn : ∀ x, (enc x).length = n) (hi : i < l.length) (hv : (enc l[i])[0]? = some v) (k : K v) : Load P t ⟨g, o + i * n, none⟩ w K :=
 Load.one ht (zaE (zfC h hn hi 0 v hv) q) k
theorem LoadA {α : Type} {enc : α → List Value} {g o n i : Nat} {l : List α} (ht : isAggB P t = true) (hu : (P.underlying t).isSome = true) (h : At w0 g o (l.flatMap enc)) (q : Kp w0 w n_) (hn : ∀ x, (enc x).length = n) (hi : i < l.length) (hs : sizeOfT P t = some n) (k : K (.agg (enc l[i]).toArray)) : Load P t ⟨g, o + i * n, none⟩ w K :=
 Load.agg _ ht hu (by rw [hs, hn]) (zar (zfC h hn hi) q) k
theorem HeldK {S : World → Prop} {a : Addr} {v : Value} (ht : isAggB P t = false) (h : w0.cell? a = some v) (q : ∀ u, S u → Kp w0 u n_) (k : K v) : Held P S t a K := Held.one ht (fun u hu => zaE h (q u hu)) k
theorem HeldF {S : World → Prop} {α : Type} {enc : α → List Value} {g o n i j : Nat} {l : List α} {v : Value} (ht : isAggB P t = false) (h : At w0 g o (l.flatMap enc)) (q : ∀ u, S u → Kp w0 u n_) (hn : ∀ x, (enc x).length = n) (hi : i < l.length) (hv : (enc l[i])[j]? = some v) (k : K v) : Held P S t ⟨g, o + i * n + j, none⟩ K :=
 Held.one ht (fun u hu => zaE (zfC h hn hi j v hv) (q u hu)) k
theorem HeldF0 {S : World → Prop} {α : Type} {enc : α → List Value} {g o n i : Nat} {l : List α} {v : Value} (ht : isAggB P t = false) (h : At w0 g o (l.flatMap enc)) (q : ∀ u, S u → Kp w0 u n_) (hn : ∀ x, (enc x).length = n) (hi : i < l.length) (hv : (enc l[i])[0]? = some v) (k : K v) : Held P S t ⟨g, o + i * n, none⟩ K :=
 Held.one ht (fun u hu => zaE (zfC h hn hi 0 v hv) (q u hu)) k
theorem LoadV {g o j : Nat} {vs : List Value} {v : Value} (ht : isAggB P t = false) (h : At w0 g o vs) (q : Kp w0 w n_) (hv : vs[j]? = some v) (k : K v) : Load P t ⟨g, o + j, none⟩ w K := Load.one ht (zaE (h j v hv) q) k
theorem LoadV0 {g o : Nat} {vs : List Value} {v : Value} (ht : isAggB P t = false) (h : At w0 g o vs) (q : Kp w0 w n_) (hv : vs[0]? = some v) (k : K v) : Load P t ⟨g, o, none⟩ w K := Load.one ht (zaE (h 0 v hv) q) k
theorem LoadW {g o : Nat} {vs : List Value} (ht : isAggB P t = true) (hu : (P.underlying t).isSome = true) (h : At w0 g o vs) (q : Kp w0 w n_) (hs : sizeOfT P t = some vs.length) (k : K (.agg vs.toArray)) : Load P t ⟨g, o, none⟩ w K := Load.agg _ ht hu hs (zar h q) k
theorem HeldV {S : World → Prop} {g o j : Nat} {vs : List Value} {v : Value} (ht : isAggB P t = false) (h : At w0 g o vs) (q : ∀ u, S u → Kp w0 u n_) (hv : vs[j]? = some v) (k : K v) : Held P S t ⟨g, o + j, none⟩ K := Held.one ht (fun u hu => zaE (h j v hv) (q u hu)) k
theorem HeldV0 {S : World → Prop} {g o : Nat} {vs : List Value} {v : Value} (ht : isAggB P t = false) (h : At w0 g o vs) (q : ∀ u, S u → Kp w0 u n_) (hv : vs[0]? = some v) (k : K v) : Held P S t ⟨g, o, none⟩ K := Held.one ht (fun u hu => zaE (h 0 v hv) (q u hu)) k
theorem HeldW {S : World → Prop} {b o : Nat} {vs : List Value} (ht : isAggB P t = true) (hu : (P.underlying t).isSome = true) (h : At w0 b o vs) (q : ∀ u, S u → Kp w0 u n_) (hs : sizeOfT P t = some vs.length) (k : K (.agg vs.toArray)) : Held P S t ⟨b, o, none⟩ K :=
 ⟨.agg vs.toArray, fun w hw => by
  obtain ⟨v, h1, h2⟩ := (Load.agg (P := P) (t := t) (K := fun v => v = .agg vs.toArray) vs ht hu hs (zar h (q w hw)) rfl).h
  rw [h1, h2], k⟩
end
theorem HeldG {P : Program} {t : TypeId} {K : Value → Prop} {S : World → Prop} {b o : Nat} (vs : List Value) (ht : isAggB P t = true) (hu : (P.underlying t).isSome = true) (h : ∀ u, S u → At u b o vs) (hs : sizeOfT P t = some vs.length) (k : K (.agg vs.toArray)) : Held P S t ⟨b, o, none⟩ K :=
 ⟨.agg vs.toArray, fun w hw => by
  obtain ⟨v, h1, h2⟩ := (Load.agg (P := P) (t := t) (K := fun v => v = .agg vs.toArray) vs ht hu hs (h w hw) rfl).h
  rw [h1, h2], k⟩
def flatB : Value → Bool
 | .agg _ | .tuple _ => false
 | _ => true
theorem zaB {vs : List Value} (h : vs.all flatB = true) : ∀ v ∈ vs, Flat v := fun v hv => by
 have := List.all_eq_true.1 h v hv
 cases v <;> first | exact trivial | (unfold flatB at this; cases this)
theorem zcP (w : World) (T : TypeId) (vs : List Value) : At (w.alloc (.cells vs.toArray T)) w.heap.size 0 vs := fun i v hi => by
 have := zhl (heap_alloc_new w (.cells vs.toArray T)) i v (by simpa using hi)
 exact this
theorem KGO {p q : Prop} (k : q) (h : Hide q → p := by intro k_; (repeat ((first | refine Go.Vc.Br.dec_yes rfl ?_ | refine Go.Vc.Num.i64 (by omega) (by omega) ?_ | refine Go.Vc.Num.i32 (by omega) (by omega) ?_ | refine Go.Vc.Num.u8 (by omega) (by omega) ?_ | refine Go.Vc.Br.tt ?_ | refine Go.Vc.Br.ff ?_ | refine Go.Vc.Br.not_yes ?_ | refine Go.Vc.Br.dec_yes (by omega) ?_ | refine Go.Vc.Br.dec_no (by omega) ?_ | refine Go.Vc.Br.beq_yes (by omega) ?_ | refine Go.Vc.Br.beq_no (by omega) ?_ | refine Go.Vc.Br.bne_yes (by omega) ?_ | refine Go.Vc.Br.bne_no (by omega) ?_ | refine Go.Vc.Draw.text (by decide +kernel) ?_ | refine Go.Vc.Idx.lit (j := 0) rfl (by omega) ?_ | refine Go.Vc.Idx.lit (j := 1) rfl (by omega) ?_ | refine Go.Vc.Idx.lit (j := 2) rfl (by omega) ?_ | refine Go.Vc.Idx.lit (j := 3) rfl (by omega) ?_ | refine Go.Vc.Idx.lit (j := 4) rfl (by omega) ?_ | refine Go.Vc.Idx.lit (j := 5) rfl (by omega) ?_ | refine Go.Vc.Idx.lit (j := 6) rfl (by omega) ?_ | refine Go.Vc.Idx.lit (j := 7) rfl (by omega) ?_ | refine Go.Vc.Idx.nat (by omega) ?_ | refine Go.Vc.Idx.int (by omega) (by omega) ?_ | refine Go.Vc.Cut.to (by omega) ?_ | refine Go.Vc.Cut.from (by omega) (by omega) ?_ | refine Go.Vc.Cut.both (by omega) (by omega) ?_ | refine Go.Vc.Br.dec_yes (by with_reducible assumption) ?_ | refine Go.Vc.Br.dec_no (by with_reducible assumption) ?_ | refine Go.Vc.Br.yes (by with_reducible assumption) ?_ | refine Go.Vc.Br.no (by with_reducible assumption) ?_ | refine Go.Vc.Load.one (by rfl) (by with_reducible assumption) ?_ | refine Go.Vc.LoadK (by rfl) (by with_reducible assumption) (by with_reducible assumption) ?_ | refine Go.Vc.LoadD (by rfl) (by with_reducible assumption) (by with_reducible assumption) ?_ | refine Go.Vc.LoadS (by rfl) (by with_reducible assumption) ?_ | refine Go.Vc.LoadF (by rfl) (by with_reducible assumption) (by with_reducible assumption) (fun _ => rfl) (by omega) rfl ?_ | refine Go.Vc.LoadF0 (by rfl) (by with_reducible assumption) (by with_reducible assumption) (fun _ => rfl) (by omega) rfl ?_ | refine Go.Vc.LoadA (by rfl) (by rfl) (by with_reducible assumption) (by with_reducible assumption) (fun _ => rfl) (by omega) (by rfl) ?_ | refine Go.Vc.LoadF (by rfl) (by with_reducible assumption) (Go.Pw.Kp.drew (by with_reducible assumption)) (fun _ => rfl) (by omega) rfl ?_ | refine Go.Vc.LoadF0 (by rfl) (by with_reducible assumption) (Go.Pw.Kp.drew (by with_reducible assumption)) (fun _ => rfl) (by omega) rfl ?_ | refine Go.Vc.LoadA (by rfl) (by rfl) (by with_reducible assumption) (Go.Pw.Kp.drew (by with_reducible assumption)) (fun _ => rfl) (by omega) (by rfl) ?_ | refine Go.Vc.HeldK (by rfl) (by with_reducible assumption) (fun _ hu => hu) ?_ | refine Go.Vc.HeldK (by rfl) (by with_reducible assumption) (fun _ hu => Go.Pw.Kp.trans0 (by with_reducible assumption) hu) ?_ | refine Go.Vc.HeldF (by rfl) (by with_reducible assumption) (fun _ hu => hu) (fun _ => rfl) (by omega) rfl ?_ | refine Go.Vc.HeldF (by rfl) (by with_reducible assumption) (fun _ hu => Go.Pw.Kp.trans0 (by with_reducible assumption) hu) (fun _ => rfl) (by omega) rfl ?_ | refine Go.Vc.HeldF0 (by rfl) (by with_reducible assumption) (fun _ hu => hu) (fun _ => rfl) (by omega) rfl ?_ | refine Go.Vc.HeldF0 (by rfl) (by with_reducible assumption) (fun _ hu => Go.Pw.Kp.trans0 (by with_reducible assumption) hu) (fun _ => rfl) (by omega) rfl ?_ | refine Go.Vc.LoadV (by rfl) (by with_reducible assumption) (by with_reducible assumption) rfl ?_ | refine Go.Vc.LoadV (by rfl) (by with_reducible assumption) (Go.Pw.Kp.drew (by with_reducible assumption)) rfl ?_ | refine Go.Vc.LoadV (by rfl) (by with_reducible assumption) (Go.Pw.Kp.refl _ _) rfl ?_ | refine Go.Vc.LoadV0 (by rfl) (by with_reducible assumption) (by with_reducible assumption) rfl ?_ | refine Go.Vc.LoadV0 (by rfl) (by with_reducible assumption) (Go.Pw.Kp.drew (by with_reducible assumption)) rfl ?_ | refine Go.Vc.LoadV0 (by rfl) (by with_reducible assumption) (Go.Pw.Kp.refl _ _) rfl ?_ | refine Go.Vc.LoadW (by rfl) (by rfl) (by with_reducible assumption) (by with_reducible assumption) (by rfl) ?_ | refine Go.Vc.LoadW (by rfl) (by rfl) (by with_reducible assumption) (Go.Pw.Kp.drew (by with_reducible assumption)) (by rfl) ?_ | refine Go.Vc.LoadW (by rfl) (by rfl) (by with_reducible assumption) (Go.Pw.Kp.refl _ _) (by rfl) ?_ | refine Go.Vc.HeldV (by rfl) (by with_reducible assumption) (fun _ hu => hu) rfl ?_ | refine Go.Vc.HeldV (by rfl) (by with_reducible assumption) (fun _ hu => Go.Pw.Kp.trans0 (by with_reducible assumption) hu) rfl ?_ | refine Go.Vc.HeldV0 (by rfl) (by with_reducible assumption) (fun _ hu => hu) rfl ?_ | refine Go.Vc.HeldV0 (by rfl) (by with_reducible assumption) (fun _ hu => Go.Pw.Kp.trans0 (by with_reducible assumption) hu) rfl ?_ | refine Go.Vc.HeldW (by rfl) (by rfl) (by with_reducible assumption) (fun _ hu => hu) (by rfl) ?_ | refine Go.Vc.HeldW (by rfl) (by rfl) (by with_reducible assumption) (fun _ hu => Go.Pw.Kp.trans0 (by with_reducible assumption) hu) (by rfl) ?_ | refine (?_ : Go.Vc.Sat _ _ _ _ _ _ _) | refine (?_ : Go.Vc.Then _ _ _ _ _ _ _ _)); (first | refine Go.Vc.Then.go hmix ?_ | refine Go.Vc.Sat.go hmix ?_ | skip); conv => whnf)); exact Hide.h k_) : p := h ⟨k⟩
theorem new3 (w : World) (T : TypeId) (vs : List Value) : At (w.alloc (.cells (List.toArray vs) T)) w.heap.size 0 vs ∧ Kp w (w.alloc (.cells (List.toArray vs) T)) n_ ∧ (w.alloc (.cells (List.toArray vs) T)).heap.size = w.heap.size + 1 := ⟨zcP w T vs, (Kp.refl _ _).alloc _, by simp⟩
end Go.Vc
namespace Go.Vc
open Go Go.Pw Go.RowKit
def VarK (w : World) (b : Nat) (T : TypeId) (cs : List Value) : Prop := w.heap[b]? = some (.cells cs.toArray T (0, 0))
section
variable {w w' : World} {b : Nat} {T : TypeId} {cs : List Value}
theorem VarK.at (h : VarK w b T cs) : At w b 0 cs := fun i v hi => by
 have := zhl (c := cs.toArray) h i v (by simpa using hi)
 exact this
theorem VarK.lt (h : VarK w b T cs) : b < w.heap.size := by
 rcases Nat.lt_or_ge b w.heap.size with h' | h'
 ·exact h'
 ·unfold VarK at h; rw [Array.getElem?_eq_none h'] at h; cases h
theorem VarK.frozen (h : VarK w b T cs) (i : Nat) : w.frozen? ⟨b, i, none⟩ = false := by
 unfold World.frozen?
 dsimp only
 unfold VarK at h
 rw [h]; rfl
theorem VarK.keep {c : Nat → Prop} (h : VarK w b T cs) (k : Kp w w' c) (hc : ¬ c b) : VarK w' b T cs := (k.block b h.lt hc).trans h
theorem VarK.keep0 (h : VarK w b T cs) (k : Kp w w' n_) : VarK w' b T cs := h.keep k fun e => e
theorem VarK.new (w : World) (T : TypeId) (cs : List Value) : VarK (w.alloc (.cells cs.toArray T)) w.heap.size T cs := heap_alloc_new w _
theorem VarK.set (h : VarK w b T cs) (i : Nat) (v : Value) : VarK (w.setCell ⟨b, i, none⟩ v) b T (cs.set i v) := by
 have := heap_setCell_same w b i cs.toArray T v h
 unfold VarK
 rw [this]; simp
theorem zaX : ∀ (vs : List Value) (i : Nat) (w : World), Kp w (setCells b vs i w) (one_ b)
 | [], i, w => Kp.refl _ _
 | v :: r, i, w => ((Kp.refl w (one_ b)).setCell (p := ⟨b, i, none⟩) (.inl rfl) v).trans' (zaX r (i + 1) _)
theorem VarK.setAll : ∀ (vs pre post : List Value) (w : World), VarK w b T (pre ++ post) → vs.length = post.length → VarK (setCells b vs pre.length w) b T (pre ++ vs)
 | [], pre, post, w, h, hl => by
  have : post = [] := List.eq_nil_of_length_eq_zero (by simpa using hl.symm)
  subst this; exact h
 | v :: r, pre, [], w, h, hl => by simp at hl
 | v :: r, pre, p :: post, w, h, hl => by
  have h1 := h.set pre.length v
  have e : (pre ++ p :: post).set pre.length v = (pre ++ [v]) ++ post := by
   rw [List.set_append_right _ _ (Nat.le_refl _)]; simp
  rw [e] at h1
  have := VarK.setAll r (pre ++ [v]) post _ h1 (by simpa using hl)
  rw [List.length_append] at this
  show VarK (setCells b r (pre.length + 1) _) b T _
  simpa using this
end
theorem Store.varK {P : Program} {t T : TypeId} {w : World} {b : Nat} {cs : List Value} (vs : List Value) {K : World → Prop} (h : VarK w b T cs) (hs : sizeOfT P t = some vs.length) (hl : vs.length = cs.length) (hf : ∀ v ∈ vs, Flat v)
  (k : ∀ w', VarK w' b T vs → Kp w w' (one_ b) → K w') : Store P t ⟨b, 0, none⟩ (.agg vs.toArray) w K :=
 Store.agg vs hs hf (fun j hj => ⟨_, h.at j _ (List.getElem?_eq_getElem (by omega))⟩) (fun j => h.frozen j) (k _ (by
  have := VarK.setAll (T := T) (b := b) vs [] cs w h hl
  simpa using this) (zaX vs 0 w))
theorem Store.cellK {P : Program} {t T : TypeId} {w : World} {b i : Nat} {cs : List Value} {v : Value} {K : World → Prop} (h : VarK w b T cs) (hi : i < cs.length) (hs : sizeOfT P t = some 1) (hv : v.cells = #[v] ∧ (∀ cs, v ≠ .agg cs) ∧ ∀ cs, v ≠ .tuple cs)
  (k : ∀ w', VarK w' b T (cs.set i v) → Kp w w' (one_ b) → K w') : Store P t ⟨b, 0 + i, none⟩ v w K :=
 Store.one hs hv (h.at i _ (List.getElem?_eq_getElem hi)) (h.frozen _) (k _ (by rw [Nat.zero_add]; exact h.set i v) ((Kp.refl w (one_ b)).setCell (p := ⟨b, 0 + i, none⟩) (.inl rfl) v))
theorem new5 (w : World) (T : TypeId) (vs : List Value) : At (w.alloc (.cells (List.toArray vs) T)) w.heap.size 0 vs ∧ VarK (w.alloc (.cells (List.toArray vs) T)) w.heap.size T vs ∧ Kp w (w.alloc (.cells (List.toArray vs) T)) n_ ∧ (w.alloc (.cells (List.toArray vs) T)).heap.size = w.heap.size + 1 ∧ Kp (w.alloc (.cells (List.toArray vs) T)) (w.alloc (.cells (List.toArray vs) T)) n_ := ⟨zcP w T vs, VarK.new w T vs, (Kp.refl _ _).alloc _, by simp, Kp.refl _ _⟩
theorem SVK {P : Program} {t T : TypeId} {w : World} {b : Nat} {cs : List Value} (vs : List Value) {K : World → Prop} (h : VarK w b T cs) (k : ∀ w', VarK w' b T vs → Kp w w' (one_ b) → K w') (hs : sizeOfT P t = some vs.length := by rfl) (hl : vs.length = cs.length := by rfl) (hf : vs.all flatB = true := by rfl) : Store P t ⟨b, 0, none⟩ (.agg vs.toArray) w K := Store.varK vs h hs hl (zaB hf) k
theorem SCK {P : Program} {t T : TypeId} {w : World} {b : Nat} {cs : List Value} {v : Value} {K : World → Prop} (i : Nat) (h : VarK w b T cs) (k : ∀ w', VarK w' b T (cs.set i v) → Kp w w' (one_ b) → K w') (hi : i < cs.length := by exact Nat.le_of_ble_eq_true rfl) (hs : sizeOfT P t = some 1 := by rfl) (hv : v.cells = #[v] ∧ (∀ cs, v ≠ .agg cs) ∧ ∀ cs, v ≠ .tuple cs := by exact ⟨rfl, by simp, by simp⟩) : Store P t ⟨b, 0 + i, none⟩ v w K := Store.cellK h hi hs hv k
section
variable {P : Program} {w : World} {K : Value → World → Prop} {t tn ty e T : TypeId} {cs : Array Bool} {g : Nat} {cells : List Value}
theorem zka {s bytes : Nat} {z : Value} (hb : (P.info? e).map (fun i => (i.zero, i.size, i.bytes)) = some (some z, s, bytes)) : ∃ i, P.info? e = some i ∧ i.zero = some z ∧ i.size = s ∧ i.bytes = bytes := by
 obtain ⟨i, hi, hi2⟩ := Option.map_eq_some_iff.1 hb
 simp only [Prod.mk.injEq] at hi2
 exact ⟨i, hi, hi2.1, hi2.2.1, hi2.2.2⟩
end
end Go.Vc
namespace Go.Vc
open Go Go.Pw Go.RowKit Go.ChangeShapes Go.WideShapes Go.ChangeAt
def Opens (P : Program) (W : World) (T : TypeId) {α : Type} (cells : α → List Value) (p : α → Prop) : Prop :=
 ∀ {H : Type} {enc : TypeId × Value → H} {fuel : Nat} {cs : List Value} {x : DataW H × List MemPlace}, DataW.trod enc P W 0 (fun _ => true) true fuel T cs = some x → (∀ n ∈ x.1.weights P T, n ≤ reachBytes) → ∃ y, cs = cells y ∧ p y
def RowO {α : Type} (W : World) (v : Value) (cells : α → List Value) (l : List α) : Prop := ∃ a cap, v = .slice a l.length cap ∧ (0 < l.length → ∃ g o, a = some ⟨g, o, none⟩ ∧ g < W.heap.size ∧ At W g o (l.flatMap cells))
theorem RowO.keep {α : Type} {w w' : World} {v : Value} {cells : α → List Value} {l : List α} (h : RowO w v cells l) (k : Kp w w' n_) : RowO w' v cells l := by
 obtain ⟨a, cap, rfl, h⟩ := h
 exact ⟨a, cap, rfl, fun h0 => let ⟨g, o, h1, h3, h4⟩ := h h0; ⟨g, o, h1, Nat.lt_of_lt_of_le h3 k.size, zar h4 k⟩⟩
section
variable {P : Program} {W : World} {T : TypeId}
theorem Opens.imp {α β : Type} {cells : α → List Value} {p : α → Prop} {cells' : β → List Value} {p' : β → Prop} (h : Opens P W T cells p) (f : α → β) (hc : ∀ y, cells y = cells' (f y)) (hp : ∀ y, p y → p' (f y)) : Opens P W T cells' p' := fun {H enc fuel cs x} hf hsz => by
 obtain ⟨y, rfl, h2⟩ := h hf hsz
 exact ⟨f y, hc y, hp y h2⟩
end
end Go.Vc
namespace Go.Vc
open Go Go.Pw
theorem zen {α : Type} (f : α → List Value) (n : Nat) (hf : ∀ x, (f x).length = n) : ∀ (l : List α) (i : Nat), (l.flatMap f).drop (i * n) = (l.drop i).flatMap f
 | l, 0 => by simp
 | [], i + 1 => by simp
 | x :: r, i + 1 => by
  rw [List.flatMap_cons, Nat.succ_mul, Nat.add_comm, ← List.drop_drop, List.drop_left' (hf x), zen f n hf r i]; rfl
theorem zbb {α : Type} (f : α → List Value) (n : Nat) (hf : ∀ x, (f x).length = n) : ∀ (l : List α), (l.flatMap f).length = l.length * n
 | [] => by simp
 | x :: r => by rw [List.flatMap_cons, List.length_append, hf, zbb f n hf r, List.length_cons, Nat.succ_mul]; omega
theorem own_blockK {w : World} {B e s n : Nat} {v : Value} {xs : List Value} (h : w.ownsRow B e s v n xs) : (v = .slice none 0 0 ∧ n = 0) ∨ ∃ g cap cells, v = .slice (some ⟨g, 0, none⟩) n cap ∧ B ≤ g ∧ VarK w g e cells ∧ n ≤ cap ∧ cap ≤ maxLen ∧ cells.length = cap * s ∧ cells.take (n * s) = xs := by
 rcases h.2 with h | ⟨g, cap, cur, h1, h2, h3, h4, h5, h6, h7⟩
 ·exact .inl h
 ·exact .inr ⟨g, cap, cur.toList, h1, h2, by unfold VarK; simpa using h3, h4, h5, by simpa using h6, h7⟩
theorem zih {w : World} {B e s n g cap : Nat} {cells xs : List Value} (hB : B ≤ g) (h : VarK w g e cells) (hn : n ≤ cap) (hc : cap ≤ maxLen) (hl : cells.length = cap * s) (hx : cells.take (n * s) = xs) (hxl : xs.length = n * s) : w.ownsRow B e s (.slice (some ⟨g, 0, none⟩) n cap) n xs :=
 ⟨hxl, .inr ⟨g, cap, cells.toArray, rfl, hB, h, hn, hc, by simpa using hl, by simpa using hx⟩⟩
theorem zcZ {w : World} {B e s n g cap : Nat} {xs : List Value} (h : w.ownsRow B e s (.slice (some ⟨g, 0, none⟩) n cap) n xs) : At w g 0 xs := fun j u hu => by
 have := h.cells (g := g) rfl j u hu
 rw [zaH] at this; exact this
theorem VarK.cells (w : World) {g : Nat} {T : TypeId} {cells : List Value} (h : VarK w g T cells) (o : Nat) {news : List Value} (hn : ∀ j u, news[j]? = some u → cells[o + j]? = some u) : ∀ j u, news[j]? = some u → w.cell? ((⟨g, o, none⟩ : Addr).add j) = some u := fun j u hj => by
 rw [zaH]
 have := h.at (o + j) u (hn j u hj)
 simpa using this
theorem zap {α : Type} {w : World} {B e s : Nat} {v : Value} {cells : α → List Value} {l : List α} (h : w.ownsRow B e s v l.length (l.flatMap cells)) : RowO w v cells l := by
 rcases own_blockK h with ⟨rfl, h0⟩ | ⟨g, cap, cs, rfl, hB, hv, _⟩
 ·exact ⟨none, 0, by rw [h0], fun hp => by omega⟩
 ·exact ⟨some ⟨g, 0, none⟩, cap, rfl, fun _ => ⟨g, 0, rfl, hv.lt, zcZ h⟩⟩
end Go.Vc
namespace Go.Vc
theorem VarK.shape {w : World} {g : Nat} {T : TypeId} {cells : List Value} (h : VarK w g T cells) : w.shape? g = some (T, cells.length) := by
 unfold World.shape?
 unfold VarK at h
 rw [h]; simp
end Go.Vc
namespace Go.Vc
open Go Go.Pw
theorem VarK.setMid {b : Nat} {T : TypeId} : ∀ (vs pre mid post : List Value) (w : World), VarK w b T (pre ++ mid ++ post) → vs.length = mid.length → VarK (setCells b vs pre.length w) b T (pre ++ vs ++ post)
 | [], pre, mid, post, w, h, hl => by
  obtain rfl : mid = [] := List.eq_nil_of_length_eq_zero hl.symm
  exact h
 | v :: r, pre, [], post, w, h, hl => by simp at hl
 | v :: r, pre, m :: mid, post, w, h, hl => by
  have h1 := h.set pre.length v
  rw [show (pre ++ (m :: mid) ++ post).set pre.length v = (pre ++ [v]) ++ mid ++ post by
   rw [List.append_assoc, List.set_append_right _ _ (Nat.le_refl _), Nat.sub_self]
   simp] at h1
  have h2 := VarK.setMid r (pre ++ [v]) mid post _ h1 (by simpa using hl)
  rw [show (pre ++ [v]).length = pre.length + 1 by simp] at h2
  have e : pre ++ v :: r ++ post = pre ++ [v] ++ r ++ post := by simp
  rw [e]
  exact h2
end Go.Vc
namespace Go.Cs
open Go.Lib
def lowerB (b : UInt8) : UInt8 := if 65 ≤ b.toNat ∧ b.toNat ≤ 90 then (b.toNat + 32).toUInt8 else b
def nmUsAscii : List UInt8 := [117, 115, 45, 97, 115, 99, 105, 105]
def nmAscii : List UInt8 := [97, 115, 99, 105, 105]
def nmUtf_8 : List UInt8 := [117, 116, 102, 45, 56]
def nmUtf8 : List UInt8 := [117, 116, 102, 56]
def nmIso : List UInt8 := [105, 115, 111, 45, 56, 56, 53, 57, 45, 49]
def nmLatin1 : List UInt8 := [108, 97, 116, 105, 110, 49]
def nmWin : List UInt8 := [119, 105, 110, 100, 111, 119, 115, 45, 49, 50, 53, 50]
def nmCp : List UInt8 := [99, 112, 49, 50, 53, 50]
def kindL (m : List UInt8) : Nat :=
 if m = nmUsAscii then 1 else if m = nmAscii then 1 else if m = nmUtf_8 then 2 else if m = nmUtf8 then 2 else if m = nmIso then 3 else if m = nmLatin1 then 3 else if m = nmWin then 4 else if m = nmCp then 4 else 0
def kind (l : List UInt8) : Nat := kindL (l.map lowerB)
def highT : List Nat := [8364, 129, 8218, 402, 8222, 8230, 8224, 8225, 710, 8240, 352, 8249, 338, 141, 381, 143, 144, 8216, 8217, 8220, 8221, 8226, 8211, 8212, 732, 8482, 353, 8250, 339, 157, 382, 376]
def sgn (k : Nat) (b : UInt8) : Nat :=
 if k = 1 then (if b.toNat < 128 then b.toNat else 65533) else if k = 3 then b.toNat else if b.toNat < 128 then b.toNat else if b.toNat < 160 then highT.getD (b.toNat - 128) 0 else b.toNat
def decodeS (name l : List UInt8) : List UInt8 := if kind name = 2 then repair l else encs (l.map (sgn (kind name)))
theorem ziu (i : Nat) (h : i < 32) : scal (highT.getD i 0) ∧ highT.getD i 0 ≤ 65535 := by
 have : ∀ i : Fin 32, scal (highT.getD i.val 0) ∧ highT.getD i.val 0 ≤ 65535 := by decide
 exact this ⟨i, h⟩
theorem zjs (k : Nat) (b : UInt8) : scal (sgn k b) := by
 have hb := UInt8.toNat_lt b
 unfold sgn
 split
 ·split
  ·exact .inl (by omega)
  ·exact zhm
 ·split
  ·exact .inl (by omega)
  ·split
   ·exact .inl (by omega)
   ·split
    ·exact (ziu _ (by omega)).1
    ·exact .inl (by omega)
theorem zlh (l : List UInt8) : kind l ≤ 4 := by
 unfold kind kindL
 repeat' split
 all_goals omega
end Go.Cs
