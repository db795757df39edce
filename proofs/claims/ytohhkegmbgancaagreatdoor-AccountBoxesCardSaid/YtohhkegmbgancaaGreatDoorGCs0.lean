/- Helper text of this claim: Cs0, Cs1, WsK, Ch1: lemmas and contracts that the proved statement rests on; no conditions of its own. -/
import Derived.Lib.ValidLaws
import Derived.Lib.RuneBytes
import Derived.Lib.MapLaws
import Derived.Laws.Concat
import Derived.Test.YtohhkegmbgancaaGreatDoorGWc5
import Derived.Lib.ConvBytes
import Derived.Laws.IdiomStrings
import Derived.Laws.BytesArg
import Derived.Lib.UnsafeStr
import Derived.Test.YtohhkegmbgancaaGreatDoorProg
namespace Go.Cs
open Go.Lib
set_option linter.unusedVariables false
/-! ### Text as bytes and code points: plain -/
def scal (n : Nat) : Prop := n < 55296 ∨ (57343 < n ∧ n ≤ 1114111)
instance (n : Nat) : Decidable (scal n) := by unfold scal; infer_instance
def enc (n : Nat) : List UInt8 := encodeRune (n : Int)
def encs (rs : List Nat) : List UInt8 := rs.flatMap enc
theorem encs_cons (c : Nat) (rs : List Nat) : encs (c :: rs) = enc c ++ encs rs := rfl
theorem enc1 {c : Nat} (h : c < 128) : enc c = [c.toUInt8] := by
  unfold enc encodeRune; rw [encodeRuneZ_one (by omega) (by omega)]; simp
theorem enc_of1 {c : Nat} {b0 : UInt8} (h : c < 128) (e0 : c = b0.toNat) : enc c = [b0] := by
  rw [enc1 h, e0]; simp
theorem toU (x : Int) (b : UInt8) (h : x = b.toNat) : x.toNat.toUInt8 = b := by subst h; simp
theorem enc_of2 {c : Nat} {b0 b1 : UInt8} (h : 128 ≤ c) (h' : c ≤ 2047) (e0 : (192 + (c : Int) / 64) = b0.toNat) (e1 : (128 + (c : Int) % 64) = b1.toNat) : enc c = [b0, b1] := by
  unfold enc encodeRune; rw [encodeRuneZ_two (by omega) (by omega)]
  simp only [List.map_cons, List.map_nil, toU _ _ e0, toU _ _ e1]
theorem enc_of3 {c : Nat} {b0 b1 b2 : UInt8} (h : 2048 ≤ c ∧ c ≤ 65535 ∧ scal c) (e0 : (224 + (c : Int) / 4096) = b0.toNat) (e1 : (128 + (c : Int) / 64 % 64) = b1.toNat) (e2 : (128 + (c : Int) % 64) = b2.toNat) : enc c = [b0, b1, b2] := by
  unfold enc encodeRune; rw [encodeRuneZ_three (by unfold scal at h; omega)]
  simp only [List.map_cons, List.map_nil, toU _ _ e0, toU _ _ e1, toU _ _ e2]
theorem enc_of4 {c : Nat} {b0 b1 b2 b3 : UInt8} (h : 65536 ≤ c) (h' : c ≤ 1114111) (e0 : (240 + (c : Int) / 262144) = b0.toNat) (e1 : (128 + (c : Int) / 4096 % 64) = b1.toNat) (e2 : (128 + (c : Int) / 64 % 64) = b2.toNat) (e3 : (128 + (c : Int) % 64) = b3.toNat) : enc c = [b0, b1, b2, b3] := by
  unfold enc encodeRune; rw [encodeRuneZ_four (by omega) (by omega)]
  simp only [List.map_cons, List.map_nil, toU _ _ e0, toU _ _ e1, toU _ _ e2, toU _ _ e3]
/-- What a decoder's step says of the bytes ahead. -/
def Whole (l : List UInt8) (c k : Nat) : Prop := scal c ∧ l.take k = enc c ∧ k = (enc c).length ∧ ¬ (c = 65533 ∧ k = 1)
set_option maxHeartbeats 4000000 in
theorem dec_whole (l : List UInt8) (hne : l ≠ []) : decodeL l = (65533, 1) ∨ Whole l (decodeL l).1 (decodeL l).2 := by
  rw [decodeL_N]
  obtain ⟨b0, t, rfl⟩ := List.exists_cons_of_ne_nil hne
  have h0 := UInt8.toNat_lt b0
  simp only [List.getD_cons_zero, List.getD_cons_succ, List.length_cons]
  have h1 := UInt8.toNat_lt (t.getD 0 0)
  have h2 := UInt8.toNat_lt (t.getD 1 0)
  have h3 := UInt8.toNat_lt (t.getD 2 0)
  unfold decodeN
  split
  · rename_i h
    right
    have e := enc_of1 h (b0 := b0) rfl
    exact ⟨.inl (by omega), by rw [e]; rfl, by rw [e]; rfl, by omega⟩
  · split
    · rename_i h
      split
      · rename_i hc
        right
        obtain ⟨b1, t, rfl⟩ := List.exists_cons_of_ne_nil (l := t) (by rintro rfl; simp at h)
        simp only [List.getD_cons_zero] at *
        have e := enc_of2 (c := b0.toNat % 32 * 64 + b1.toNat % 64) (b0 := b0) (b1 := b1) (by omega) (by omega) (by omega) (by omega)
        exact ⟨.inl (by omega), by rw [e]; rfl, by rw [e]; rfl, by omega⟩
      · exact .inl rfl
    · split
      · rename_i h
        split
        · rename_i hc
          right
          obtain ⟨b1, t, rfl⟩ := List.exists_cons_of_ne_nil (l := t) (by rintro rfl; simp at h)
          obtain ⟨b2, t, rfl⟩ := List.exists_cons_of_ne_nil (l := t) (by rintro rfl; simp at h)
          simp only [List.getD_cons_zero, List.getD_cons_succ] at *
          have hs : scal (b0.toNat % 16 * 4096 + b1.toNat % 64 * 64 + b2.toNat % 64) := by unfold scal; omega
          have e := enc_of3 (c := b0.toNat % 16 * 4096 + b1.toNat % 64 * 64 + b2.toNat % 64) (b0 := b0) (b1 := b1) (b2 := b2) ⟨by omega, by omega, hs⟩ (by omega) (by omega) (by omega)
          exact ⟨hs, by rw [e]; rfl, by rw [e]; rfl, by omega⟩
        · exact .inl rfl
      · split
        · rename_i h
          split
          · rename_i hc
            right
            obtain ⟨b1, t, rfl⟩ := List.exists_cons_of_ne_nil (l := t) (by rintro rfl; simp at h)
            obtain ⟨b2, t, rfl⟩ := List.exists_cons_of_ne_nil (l := t) (by rintro rfl; simp at h)
            obtain ⟨b3, t, rfl⟩ := List.exists_cons_of_ne_nil (l := t) (by rintro rfl; simp at h)
            simp only [List.getD_cons_zero, List.getD_cons_succ] at *
            have hs : scal (b0.toNat % 8 * 262144 + b1.toNat % 64 * 4096 + b2.toNat % 64 * 64 + b3.toNat % 64) := by unfold scal; omega
            have e := enc_of4 (c := b0.toNat % 8 * 262144 + b1.toNat % 64 * 4096 + b2.toNat % 64 * 64 + b3.toNat % 64) (b0 := b0) (b1 := b1) (b2 := b2) (b3 := b3) (by omega) (by omega) (by omega) (by omega) (by omega) (by omega)
            exact ⟨hs, by rw [e]; rfl, by rw [e]; rfl, by omega⟩
          · exact .inl rfl
        · exact .inl rfl
theorem u8n (x : Int) (h : 0 ≤ x ∧ x < 256) : (x.toNat.toUInt8).toNat = x.toNat := by
  simp; omega
set_option maxHeartbeats 4000000 in
theorem dec_enc (c : Nat) (h : scal c) (t : List UInt8) : decodeL (enc c ++ t) = (c, (enc c).length) := by
  rw [decodeL_N]
  unfold scal at h
  unfold enc encodeRune
  by_cases h1 : c < 128
  · rw [encodeRuneZ_one (by omega) (by omega)]
    simp only [List.map_cons, List.map_nil, List.cons_append, List.nil_append, List.getD_cons_zero, List.length_cons, List.length_nil]
    rw [u8n _ (by omega)]
    unfold decodeN
    rw [if_pos (by omega)]
    simp
  by_cases h2 : c ≤ 2047
  · rw [encodeRuneZ_two (by omega) (by omega)]
    simp only [List.map_cons, List.map_nil, List.cons_append, List.nil_append, List.getD_cons_zero, List.getD_cons_succ, List.length_cons, List.length_nil]
    rw [u8n _ (by omega), u8n _ (by omega)]
    unfold decodeN
    rw [if_neg (by omega), if_pos (by omega), if_pos (by omega)]
    congr 1; omega
  by_cases h3 : c ≤ 65535
  · rw [encodeRuneZ_three (by omega)]
    simp only [List.map_cons, List.map_nil, List.cons_append, List.nil_append, List.getD_cons_zero, List.getD_cons_succ, List.length_cons, List.length_nil]
    rw [u8n _ (by omega), u8n _ (by omega), u8n _ (by omega)]
    unfold decodeN
    rw [if_neg (by omega), if_neg (by omega), if_pos (by omega), if_pos (by omega)]
    congr 1; omega
  · rw [encodeRuneZ_four (by omega) (by omega)]
    simp only [List.map_cons, List.map_nil, List.cons_append, List.nil_append, List.getD_cons_zero, List.getD_cons_succ, List.length_cons, List.length_nil]
    rw [u8n _ (by omega), u8n _ (by omega), u8n _ (by omega), u8n _ (by omega)]
    unfold decodeN
    rw [if_neg (by omega), if_neg (by omega), if_neg (by omega), if_pos (by omega), if_pos (by omega)]
    congr 1; omega

def runesF : Nat → List UInt8 → List Nat
  | 0, _ => []
  | _ + 1, [] => []
  | n + 1, b :: t => (decodeL (b :: t)).1 :: runesF n ((b :: t).drop (decodeL (b :: t)).2)
def runes (l : List UInt8) : List Nat := runesF l.length l
theorem runesF_fuel : ∀ (n m : Nat) (l : List UInt8), l.length ≤ n → l.length ≤ m → runesF n l = runesF m l
  | 0, m, l, hn, _ => by
    have : l = [] := List.eq_nil_of_length_eq_zero (by omega)
    subst this
    cases m <;> rfl
  | n + 1, 0, l, _, hm => by
    have : l = [] := List.eq_nil_of_length_eq_zero (by omega)
    subst this; rfl
  | n + 1, m + 1, [], _, _ => rfl
  | n + 1, m + 1, b :: t, hn, hm => by
    have hw := decodeL_width (b :: t)
    simp only [runesF]
    rw [runesF_fuel n m _ (by rw [List.length_drop]; omega) (by rw [List.length_drop]; omega)]
theorem runes_step (l : List UInt8) (hne : l ≠ []) : runes l = (decodeL l).1 :: runes (l.drop (decodeL l).2) := by
  obtain ⟨b, t, rfl⟩ := List.exists_cons_of_ne_nil hne
  have hw := decodeL_width (b :: t)
  show (decodeL (b :: t)).1 :: runesF t.length _ = _
  rw [runesF_fuel t.length ((b :: t).drop (decodeL (b :: t)).2).length _ (by rw [List.length_drop, List.length_cons]; omega) (Nat.le_refl _)]
  rfl
theorem dec_ind {motive : List UInt8 → Prop} (nil : motive []) (step : ∀ l, l ≠ [] → motive (l.drop (decodeL l).2) → motive l) : ∀ l, motive l := by
  have key : ∀ n l, l.length = n → motive l := by
    intro n
    induction n using Nat.strongRecOn with
    | _ n ih =>
      intro l hl
      by_cases hne : l = []
      · rw [hne]; exact nil
      · have hw := decodeL_width l
        have h0 : 0 < l.length := List.length_pos_iff.2 hne
        exact step l hne (ih _ (by rw [List.length_drop]; omega) _ rfl)
  exact fun l => key _ l rfl
def repair (l : List UInt8) : List UInt8 := encs (runes l)
theorem scal_bad : scal 65533 := .inr ⟨by omega, by omega⟩
theorem dec_scal (l : List UInt8) (hne : l ≠ []) : scal (decodeL l).1 := by
  rcases dec_whole l hne with h | h
  · rw [h]; exact scal_bad
  · exact h.1
theorem runes_scal (l : List UInt8) : ∀ c ∈ runes l, scal c := by
  induction l using dec_ind with
  | nil => intro c hc; cases hc
  | step l hne ih =>
    intro c hc
    rw [runes_step l hne] at hc
    rcases List.mem_cons.1 hc with rfl | hc
    · exact dec_scal l hne
    · exact ih c hc
theorem enc_bad_len : (enc 65533).length = 3 := by decide
theorem repair_of_valid (l : List UInt8) : validD l = true → repair l = l := by
  unfold repair
  induction l using dec_ind with
  | nil => intro _; rfl
  | step l hne ih =>
    intro hv
    rw [validD_step l hne] at hv
    split at hv
    · cases hv
    · rename_i hb
      rw [runes_step l hne, encs_cons, ih hv]
      rcases dec_whole l hne with h | h
      · rw [h] at hb; simp at hb
      · rw [← h.2.1, List.take_append_drop]
end Go.Cs

namespace Go.Cs
open Go.Lib
set_option linter.unusedVariables false
/-! ### The reference's search for the first code point -/
def bt (l : List UInt8) (i : Nat) : Int := ((l.getD i 0).toNat : Int)
def base (l : List UInt8) (m : Nat) : Int := if m = 1 then bt l 0 else if m = 2 then bt l 0 - 192 else if m = 3 then bt l 0 - 224 else bt l 0 - 240
end Go.Cs
namespace Go.Cs
open Go.Lib
def off (m : Nat) : Int := if m = 2 then 192 else if m = 3 then 224 else 240
/-- The bytes of a text. -/
def L (s : ByteArray) : List UInt8 := s.data.toList
def str (l : List UInt8) : ByteArray := ⟨l.toArray⟩
theorem L_str (l : List UInt8) : L (str l) = l := rfl
theorem str_L (s : ByteArray) : str (L s) = s := rfl
theorem L_len (s : ByteArray) : (L s).length = s.size := rfl
theorem str_size (l : List UInt8) : (str l).size = l.length := rfl
theorem str_inj {a b : List UInt8} : str a = str b ↔ a = b := by
  constructor
  · intro h; rw [← L_str a, h, L_str]
  · intro h; rw [h]
theorem L_extract (s : ByteArray) (i j : Nat) : L (s.extract i j) = ((L s).take j).drop i := by
  unfold L
  rw [ByteArray.data_extract, Array.toList_extract, List.extract_eq_take_drop, List.drop_take]
theorem L_from (s : ByteArray) (i : Nat) : L (s.extract i s.size) = (L s).drop i := by
  rw [L_extract, List.take_of_length_le (by rw [L_len]; exact Nat.le_refl _)]
theorem str_append (a b : List UInt8) : str a ++ str b = str (a ++ b) := by
  unfold str; exact ByteArray.mk_append_mk a b
theorem L_ne {s : ByteArray} (h : 0 < s.size) : L s ≠ [] := by
  intro e; have := L_len s; rw [e] at this; simp at this; omega
end Go.Cs

/-! Rows of the call's own beside the engine: kept, read, turned to text. -/
namespace Go.Vc
open Go Go.Pw Go.RowKit
set_option linter.unusedVariables false
section
variable {w w' : World} {B s n : Nat} {e : TypeId} {v : Value} {xs : List Value} {c : Nat → Prop}
theorem own_keep (h : w.ownsRow B e s v n xs) (k : Keeps w w' c) (hc : ∀ b, v.ownBlock = some b → ¬ c b) : w'.ownsRow B e s v n xs := by
  refine ⟨h.1, ?_⟩
  rcases h.2 with hn | ⟨g, cap, cur, rfl, hb, hgg, rest⟩
  · exact .inl hn
  · have hlt : g < w.heap.size := by
      rcases Nat.lt_or_ge g w.heap.size with h' | h'
      · exact h'
      · rw [Array.getElem?_eq_none h'] at hgg; cases hgg
    exact .inr ⟨g, cap, cur, rfl, hb, (k.block g hlt (hc g rfl)).trans hgg, rest⟩
theorem own_keep0 (h : w.ownsRow B e s v n xs) (k : Keeps w w' none_) : w'.ownsRow B e s v n xs := own_keep h k fun _ _ => id
theorem own_base {B' : Nat} (h : w.ownsRow B e s v n xs) (hB : B' ≤ B) : w.ownsRow B' e s v n xs := by
  refine ⟨h.1, ?_⟩
  rcases h.2 with hn | ⟨g, cap, cur, rfl, hb, rest⟩
  · exact .inl hn
  · exact .inr ⟨g, cap, cur, rfl, Nat.le_trans hB hb, rest⟩
theorem own_shape (h : w.ownsRow B e s v n xs) : ∃ a cap, v = .slice a n cap := by
  rcases h.2 with ⟨rfl, rfl⟩ | ⟨g, cap, cur, rfl, _⟩
  · exact ⟨_, _, rfl⟩
  · exact ⟨_, _, rfl⟩
theorem own_len1 (h : w.ownsRow B e 1 v n xs) : xs.length = n := by have := h.1; omega
theorem own_at {a : Option Addr} {cap : Nat} (h : w.ownsRow B e s (.slice a n cap) n xs) (h0 : 0 < n) : ∃ g, a = some ⟨g, 0, none⟩ ∧ B ≤ g ∧ g < w.heap.size ∧ At w g 0 xs := by
  rcases h.2 with ⟨h1, h2⟩ | ⟨g, cap', cur, h1, hb, hgg, _⟩
  · omega
  · injection h1 with h1 _ h3
    subst h1
    subst h3
    refine ⟨g, rfl, hb, (h.lt g rfl).2, fun i u hi => ?_⟩
    have := h.cells (g := g) rfl i u hi
    rw [add_none] at this; exact this
theorem _root_.Go.Pw.Keeps.grown {a : World} {row : Option Nat} (h : Keeps a w c) (hg : w.grownBy w' row) (hr : ∀ k, row = some k → a.heap.size ≤ k) : Keeps a w' c :=
  ⟨hg.os.trans h.os, hg.tape.trans h.tape, hg.output.trans h.output, Nat.le_trans h.size hg.size, fun i hi hn =>
    (hg.block i (Nat.lt_of_lt_of_le hi h.size) (fun e => by have := hr i e.symm; omega)).trans (h.block i hi hn)⟩
theorem _root_.Go.Pw.Keeps.own {a : World} (h : Keeps a w c) (ho : w.ownsRow B e s v n xs) (hB : a.heap.size ≤ B) (hg : w.grownBy w' v.ownBlock) : Keeps a w' c :=
  h.grown hg fun k hk => Nat.le_trans hB (ho.lt k hk).1
theorem _root_.Go.Pw.Keeps.below' {a : World} (h : Keeps a w c) (hb : Below B w w') (hB : a.heap.size ≤ B) : Keeps a w' c :=
  ⟨hb.os.trans h.os, hb.tape.trans h.tape, hb.output.trans h.output, Nat.le_trans h.size hb.size, fun i hi hn => (hb.block i (by omega)).trans (h.block i hi hn)⟩
end
section
variable {P : Program} {w : World}
/-- 'string(b)' of a row of the call's own. -/
theorem RunV.str {src dst e T : TypeId} {B n cap : Nat} {a : Option Addr} {l : List UInt8} {K : Value → World → Prop} (hs : P.underlying src = some (.slice e)) (he : P.underlying e = some (.int .u8)) (hd : P.underlying dst = some .string)
    (h : w.ownsRow B T 1 (.slice a n cap) n (Lib.byteCells l)) (k : K (.string ⟨l.toArray⟩) w) : RunV P (convert src dst (.slice a n cap)) w K := by
  have hn := own_len1 h
  rw [Lib.byteCells_length] at hn
  subst hn
  by_cases h0 : 0 < l.length
  · obtain ⟨g, rfl, _, _, hat⟩ := own_at h h0
    refine ⟨_, _, run_convert_bytes_back w src dst e ⟨g, 0, none⟩ cap l hs he hd (fun j hj => ?_), k⟩
    have := hat j (.int .u8 l[j].toNat) (by simp [Lib.byteCells, hj])
    rw [add_none]; exact this
  · have hl : l = [] := List.eq_nil_of_length_eq_zero (by omega)
    subst hl
    rcases h.2 with ⟨h1, _⟩ | ⟨g, cap', cur, h1, _⟩
    · injection h1 with h1 _ _
      subst h1
      exact ⟨_, _, run_convert_bytes_nil w src e hs he _ _ dst hd, k⟩
    · injection h1 with h1 _ _
      subst h1
      exact ⟨_, _, run_convert_bytes_back w src dst e ⟨g, 0, none⟩ cap [] hs he hd (fun j hj => by simp at hj), k⟩
theorem wrap_i64 (n : Int) (h : -9223372036854775808 ≤ n ∧ n ≤ 9223372036854775807) : IntKind.i64.wrap n = n := by
  unfold IntKind.wrap; simp [IntKind.signed, IntKind.bits]; omega
end
end Go.Vc
namespace Go.Vc
open Go
end Go.Vc
namespace Go.Vc
open Go Go.Pw Go.RowKit
theorem RunN.app {P : Program} {w : World} {K : Value → World → Prop} {t ty e : TypeId} {cs : Array Bool} {B s n bytes : Nat} {z v : Value} {xs : List Value} (ht : P.underlying t = some (.slice e)) (hb : (P.info? e).map (fun i => (i.zero, i.size, i.bytes)) = some (some z, s, bytes)) (hz : z.cells.size = s) (hs : 0 < s)
    (hown : w.ownsRow B e s v n xs) (hB : B ≤ w.heap.size) (a : Addr) (m c : Nat) (news : List Value) (hl : news.length = m * s) (hnews : ∀ j u, news[j]? = some u → w.cell? (a.add j) = some u) (h1 : ∀ u ∈ news, u.oneCell' = true)
    (h63 : n + m ≤ 9223372036854775807) (hbytes : (n + m) * bytes ≤ 140737488355328)
    (k : ∀ v' w', w'.ownsRow B e s v' (n + m) (xs ++ news) → w.grownBy w' v.ownBlock → K v' w') : RunN P (builtin .append #[t, t] ty cs [v, .slice (some a) m c].toArray) w K := by
  obtain ⟨i, hi, hi2⟩ := Option.map_eq_some_iff.1 hb
  simp only [Prod.mk.injEq] at hi2
  obtain ⟨z1, z2, z3⟩ := hi2
  refine RunN.append B e i z s bytes ht hi z1 z2 z3 hz hs v n xs hown a m c news hl hnews h1 (by rw [show maxLen = 9223372036854775807 from rfl]; omega) hbytes hB fun v' w' h2 h3 _ => k v' w' h2 h3
theorem new_cells (w : World) (cs : Array Value) (e : TypeId) : ∀ j u, cs.toList[j]? = some u → (w.alloc (.cells cs e)).cell? ((⟨w.heap.size, 0, none⟩ : Addr).add j) = some u := by
  intro j u h
  rw [add_none, Nat.zero_add, World.cell?_alloc_new]
  simpa using h
end Go.Vc
namespace Go.Vc
open Go
end Go.Vc

-- alias Tryz
namespace Go.Proofs.YtohhkegmbgancaaGreatDoor
open Go.RowKit Go.Pw Go.Vc Go.Cs Go.Lib
set_option linter.unusedVariables false
set_option maxRecDepth 100000
theorem hmix : Tryz.prog.follows .mixedOrders = true := by kernel_rfl
theorem build_i1 (x : Int) (w : World) : (Instr.buildSlice 25 1 [(0, .int .i64 x)].toArray).run Tryz.prog w = .ok (.slice (some ⟨w.heap.size, 0, none⟩) 1 1) (w.alloc (.cells #[.int .i64 x] 3)) := by
  simp [Instr.buildSlice, go_sem, Tryz.runUnderlying25]
section
variable {w : World}
/-- A row of bytes, the call's own. -/
def Bytes (w : World) (B : Nat) (v : Value) (l : List UInt8) : Prop := w.ownsRow B 5 1 v l.length (Go.Lib.byteCells l)
end
end Go.Proofs.YtohhkegmbgancaaGreatDoor
