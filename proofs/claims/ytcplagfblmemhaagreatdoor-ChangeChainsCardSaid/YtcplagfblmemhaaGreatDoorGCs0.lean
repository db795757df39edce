/- Helper text of this claim: lemmas and contracts that the proved statement rests on; no conditions of its own. -/
import Derived.Lib.ValidLaws
import Derived.Lib.RuneBytes
import Derived.Lib.MapLaws
import Derived.Laws.Concat
import Derived.Lib.ConvBytes
import Derived.Laws.IdiomStrings
import Derived.Laws.BytesArg
import Derived.Lib.UnsafeStr
import Derived.Test.YtcplagfblmemhaaGreatDoorProg
import Derived.Shelf.Strings.BuilderK
import Derived.Shelf.Strings.BuilderRune
import Derived.Shelf.Strings.Prefix
import Derived.Shelf.Small.Utf8
import Derived.Shelf.Unicode.DecodeAny
import Derived.Shelf.Unicode.ValidAny
import Derived.Test.YtcplagfblmemhaaGreatDoorWcz
namespace Go.Cs
set_option linter.unusedVariables false
set_option maxHeartbeats 4000000
open Go.Lib
set_option linter.unusedVariables false
def scal (n : Nat) : Prop := n < 55296 ∨ (57343 < n ∧ n ≤ 1114111)
instance (n : Nat) : Decidable (scal n) := by unfold scal; infer_instance
def enc (n : Nat) : List UInt8 := encodeRune (n : Int)
def encs (rs : List Nat) : List UInt8 := rs.flatMap enc
theorem zmo (c : Nat) (rs : List Nat) : encs (c :: rs) = enc c ++ encs rs := rfl
theorem enc1 {c : Nat} (h : c < 128) : enc c = [c.toUInt8] := by
 unfold enc encodeRune; rw [encodeRuneZ_one (by omega) (by omega)]; simp
theorem zps {c : Nat} {b0 : UInt8} (h : c < 128) (e0 : c = b0.toNat) : enc c = [b0] := by
 rw [enc1 h, e0]; simp
theorem toU (x : Int) (b : UInt8) (h : x = b.toNat) : x.toNat.toUInt8 = b := by subst h; simp
theorem zpK {c : Nat} {b0 b1 : UInt8} (h : 128 ≤ c) (h' : c ≤ 2047) (e0 : (192 + (c : Int) / 64) = b0.toNat) (e1 : (128 + (c : Int) % 64) = b1.toNat) : enc c = [b0, b1] := by
 unfold enc encodeRune; rw [encodeRuneZ_two (by omega) (by omega)]
 simp only [List.map_cons, List.map_nil, toU _ _ e0, toU _ _ e1]
theorem zqh {c : Nat} {b0 b1 b2 : UInt8} (h : 2048 ≤ c ∧ c ≤ 65535 ∧ scal c) (e0 : (224 + (c : Int) / 4096) = b0.toNat) (e1 : (128 + (c : Int) / 64 % 64) = b1.toNat) (e2 : (128 + (c : Int) % 64) = b2.toNat) : enc c = [b0, b1, b2] := by
 unfold enc encodeRune; rw [encodeRuneZ_three (by unfold scal at h; omega)]
 simp only [List.map_cons, List.map_nil, toU _ _ e0, toU _ _ e1, toU _ _ e2]
theorem zpD {c : Nat} {b0 b1 b2 b3 : UInt8} (h : 65536 ≤ c) (h' : c ≤ 1114111) (e0 : (240 + (c : Int) / 262144) = b0.toNat) (e1 : (128 + (c : Int) / 4096 % 64) = b1.toNat) (e2 : (128 + (c : Int) / 64 % 64) = b2.toNat) (e3 : (128 + (c : Int) % 64) = b3.toNat) : enc c = [b0, b1, b2, b3] := by
 unfold enc encodeRune; rw [encodeRuneZ_four (by omega) (by omega)]
 simp only [List.map_cons, List.map_nil, toU _ _ e0, toU _ _ e1, toU _ _ e2, toU _ _ e3]
def Whole (l : List UInt8) (c k : Nat) : Prop := scal c ∧ l.take k = enc c ∧ k = (enc c).length ∧ ¬ (c = 65533 ∧ k = 1)
theorem dec_whole (l : List UInt8) (hne : l ≠ []) : decodeL l = (65533, 1) ∨ Whole l (decodeL l).1 (decodeL l).2 := by
 rw [decodeL_N]
 obtain ⟨b0, t, rfl⟩ := List.exists_cons_of_ne_nil hne
 have h0 := UInt8.toNat_lt b0
 simp only [List.getD_cons_zero, List.getD_cons_succ, List.length_cons]
 have h1 := UInt8.toNat_lt (t.getD 0 0)
 have h2 := UInt8.toNat_lt (t.getD 1 0)
 have h3 := UInt8.toNat_lt (t.getD 2 0)
 unfold decodeN
 split
 ·rename_i h
  right
  have e := zps h (b0 := b0) rfl
  exact ⟨.inl (by omega), by rw [e]; rfl, by rw [e]; rfl, by omega⟩
 ·split
  ·rename_i h
   split
   ·rename_i hc
    right
    obtain ⟨b1, t, rfl⟩ := List.exists_cons_of_ne_nil (l := t) (by rintro rfl; simp at h)
    simp only [List.getD_cons_zero] at *
    have e := zpK (c := b0.toNat % 32 * 64 + b1.toNat % 64) (b0 := b0) (b1 := b1) (by omega) (by omega) (by omega) (by omega)
    exact ⟨.inl (by omega), by rw [e]; rfl, by rw [e]; rfl, by omega⟩
   ·exact .inl rfl
  ·split
   ·rename_i h
    split
    ·rename_i hc
     right
     obtain ⟨b1, t, rfl⟩ := List.exists_cons_of_ne_nil (l := t) (by rintro rfl; simp at h)
     obtain ⟨b2, t, rfl⟩ := List.exists_cons_of_ne_nil (l := t) (by rintro rfl; simp at h)
     simp only [List.getD_cons_zero, List.getD_cons_succ] at *
     have hs : scal (b0.toNat % 16 * 4096 + b1.toNat % 64 * 64 + b2.toNat % 64) := by unfold scal; omega
     have e := zqh (c := b0.toNat % 16 * 4096 + b1.toNat % 64 * 64 + b2.toNat % 64) (b0 := b0) (b1 := b1) (b2 := b2) ⟨by omega, by omega, hs⟩ (by omega) (by omega) (by omega)
     exact ⟨hs, by rw [e]; rfl, by rw [e]; rfl, by omega⟩
    ·exact .inl rfl
   ·split
    ·rename_i h
     split
     ·rename_i hc
      right
      obtain ⟨b1, t, rfl⟩ := List.exists_cons_of_ne_nil (l := t) (by rintro rfl; simp at h)
      obtain ⟨b2, t, rfl⟩ := List.exists_cons_of_ne_nil (l := t) (by rintro rfl; simp at h)
      obtain ⟨b3, t, rfl⟩ := List.exists_cons_of_ne_nil (l := t) (by rintro rfl; simp at h)
      simp only [List.getD_cons_zero, List.getD_cons_succ] at *
      have hs : scal (b0.toNat % 8 * 262144 + b1.toNat % 64 * 4096 + b2.toNat % 64 * 64 + b3.toNat % 64) := by unfold scal; omega
      have e := zpD (c := b0.toNat % 8 * 262144 + b1.toNat % 64 * 4096 + b2.toNat % 64 * 64 + b3.toNat % 64) (b0 := b0) (b1 := b1) (b2 := b2) (b3 := b3) (by omega) (by omega) (by omega) (by omega) (by omega) (by omega)
      exact ⟨hs, by rw [e]; rfl, by rw [e]; rfl, by omega⟩
     ·exact .inl rfl
    ·exact .inl rfl
theorem u8n (x : Int) (h : 0 ≤ x ∧ x < 256) : (x.toNat.toUInt8).toNat = x.toNat := by
 simp; omega
theorem zmC (c : Nat) (h : scal c) (t : List UInt8) : decodeL (enc c ++ t) = (c, (enc c).length) := by
 rw [decodeL_N]
 unfold scal at h
 unfold enc encodeRune
 by_cases h1 : c < 128
 ·rw [encodeRuneZ_one (by omega) (by omega)]
  simp only [List.map_cons, List.map_nil, List.cons_append, List.nil_append, List.getD_cons_zero, List.length_cons, List.length_nil]
  rw [u8n _ (by omega)]
  unfold decodeN
  rw [if_pos (by omega)]
  simp
 by_cases h2 : c ≤ 2047
 ·rw [encodeRuneZ_two (by omega) (by omega)]
  simp only [List.map_cons, List.map_nil, List.cons_append, List.nil_append, List.getD_cons_zero, List.getD_cons_succ, List.length_cons, List.length_nil]
  rw [u8n _ (by omega), u8n _ (by omega)]
  unfold decodeN
  rw [if_neg (by omega), if_pos (by omega), if_pos (by omega)]
  congr 1; omega
 by_cases h3 : c ≤ 65535
 ·rw [encodeRuneZ_three (by omega)]
  simp only [List.map_cons, List.map_nil, List.cons_append, List.nil_append, List.getD_cons_zero, List.getD_cons_succ, List.length_cons, List.length_nil]
  rw [u8n _ (by omega), u8n _ (by omega), u8n _ (by omega)]
  unfold decodeN
  rw [if_neg (by omega), if_neg (by omega), if_pos (by omega), if_pos (by omega)]
  congr 1; omega
 ·rw [encodeRuneZ_four (by omega) (by omega)]
  simp only [List.map_cons, List.map_nil, List.cons_append, List.nil_append, List.getD_cons_zero, List.getD_cons_succ, List.length_cons, List.length_nil]
  rw [u8n _ (by omega), u8n _ (by omega), u8n _ (by omega), u8n _ (by omega)]
  unfold decodeN
  rw [if_neg (by omega), if_neg (by omega), if_neg (by omega), if_pos (by omega), if_pos (by omega)]
  congr 1; omega
def runesF : Nat → List UInt8 → List Nat
 | 0, _ => []
 | _ + 1, [] => []
 | n + 1, b :: t => (decodeL (b :: t)).1 :: runesF n ((b :: t).drop (decodeL (b :: t)).2)
def runes (l : List UInt8) : List Nat := runesF l.length l
theorem zfx : ∀ (n m : Nat) (l : List UInt8), l.length ≤ n → l.length ≤ m → runesF n l = runesF m l
 | 0, m, l, hn, _ => by
  have : l = [] := List.eq_nil_of_length_eq_zero (by omega)
  subst this
  cases m <;> rfl
 | n + 1, 0, l, _, hm => by
  have : l = [] := List.eq_nil_of_length_eq_zero (by omega)
  subst this; rfl
 | n + 1, m + 1, [], _, _ => rfl
 | n + 1, m + 1, b :: t, hn, hm => by
  have hw := decodeL_width (b :: t)
  simp only [runesF]
  rw [zfx n m _ (by rw [List.length_drop]; omega) (by rw [List.length_drop]; omega)]
theorem zed (l : List UInt8) (hne : l ≠ []) : runes l = (decodeL l).1 :: runes (l.drop (decodeL l).2) := by
 obtain ⟨b, t, rfl⟩ := List.exists_cons_of_ne_nil hne
 have hw := decodeL_width (b :: t)
 show (decodeL (b :: t)).1 :: runesF t.length _ = _
 rw [zfx t.length ((b :: t).drop (decodeL (b :: t)).2).length _ (by rw [List.length_drop, List.length_cons]; omega) (Nat.le_refl _)]
 rfl
theorem zmN {motive : List UInt8 → Prop} (nil : motive []) (step : ∀ l, l ≠ [] → motive (l.drop (decodeL l).2) → motive l) : ∀ l, motive l := by
 have key : ∀ n l, l.length = n → motive l := by
  intro n
  induction n using Nat.strongRecOn with
  | _ n ih =>
   intro l hl
   by_cases hne : l = []
   ·rw [hne]; exact nil
   ·have hw := decodeL_width l
    have h0 : 0 < l.length := List.length_pos_iff.2 hne
    exact step l hne (ih _ (by rw [List.length_drop]; omega) _ rfl)
 exact fun l => key _ l rfl
def repair (l : List UInt8) : List UInt8 := encs (runes l)
theorem zjK : scal 65533 := .inr ⟨by omega, by omega⟩
theorem zot (l : List UInt8) (hne : l ≠ []) : scal (decodeL l).1 := by
 rcases dec_whole l hne with h | h
 ·rw [h]; exact zjK
 ·exact h.1
theorem zge (l : List UInt8) : ∀ c ∈ runes l, scal c := by
 induction l using zmN with
 | nil => intro c hc; cases hc
 | step l hne ih =>
  intro c hc
  rw [zed l hne] at hc
  rcases List.mem_cons.1 hc with rfl | hc
  ·exact zot l hne
  ·exact ih c hc
theorem zfH : (enc 65533).length = 3 := by decide
theorem zeU (l : List UInt8) : validD l = true → repair l = l := by
 unfold repair
 induction l using zmN with
 | nil => intro _; rfl
 | step l hne ih =>
  intro hv
  rw [validD_step l hne] at hv
  split at hv
  ·cases hv
  ·rename_i hb
   rw [zed l hne, zmo, ih hv]
   rcases dec_whole l hne with h | h
   ·rw [h] at hb; simp at hb
   ·rw [← h.2.1, List.take_append_drop]
def bt (l : List UInt8) (i : Nat) : Int := ((l.getD i 0).toNat : Int)
def base (l : List UInt8) (m : Nat) : Int := if m = 1 then bt l 0 else if m = 2 then bt l 0 - 192 else if m = 3 then bt l 0 - 224 else bt l 0 - 240
def good (l : List UInt8) : Bool := !decide ((decodeL l).1 = 65533 ∧ (decodeL l).2 = 1)
def off (m : Nat) : Int := if m = 2 then 192 else if m = 3 then 224 else 240
def L (s : ByteArray) : List UInt8 := s.data.toList
def str (l : List UInt8) : ByteArray := ⟨l.toArray⟩
theorem L_str (l : List UInt8) : L (str l) = l := rfl
theorem str_L (s : ByteArray) : str (L s) = s := rfl
theorem L_len (s : ByteArray) : (L s).length = s.size := rfl
theorem zbd (l : List UInt8) : (str l).size = l.length := rfl
theorem zgV {a b : List UInt8} : str a = str b ↔ a = b := by
 constructor
 ·intro h; rw [← L_str a, h, L_str]
 ·intro h; rw [h]
theorem L_extract (s : ByteArray) (i j : Nat) : L (s.extract i j) = ((L s).take j).drop i := by
 unfold L
 rw [ByteArray.data_extract, Array.toList_extract, List.extract_eq_take_drop, List.drop_take]
theorem L_from (s : ByteArray) (i : Nat) : L (s.extract i s.size) = (L s).drop i := by
 rw [L_extract, List.take_of_length_le (by rw [L_len]; exact Nat.le_refl _)]
theorem L_ne {s : ByteArray} (h : 0 < s.size) : L s ≠ [] := by
 intro e; have := L_len s; rw [e] at this; simp at this; omega
end Go.Cs
namespace Go.Vc
set_option linter.unusedVariables false
set_option maxHeartbeats 4000000
open Go Go.Pw Go.RowKit
set_option linter.unusedVariables false
section
variable {w w' : World} {B s n : Nat} {e : TypeId} {v : Value} {xs : List Value} {c : Nat → Prop}
theorem zad (h : w.ownsRow B e s v n xs) (k : Kp w w' c) (hc : ∀ b, v.ownBlock = some b → ¬ c b) : w'.ownsRow B e s v n xs := by
 refine ⟨h.1, ?_⟩
 rcases h.2 with hn | ⟨g, cap, cur, rfl, hb, hgg, rest⟩
 ·exact .inl hn
 ·have hlt : g < w.heap.size := by
   rcases Nat.lt_or_ge g w.heap.size with h' | h'
   ·exact h'
   ·rw [Array.getElem?_eq_none h'] at hgg; cases hgg
  exact .inr ⟨g, cap, cur, rfl, hb, (k.block g hlt (hc g rfl)).trans hgg, rest⟩
theorem zab (h : w.ownsRow B e s v n xs) (k : Kp w w' n_) : w'.ownsRow B e s v n xs := zad h k fun _ _ => id
theorem zaj {B' : Nat} (h : w.ownsRow B e s v n xs) (hB : B' ≤ B) : w.ownsRow B' e s v n xs := by
 refine ⟨h.1, ?_⟩
 rcases h.2 with hn | ⟨g, cap, cur, rfl, hb, rest⟩
 ·exact .inl hn
 ·exact .inr ⟨g, cap, cur, rfl, Nat.le_trans hB hb, rest⟩
theorem zac (h : w.ownsRow B e s v n xs) : ∃ a cap, v = .slice a n cap := by
 rcases h.2 with ⟨rfl, rfl⟩ | ⟨g, cap, cur, rfl, _⟩
 ·exact ⟨_, _, rfl⟩
 ·exact ⟨_, _, rfl⟩
theorem zns (h : w.ownsRow B e 1 v n xs) : xs.length = n := by have := h.1; omega
theorem zcI {a : Option Addr} {cap : Nat} (h : w.ownsRow B e s (.slice a n cap) n xs) (h0 : 0 < n) : ∃ g, a = some ⟨g, 0, none⟩ ∧ B ≤ g ∧ g < w.heap.size ∧ At w g 0 xs := by
 rcases h.2 with ⟨h1, h2⟩ | ⟨g, cap', cur, h1, hb, hgg, _⟩
 ·omega
 ·injection h1 with h1 _ h3
  subst h1
  subst h3
  refine ⟨g, rfl, hb, (h.lt g rfl).2, fun i u hi => ?_⟩
  have := h.cells (g := g) rfl i u hi
  rw [add_none] at this; exact this
theorem _root_.Go.Pw.Kp.grown {a : World} {row : Option Nat} (h : Kp a w c) (hg : w.grownBy w' row) (hr : ∀ k, row = some k → a.heap.size ≤ k) : Kp a w' c :=
 ⟨hg.os.trans h.os, hg.tape.trans h.tape, hg.output.trans h.output, Nat.le_trans h.size hg.size, fun i hi hn =>
  (hg.block i (Nat.lt_of_lt_of_le hi h.size) (fun e => by have := hr i e.symm; omega)).trans (h.block i hi hn)⟩
theorem _root_.Go.Pw.Kp.own {a : World} (h : Kp a w c) (ho : w.ownsRow B e s v n xs) (hB : a.heap.size ≤ B) (hg : w.grownBy w' v.ownBlock) : Kp a w' c :=
 h.grown hg fun k hk => Nat.le_trans hB (ho.lt k hk).1
theorem _root_.Go.Pw.Kp.below' {a : World} (h : Kp a w c) (hb : Below B w w') (hB : a.heap.size ≤ B) : Kp a w' c :=
 ⟨hb.os.trans h.os, hb.tape.trans h.tape, hb.output.trans h.output, Nat.le_trans h.size hb.size, fun i hi hn => (hb.block i (by omega)).trans (h.block i hi hn)⟩
end
section
variable {P : Program} {w : World}
theorem RunV.str {src dst e T : TypeId} {B n cap : Nat} {a : Option Addr} {l : List UInt8} {K : Value → World → Prop} (hs : P.underlying src = some (.slice e)) (he : P.underlying e = some (.int .u8)) (hd : P.underlying dst = some .string)
  (h : w.ownsRow B T 1 (.slice a n cap) n (Lib.byteCells l)) (k : K (.string ⟨l.toArray⟩) w) : RunV P (convert src dst (.slice a n cap)) w K := by
 have hn := zns h
 rw [Lib.byteCells_length] at hn
 subst hn
 by_cases h0 : 0 < l.length
 ·obtain ⟨g, rfl, _, _, hat⟩ := zcI h h0
  refine ⟨_, _, run_convert_bytes_back w src dst e ⟨g, 0, none⟩ cap l hs he hd (fun j hj => ?_), k⟩
  have := hat j (.int .u8 l[j].toNat) (by simp [Lib.byteCells, hj])
  rw [add_none]; exact this
 ·have hl : l = [] := List.eq_nil_of_length_eq_zero (by omega)
  subst hl
  rcases h.2 with ⟨h1, _⟩ | ⟨g, cap', cur, h1, _⟩
  ·injection h1 with h1 _ _
   subst h1
   exact ⟨_, _, run_convert_bytes_nil w src e hs he _ _ dst hd, k⟩
  ·injection h1 with h1 _ _
   subst h1
   exact ⟨_, _, run_convert_bytes_back w src dst e ⟨g, 0, none⟩ cap [] hs he hd (fun j hj => by simp at hj), k⟩
theorem zdB (n : Int) (h : -9223372036854775808 ≤ n ∧ n ≤ 9223372036854775807) : IntKind.i64.wrap n = n := by
 unfold IntKind.wrap; simp [IntKind.signed, IntKind.bits]; omega
end
end Go.Vc
namespace Go.Vc
set_option linter.unusedVariables false
set_option maxHeartbeats 4000000
open Go
end Go.Vc
namespace Go.Vc
set_option linter.unusedVariables false
set_option maxHeartbeats 4000000
open Go Go.Pw Go.RowKit
theorem RunN.app {P : Program} {w : World} {K : Value → World → Prop} {t ty e : TypeId} {cs : Array Bool} {B s n bytes : Nat} {z v : Value} {xs : List Value} (ht : P.underlying t = some (.slice e)) (hb : (P.info? e).map (fun i => (i.zero, i.size, i.bytes)) = some (some z, s, bytes)) (hz : z.cells.size = s) (hs : 0 < s)
  (hown : w.ownsRow B e s v n xs) (hB : B ≤ w.heap.size) (a : Addr) (m c : Nat) (news : List Value) (hl : news.length = m * s) (hnews : ∀ j u, news[j]? = some u → w.cell? (a.add j) = some u) (h1 : ∀ u ∈ news, u.oneCell' = true)
  (h63 : n + m ≤ 9223372036854775807) (hbytes : (n + m) * bytes ≤ 140737488355328)
  (k : ∀ v' w', w'.ownsRow B e s v' (n + m) (xs ++ news) → w.grownBy w' v.ownBlock → K v' w') : RunN P (builtin .append #[t, t] ty cs [v, .slice (some a) m c].toArray) w K := by
 obtain ⟨i, hi, hi2⟩ := Option.map_eq_some_iff.1 hb
 simp only [Prod.mk.injEq] at hi2
 obtain ⟨z1, z2, z3⟩ := hi2
 refine RunN.append B e i z s bytes ht hi z1 z2 z3 hz hs v n xs hown a m c news hl hnews h1 (by rw [show maxLen = 9223372036854775807 from rfl]; omega) hbytes hB fun v' w' h2 h3 _ => k v' w' h2 h3
end Go.Vc
namespace Go.Vc
set_option linter.unusedVariables false
set_option maxHeartbeats 4000000
open Go
end Go.Vc
namespace Go.Proofs.YtcplagfblmemhaaGreatDoor
set_option linter.unusedVariables false
set_option maxHeartbeats 4000000
open Go.RowKit Go.Pw Go.Vc Go.Cs Go.Lib
set_option linter.unusedVariables false
set_option maxRecDepth 100000
theorem hmix : Tryz.prog.follows .mixedOrders = true := by kernel_rfl
section
variable {w : World}
def Bytes (w : World) (B : Nat) (v : Value) (l : List UInt8) : Prop := w.ownsRow B 5 1 v l.length (Go.Lib.byteCells l)
end
end Go.Proofs.YtcplagfblmemhaaGreatDoor
namespace Go.Proofs.YtcplagfblmemhaaGreatDoor
set_option linter.unusedVariables false
set_option maxHeartbeats 4000000
open Go.Shelf Go.RowKit Go.Pw Go.Vc Go.Cs Go.Lib
set_option linter.unusedVariables false
set_option maxRecDepth 100000
def ren166 : Go.Shelf.Ren := ⟨fun | 166 => 79 | 240 => 126 | 276 => 168 | n => n, fun | 0 => 0 | 3 => 3 | 4 => 4 | 5 => 5 | 9 => 9 | 20 => 20 | 37 => 134 | 70 => 133 | 72 => 136 | 75 => 139 | 80 => 69 | 164 => 229 | n => n, fun | n => n⟩
theorem lays166 : Go.Proofs.Lays.n166 Tryz.prog ren166 := {
 mixed := by kernel_rfl
 f166 := Tryz.func79.trans (congrArg some (by kernel_rfl))
 f240 := Tryz.func126.trans (congrArg some (by kernel_rfl))
 f276 := Tryz.func168.trans (congrArg some (by kernel_rfl))
 t0 := Tryz.underlying0
 a0 := Tryz.isAgg0
 z0 := Tryz.sizeOf0
 v0 := Tryz.zeroValue0
 t3 := Tryz.underlying3
 a3 := Tryz.isAgg3
 z3 := Tryz.sizeOf3
 v3 := Tryz.zeroValue3
 t4 := Tryz.underlying4
 a4 := Tryz.isAgg4
 z4 := Tryz.sizeOf4
 v4 := Tryz.zeroValue4
 t9 := Tryz.underlying9
 a9 := Tryz.isAgg9
 z9 := Tryz.sizeOf9
 v9 := Tryz.zeroValue9
 t20 := Tryz.underlying20
 a20 := Tryz.isAgg20
 z20 := Tryz.sizeOf20
 v20 := Tryz.zeroValue20
 t37 := Tryz.underlying134
 a37 := Tryz.isAgg134
 z37 := Tryz.sizeOf134
 v37 := Tryz.zeroValue134
 t70 := Tryz.underlying133
 a70 := Tryz.isAgg133
 z70 := Tryz.sizeOf133
 v70 := Tryz.zeroValue133
 t72 := Tryz.underlying136
 a72 := Tryz.isAgg136
 z72 := Tryz.sizeOf136
 v72 := Tryz.zeroValue136
 t75 := Tryz.underlying139
 a75 := Tryz.isAgg139
 z75 := Tryz.sizeOf139
 v75 := Tryz.zeroValue139
 t164 := Tryz.underlying229
 a164 := Tryz.isAgg229
 z164 := Tryz.sizeOf229
 v164 := Tryz.zeroValue229 }
def ren167 : Go.Shelf.Ren := ⟨fun | 167 => 75 | 240 => 126 | 276 => 168 | n => n, fun | 0 => 0 | 4 => 4 | 5 => 5 | 9 => 9 | 20 => 20 | 37 => 134 | 70 => 133 | 72 => 136 | 75 => 139 | 80 => 69 | 164 => 229 | n => n, fun | n => n⟩
theorem lays167 : Go.Proofs.Lays.n167 Tryz.prog ren167 := {
 mixed := by kernel_rfl
 f167 := Tryz.func75.trans (congrArg some (by kernel_rfl))
 f240 := Tryz.func126.trans (congrArg some (by kernel_rfl))
 f276 := Tryz.func168.trans (congrArg some (by kernel_rfl))
 t0 := Tryz.underlying0
 a0 := Tryz.isAgg0
 z0 := Tryz.sizeOf0
 v0 := Tryz.zeroValue0
 t4 := Tryz.underlying4
 a4 := Tryz.isAgg4
 z4 := Tryz.sizeOf4
 v4 := Tryz.zeroValue4
 t5 := Tryz.underlying5
 a5 := Tryz.isAgg5
 z5 := Tryz.sizeOf5
 v5 := Tryz.zeroValue5
 t9 := Tryz.underlying9
 a9 := Tryz.isAgg9
 z9 := Tryz.sizeOf9
 v9 := Tryz.zeroValue9
 t20 := Tryz.underlying20
 a20 := Tryz.isAgg20
 z20 := Tryz.sizeOf20
 v20 := Tryz.zeroValue20
 t37 := Tryz.underlying134
 a37 := Tryz.isAgg134
 z37 := Tryz.sizeOf134
 v37 := Tryz.zeroValue134
 t70 := Tryz.underlying133
 a70 := Tryz.isAgg133
 z70 := Tryz.sizeOf133
 v70 := Tryz.zeroValue133
 t72 := Tryz.underlying136
 a72 := Tryz.isAgg136
 z72 := Tryz.sizeOf136
 v72 := Tryz.zeroValue136
 t75 := Tryz.underlying139
 a75 := Tryz.isAgg139
 z75 := Tryz.sizeOf139
 v75 := Tryz.zeroValue139
 t164 := Tryz.underlying229
 a164 := Tryz.isAgg229
 z164 := Tryz.sizeOf229
 v164 := Tryz.zeroValue229 }
def ren168 : Go.Shelf.Ren := ⟨fun | 168 => 171 | 240 => 126 | 242 => 183 | 276 => 168 | 278 => 201 | n => n, fun | 0 => 0 | 3 => 3 | 4 => 4 | 5 => 5 | 9 => 9 | 20 => 20 | 21 => 21 | 37 => 134 | 46 => 122 | 51 => 189 | 70 => 133 | 72 => 136 | 75 => 139 | 80 => 69 | 164 => 229 | n => n, fun | n => n⟩
theorem lays168 : Go.Proofs.Lays.n168 Tryz.prog ren168 := {
 mixed := by kernel_rfl
 f168 := Tryz.func171.trans (congrArg some (by kernel_rfl))
 f240 := Tryz.func126.trans (congrArg some (by kernel_rfl))
 f242 := Tryz.func183.trans (congrArg some (by kernel_rfl))
 f276 := Tryz.func168.trans (congrArg some (by kernel_rfl))
 f278 := Tryz.func201.trans (congrArg some (by kernel_rfl))
 t0 := Tryz.underlying0
 a0 := Tryz.isAgg0
 z0 := Tryz.sizeOf0
 v0 := Tryz.zeroValue0
 t3 := Tryz.underlying3
 a3 := Tryz.isAgg3
 z3 := Tryz.sizeOf3
 v3 := Tryz.zeroValue3
 t4 := Tryz.underlying4
 a4 := Tryz.isAgg4
 z4 := Tryz.sizeOf4
 v4 := Tryz.zeroValue4
 t5 := Tryz.underlying5
 a5 := Tryz.isAgg5
 z5 := Tryz.sizeOf5
 v5 := Tryz.zeroValue5
 t9 := Tryz.underlying9
 a9 := Tryz.isAgg9
 z9 := Tryz.sizeOf9
 v9 := Tryz.zeroValue9
 t20 := Tryz.underlying20
 a20 := Tryz.isAgg20
 z20 := Tryz.sizeOf20
 v20 := Tryz.zeroValue20
 t21 := Tryz.underlying21
 a21 := Tryz.isAgg21
 z21 := Tryz.sizeOf21
 v21 := Tryz.zeroValue21
 t37 := Tryz.underlying134
 a37 := Tryz.isAgg134
 z37 := Tryz.sizeOf134
 v37 := Tryz.zeroValue134
 t46 := Tryz.underlying122
 a46 := Tryz.isAgg122
 z46 := Tryz.sizeOf122
 v46 := Tryz.zeroValue122
 t51 := Tryz.underlying189
 a51 := Tryz.isAgg189
 z51 := Tryz.sizeOf189
 v51 := Tryz.zeroValue189
 t70 := Tryz.underlying133
 a70 := Tryz.isAgg133
 z70 := Tryz.sizeOf133
 v70 := Tryz.zeroValue133
 t72 := Tryz.underlying136
 a72 := Tryz.isAgg136
 z72 := Tryz.sizeOf136
 v72 := Tryz.zeroValue136
 t75 := Tryz.underlying139
 a75 := Tryz.isAgg139
 z75 := Tryz.sizeOf139
 v75 := Tryz.zeroValue139
 t164 := Tryz.underlying229
 a164 := Tryz.isAgg229
 z164 := Tryz.sizeOf229
 v164 := Tryz.zeroValue229 }
def ren169 : Go.Shelf.Ren := ⟨fun | 169 => 76 | n => n, fun | 0 => 0 | 3 => 3 | 5 => 5 | 9 => 9 | 37 => 134 | 70 => 133 | 72 => 136 | 127 => 192 | n => n, fun | n => n⟩
theorem lays169 : Go.Proofs.Lays.n169 Tryz.prog ren169 := {
 mixed := by kernel_rfl
 f169 := Tryz.func76.trans (congrArg some (by kernel_rfl))
 t0 := Tryz.underlying0
 a0 := Tryz.isAgg0
 z0 := Tryz.sizeOf0
 v0 := Tryz.zeroValue0
 t3 := Tryz.underlying3
 a3 := Tryz.isAgg3
 z3 := Tryz.sizeOf3
 v3 := Tryz.zeroValue3
 t9 := Tryz.underlying9
 a9 := Tryz.isAgg9
 z9 := Tryz.sizeOf9
 v9 := Tryz.zeroValue9
 t37 := Tryz.underlying134
 a37 := Tryz.isAgg134
 z37 := Tryz.sizeOf134
 v37 := Tryz.zeroValue134
 t70 := Tryz.underlying133
 a70 := Tryz.isAgg133
 z70 := Tryz.sizeOf133
 v70 := Tryz.zeroValue133
 t72 := Tryz.underlying136
 a72 := Tryz.isAgg136
 z72 := Tryz.sizeOf136
 v72 := Tryz.zeroValue136
 t127 := Tryz.underlying192
 a127 := Tryz.isAgg192
 z127 := Tryz.sizeOf192
 v127 := Tryz.zeroValue192 }
def ren196 : Go.Shelf.Ren := ⟨fun | 196 => 173 | 259 => 186 | n => n, fun | 0 => 0 | 3 => 3 | 4 => 4 | 5 => 5 | 9 => 9 | 12 => 12 | 46 => 122 | 53 => 191 | 119 => 248 | 138 => 250 | 139 => 251 | n => n, fun | 3 => 3 | 4 => 4 | n => n⟩
theorem lays196 : Go.Proofs.Lays.n196 Tryz.prog ren196 := {
 mixed := by kernel_rfl
 f196 := Tryz.func173.trans (congrArg some (by kernel_rfl))
 f259 := Tryz.func186.trans (congrArg some (by kernel_rfl))
 t0 := Tryz.underlying0
 a0 := Tryz.isAgg0
 z0 := Tryz.sizeOf0
 v0 := Tryz.zeroValue0
 t3 := Tryz.underlying3
 a3 := Tryz.isAgg3
 z3 := Tryz.sizeOf3
 v3 := Tryz.zeroValue3
 t4 := Tryz.underlying4
 a4 := Tryz.isAgg4
 z4 := Tryz.sizeOf4
 v4 := Tryz.zeroValue4
 t5 := Tryz.underlying5
 a5 := Tryz.isAgg5
 z5 := Tryz.sizeOf5
 v5 := Tryz.zeroValue5
 t9 := Tryz.underlying9
 a9 := Tryz.isAgg9
 z9 := Tryz.sizeOf9
 v9 := Tryz.zeroValue9
 t12 := Tryz.underlying12
 a12 := Tryz.isAgg12
 z12 := Tryz.sizeOf12
 v12 := Tryz.zeroValue12
 t46 := Tryz.underlying122
 a46 := Tryz.isAgg122
 z46 := Tryz.sizeOf122
 v46 := Tryz.zeroValue122
 t53 := Tryz.underlying191
 a53 := Tryz.isAgg191
 z53 := Tryz.sizeOf191
 v53 := Tryz.zeroValue191
 t119 := Tryz.underlying248
 a119 := Tryz.isAgg248
 z119 := Tryz.sizeOf248
 t138 := Tryz.underlying250
 a138 := Tryz.isAgg250
 z138 := Tryz.sizeOf250
 v138 := Tryz.zeroValue250
 t139 := Tryz.underlying251
 a139 := Tryz.isAgg251
 z139 := Tryz.sizeOf251
 v139 := Tryz.zeroValue251
 g3 := by kernel_rfl
 g4 := by kernel_rfl }
def ren99 : Go.Shelf.Ren := ⟨fun | 99 => 170 | 206 => 182 | n => n, fun | 3 => 3 | 4 => 4 | 5 => 5 | 9 => 9 | n => n, fun | n => n⟩
theorem lays99 : Go.Proofs.Lays.n99 Tryz.prog ren99 := {
 mixed := by kernel_rfl
 f99 := Tryz.func170.trans (congrArg some (by kernel_rfl))
 f206 := Tryz.func182.trans (congrArg some (by kernel_rfl))
 t3 := Tryz.underlying3
 a3 := Tryz.isAgg3
 z3 := Tryz.sizeOf3
 v3 := Tryz.zeroValue3
 t4 := Tryz.underlying4
 a4 := Tryz.isAgg4
 z4 := Tryz.sizeOf4
 v4 := Tryz.zeroValue4
 t9 := Tryz.underlying9
 a9 := Tryz.isAgg9
 z9 := Tryz.sizeOf9
 v9 := Tryz.zeroValue9 }
theorem ext166 : Builder.Extra Tryz.prog ren166 := {
 sizeBuilder := by kernel_rfl
 liesBuilder := by kernel_rfl
 t5 := Tryz.underlying5
 a5 := Tryz.isAgg5
 z5 := Tryz.sizeOf5
 v5 := Tryz.zeroValue5
 infoByte := by kernel_rfl
 cellsByte := by kernel_rfl
 sizeByte := by kernel_rfl
 neB5 := by decide }
theorem ext167 : Builder.Extra Tryz.prog ren167 := {
 sizeBuilder := by kernel_rfl
 liesBuilder := by kernel_rfl
 t5 := Tryz.underlying5
 a5 := Tryz.isAgg5
 z5 := Tryz.sizeOf5
 v5 := Tryz.zeroValue5
 infoByte := by kernel_rfl
 cellsByte := by kernel_rfl
 sizeByte := by kernel_rfl
 neB5 := by decide }
theorem ext168 : Builder.Extra Tryz.prog ren168 := {
 sizeBuilder := by kernel_rfl
 liesBuilder := by kernel_rfl
 t5 := Tryz.underlying5
 a5 := Tryz.isAgg5
 z5 := Tryz.sizeOf5
 v5 := Tryz.zeroValue5
 infoByte := by kernel_rfl
 cellsByte := by kernel_rfl
 sizeByte := by kernel_rfl
 neB5 := by decide }
theorem ext169 : Builder.Extra Tryz.prog ren169 := {
 sizeBuilder := by kernel_rfl
 liesBuilder := by kernel_rfl
 t5 := Tryz.underlying5
 a5 := Tryz.isAgg5
 z5 := Tryz.sizeOf5
 v5 := Tryz.zeroValue5
 infoByte := by kernel_rfl
 cellsByte := by kernel_rfl
 sizeByte := by kernel_rfl
 neB5 := by decide }
def Tabs (w : World) : Prop := Utf8Tabs 3 4 w
theorem Tabs.keep {w w' : World} (h : Tabs w) (k : Kp w w' n_) : Tabs w' :=
 ⟨fun c hc => by rw [k.cell (cell_lt (h.1 c hc)) id]; exact h.1 c hc, fun i hi => ⟨by rw [k.cell (cell_lt (h.2 i hi).1) id]; exact (h.2 i hi).1, by rw [k.cell (cell_lt (h.2 i hi).2) id]; exact (h.2 i hi).2⟩⟩
def Bld (w : World) (B b : Nat) (l : List UInt8) : Prop := IsBuilderF 136 5 B b (Go.Lib.byteCells l) w
theorem zpg (s : ByteArray) (w : World) (hT : Tabs w) (hs : s.size ≤ 9223372036854775807) : Calls Tryz.prog 173 #[.string s] w fun e w' =>
  e = .returned (.bool (validD (L s))) ∧ Kp w w' n_ :=
 (Any.utf8_ValidString lays196 s w hs hT).mono fun e w' ⟨h1, h2⟩ => ⟨h1, Kp.of_below h2⟩
theorem zbo {B b : Nat} {l : List UInt8} (s : ByteArray) (w : World) (h : Bld w B b l) (hl : l.length + s.size ≤ 140737488355328) (hB : B ≤ w.heap.size) :
  Calls Tryz.prog 79 #[.pointer (some ⟨b, 0, none⟩), .string s] w fun e w' => e = .returned (.tuple #[.int .i64 s.size, .nilIface]) ∧ Bld w' B b (l ++ L s) ∧ Below B w w' ∧ OthersKept 5 (some b) w w' :=
 (Any.Builder_WriteString_k lays166 ext166 B b _ s w h (by rw [Go.Lib.byteCells_length]; exact hl) hB).mono fun e w' ⟨h1, h2, h3⟩ => ⟨h1, .inr (by rw [Go.Lib.byteCells_append]; exact h2), h3⟩
theorem zdl {B b : Nat} {l : List UInt8} (c : UInt8) (w : World) (h : Bld w B b l) (hl : l.length + 1 ≤ 140737488355328) (hB : B ≤ w.heap.size) :
  Calls Tryz.prog 75 #[.pointer (some ⟨b, 0, none⟩), .int .u8 c.toNat] w fun e w' => e = .returned .nilIface ∧ Bld w' B b (l ++ [c]) ∧ Below B w w' ∧ OthersKept 5 (some b) w w' :=
 (Any.Builder_WriteByte_k lays167 ext167 B b _ c.toNat w h (by rw [Go.Lib.byteCells_length]; exact hl) hB).mono fun e w' ⟨h1, h2, h3⟩ => ⟨h1, .inr (by rw [Go.Lib.byteCells_append]; exact h2), h3⟩
theorem zfA {B b : Nat} {l : List UInt8} (r : Int) (h0 : -2147483648 ≤ r) (h1 : r ≤ 2147483647) (w : World) (h : Bld w B b l) (hl : l.length + 4 ≤ 140737488355328) (hB : B ≤ w.heap.size) :
  Calls Tryz.prog 171 #[.pointer (some ⟨b, 0, none⟩), .int .i32 r] w fun e w' => (∃ n, e = .returned (.tuple #[.int .i64 n, .nilIface])) ∧ Bld w' B b (l ++ encodeRune r) ∧ Below B w w' ∧ OthersKept 5 (some b) w w' :=
 (Any.Builder_WriteRune_k lays168 ext168 B b _ r h0 h1 w h (by rw [Go.Lib.byteCells_length]; exact hl) hB).mono fun e w' ⟨h1, h2, h3⟩ => ⟨⟨_, h1⟩, .inr (by rw [byteCells_append, byteCells_encodeRune]; exact h2), h3⟩
theorem zeC {B b : Nat} {l : List UInt8} (w : World) (h : Bld w B b l) (hB : B ≤ w.heap.size) :
  Calls Tryz.prog 76 #[.pointer (some ⟨b, 0, none⟩)] w fun e w' => e = .returned (.string (str l)) ∧ Bld w' B b l ∧ Below B w w' ∧ OthersKept 5 (some b) w w' :=
 Any.Builder_String_any_k lays169 ext169 B b l w h hB
theorem ziy (w : World) (B : Nat) (hB : B ≤ w.heap.size) : Bld (w.alloc (.cells #[.pointer none, .slice none 0 0] 136)) B w.heap.size [] :=
 .inl ⟨hB, _, heap_alloc_new _ _, World.ownsRowF_of (World.ownsRow_nil _ _ _ _), by simp [Value.ownBlock]⟩
end Go.Proofs.YtcplagfblmemhaaGreatDoor
namespace Go.Pw
set_option linter.unusedVariables false
set_option maxHeartbeats 4000000
open Go
set_option linter.unusedVariables false
set_option linter.unusedSectionVars false
section
end
end Go.Pw
namespace Go.Vc
set_option linter.unusedVariables false
set_option maxHeartbeats 4000000
open Go Go.Pw
set_option linter.unusedVariables false
theorem zaf {w w' : World} {b o : Nat} {vs : List Value} (h : At w b o vs) (k : Kp w w' n_) : At w' b o vs := fun i v hi => by
 have := h i v hi
 have hlt : b < w.heap.size := by
  rcases Nat.lt_or_ge b w.heap.size with h' | h'
  ·exact h'
  ·unfold World.cell? at this
   dsimp only at this
   rw [Array.getElem?_eq_none h'] at this
   cases this
 rw [k.cell hlt id]; exact this
theorem zao {w w' : World} {a : Addr} {v : Value} (h : w.cell? a = some v) (k : Kp w w' n_) : w'.cell? a = some v := by
 have hlt : a.block < w.heap.size := by
  rcases Nat.lt_or_ge a.block w.heap.size with h' | h'
  ·exact h'
  ·unfold World.cell? at h
   rw [Array.getElem?_eq_none h'] at h
   cases h
 rw [k.cell hlt id]; exact h
section
variable {P : Program} {t : TypeId} {w w0 : World} {K : Value → Prop}
theorem LoadK {a : Addr} {v : Value} (ht : isAggB P t = false) (h : w0.cell? a = some v) (q : Kp w0 w n_) (k : K v) : Load P t a w K := Load.one ht (zao h q) k
theorem LoadD {a : Addr} {v : Value} (ht : isAggB P t = false) (h : w0.cell? a = some v) (q : Kp w0 w n_) (k : K v) : Load P t a w.drew K := Load.one ht (zao h q.drew) k
theorem LoadS {a : Addr} {v : Value} (ht : isAggB P t = false) (h : w.cell? a = some v) (k : K v) : Load P t a w.drew K := Load.one ht h k
theorem zbC {α : Type} {enc : α → List Value} {g o n : Nat} {l : List α} (h : At w0 g o (l.flatMap enc)) (hn : ∀ x, (enc x).length = n) {i : Nat} (hi : i < l.length) : At w0 g (o + i * n) (enc l[i]) := fun j v hj => by
 have hjn : j < n := by rw [← hn l[i]]; exact (List.getElem?_eq_some_iff.1 hj).1
 have key : ∀ (l : List α) (i : Nat) (hi : i < l.length) (j : Nat), j < n → (l.flatMap enc)[i * n + j]? = (enc l[i])[j]? := by
  intro l
  induction l with
  | nil => intro i hi; simp at hi
  | cons x r ih =>
   intro i hi j hj
   cases i with
   | zero =>
    rw [List.flatMap_cons, Nat.zero_mul, Nat.zero_add, List.getElem?_append_left (by rw [hn]; exact hj)]; rfl
   | succ i =>
    have e : (i + 1) * n + j = n + (i * n + j) := by rw [Nat.succ_mul]; omega
    rw [List.flatMap_cons, e, List.getElem?_append_right (by rw [hn]; omega), hn, Nat.add_sub_cancel_left, ih i (by simpa using hi) j hj]; rfl
 rw [Nat.add_assoc]
 exact h (i * n + j) v ((key l i hi j hjn).trans hj)
theorem LoadF {α : Type} {enc : α → List Value} {g o n i j : Nat} {l : List α} {v : Value} (ht : isAggB P t = false) (h : At w0 g o (l.flatMap enc)) (q : Kp w0 w n_) (hn : ∀ x, (enc x).length = n) (hi : i < l.length) (hv : (enc l[i])[j]? = some v) (k : K v) : Load P t ⟨g, o + i * n + j, none⟩ w K :=
 Load.one ht (zao (zbC h hn hi j v hv) q) k
theorem LoadF0 {α : Type} {enc : α → List Value} {g o n i : Nat} {l : List α} {v : Value} (ht : isAggB P t = false) (h : At w0 g o (l.flatMap enc)) (q : Kp w0 w n_) (hn : ∀ x, (enc x).length = n) (hi : i < l.length) (hv : (enc l[i])[0]? = some v) (k : K v) : Load P t ⟨g, o + i * n, none⟩ w K :=
 Load.one ht (zao (zbC h hn hi 0 v hv) q) k
theorem LoadA {α : Type} {enc : α → List Value} {g o n i : Nat} {l : List α} (ht : isAggB P t = true) (hu : (P.underlying t).isSome = true) (h : At w0 g o (l.flatMap enc)) (q : Kp w0 w n_) (hn : ∀ x, (enc x).length = n) (hi : i < l.length) (hs : sizeOfT P t = some n) (k : K (.agg (enc l[i]).toArray)) : Load P t ⟨g, o + i * n, none⟩ w K :=
 Load.agg _ ht hu (by rw [hs, hn]) (zaf (zbC h hn hi) q) k
theorem HeldK {S : World → Prop} {a : Addr} {v : Value} (ht : isAggB P t = false) (h : w0.cell? a = some v) (q : ∀ u, S u → Kp w0 u n_) (k : K v) : Held P S t a K := Held.one ht (fun u hu => zao h (q u hu)) k
theorem HeldF {S : World → Prop} {α : Type} {enc : α → List Value} {g o n i j : Nat} {l : List α} {v : Value} (ht : isAggB P t = false) (h : At w0 g o (l.flatMap enc)) (q : ∀ u, S u → Kp w0 u n_) (hn : ∀ x, (enc x).length = n) (hi : i < l.length) (hv : (enc l[i])[j]? = some v) (k : K v) : Held P S t ⟨g, o + i * n + j, none⟩ K :=
 Held.one ht (fun u hu => zao (zbC h hn hi j v hv) (q u hu)) k
theorem HeldF0 {S : World → Prop} {α : Type} {enc : α → List Value} {g o n i : Nat} {l : List α} {v : Value} (ht : isAggB P t = false) (h : At w0 g o (l.flatMap enc)) (q : ∀ u, S u → Kp w0 u n_) (hn : ∀ x, (enc x).length = n) (hi : i < l.length) (hv : (enc l[i])[0]? = some v) (k : K v) : Held P S t ⟨g, o + i * n, none⟩ K :=
 Held.one ht (fun u hu => zao (zbC h hn hi 0 v hv) (q u hu)) k
theorem LoadV {g o j : Nat} {vs : List Value} {v : Value} (ht : isAggB P t = false) (h : At w0 g o vs) (q : Kp w0 w n_) (hv : vs[j]? = some v) (k : K v) : Load P t ⟨g, o + j, none⟩ w K := Load.one ht (zao (h j v hv) q) k
theorem LoadV0 {g o : Nat} {vs : List Value} {v : Value} (ht : isAggB P t = false) (h : At w0 g o vs) (q : Kp w0 w n_) (hv : vs[0]? = some v) (k : K v) : Load P t ⟨g, o, none⟩ w K := Load.one ht (zao (h 0 v hv) q) k
theorem LoadW {g o : Nat} {vs : List Value} (ht : isAggB P t = true) (hu : (P.underlying t).isSome = true) (h : At w0 g o vs) (q : Kp w0 w n_) (hs : sizeOfT P t = some vs.length) (k : K (.agg vs.toArray)) : Load P t ⟨g, o, none⟩ w K := Load.agg _ ht hu hs (zaf h q) k
theorem HeldV {S : World → Prop} {g o j : Nat} {vs : List Value} {v : Value} (ht : isAggB P t = false) (h : At w0 g o vs) (q : ∀ u, S u → Kp w0 u n_) (hv : vs[j]? = some v) (k : K v) : Held P S t ⟨g, o + j, none⟩ K := Held.one ht (fun u hu => zao (h j v hv) (q u hu)) k
theorem HeldV0 {S : World → Prop} {g o : Nat} {vs : List Value} {v : Value} (ht : isAggB P t = false) (h : At w0 g o vs) (q : ∀ u, S u → Kp w0 u n_) (hv : vs[0]? = some v) (k : K v) : Held P S t ⟨g, o, none⟩ K := Held.one ht (fun u hu => zao (h 0 v hv) (q u hu)) k
theorem HeldW {S : World → Prop} {b o : Nat} {vs : List Value} (ht : isAggB P t = true) (hu : (P.underlying t).isSome = true) (h : At w0 b o vs) (q : ∀ u, S u → Kp w0 u n_) (hs : sizeOfT P t = some vs.length) (k : K (.agg vs.toArray)) : Held P S t ⟨b, o, none⟩ K :=
 ⟨.agg vs.toArray, fun w hw => by
  obtain ⟨v, h1, h2⟩ := (Load.agg (P := P) (t := t) (K := fun v => v = .agg vs.toArray) vs ht hu hs (zaf h (q w hw)) rfl).h
  rw [h1, h2], k⟩
end
theorem HeldG {P : Program} {t : TypeId} {K : Value → Prop} {S : World → Prop} {b o : Nat} (vs : List Value) (ht : isAggB P t = true) (hu : (P.underlying t).isSome = true) (h : ∀ u, S u → At u b o vs) (hs : sizeOfT P t = some vs.length) (k : K (.agg vs.toArray)) : Held P S t ⟨b, o, none⟩ K :=
 ⟨.agg vs.toArray, fun w hw => by
  obtain ⟨v, h1, h2⟩ := (Load.agg (P := P) (t := t) (K := fun v => v = .agg vs.toArray) vs ht hu hs (h w hw) rfl).h
  rw [h1, h2], k⟩
def flatB : Value → Bool
 | .agg _ | .tuple _ => false
 | _ => true
theorem zam {vs : List Value} (h : vs.all flatB = true) : ∀ v ∈ vs, Flat v := fun v hv => by
 have := List.all_eq_true.1 h v hv
 cases v <;> first | exact trivial | (unfold flatB at this; cases this)
theorem zaq (w : World) (T : TypeId) (vs : List Value) : At (w.alloc (.cells vs.toArray T)) w.heap.size 0 vs := fun i v hi => by
 have := zeE (heap_alloc_new w (.cells vs.toArray T)) i v (by simpa using hi)
 exact this
theorem KGO {p q : Prop} (k : q) (h : Hide q → p := by intro k_; (repeat ((first | refine Go.Vc.Br.dec_yes rfl ?_ | refine Go.Vc.Num.i64 (by omega) (by omega) ?_ | refine Go.Vc.Num.i32 (by omega) (by omega) ?_ | refine Go.Vc.Num.u8 (by omega) (by omega) ?_ | refine Go.Vc.Br.tt ?_ | refine Go.Vc.Br.ff ?_ | refine Go.Vc.Br.not_yes ?_ | refine Go.Vc.Br.dec_yes (by omega) ?_ | refine Go.Vc.Br.dec_no (by omega) ?_ | refine Go.Vc.Br.beq_yes (by omega) ?_ | refine Go.Vc.Br.beq_no (by omega) ?_ | refine Go.Vc.Br.bne_yes (by omega) ?_ | refine Go.Vc.Br.bne_no (by omega) ?_ | refine Go.Vc.Draw.text (by decide +kernel) ?_ | refine Go.Vc.Idx.lit (j := 0) rfl (by omega) ?_ | refine Go.Vc.Idx.lit (j := 1) rfl (by omega) ?_ | refine Go.Vc.Idx.lit (j := 2) rfl (by omega) ?_ | refine Go.Vc.Idx.lit (j := 3) rfl (by omega) ?_ | refine Go.Vc.Idx.lit (j := 4) rfl (by omega) ?_ | refine Go.Vc.Idx.lit (j := 5) rfl (by omega) ?_ | refine Go.Vc.Idx.lit (j := 6) rfl (by omega) ?_ | refine Go.Vc.Idx.lit (j := 7) rfl (by omega) ?_ | refine Go.Vc.Idx.nat (by omega) ?_ | refine Go.Vc.Idx.int (by omega) (by omega) ?_ | refine Go.Vc.Cut.to (by omega) ?_ | refine Go.Vc.Cut.from (by omega) (by omega) ?_ | refine Go.Vc.Cut.both (by omega) (by omega) ?_ | refine Go.Vc.Br.dec_yes (by with_reducible assumption) ?_ | refine Go.Vc.Br.dec_no (by with_reducible assumption) ?_ | refine Go.Vc.Br.yes (by with_reducible assumption) ?_ | refine Go.Vc.Br.no (by with_reducible assumption) ?_ | refine Go.Vc.Load.one (by rfl) (by with_reducible assumption) ?_ | refine Go.Vc.LoadK (by rfl) (by with_reducible assumption) (by with_reducible assumption) ?_ | refine Go.Vc.LoadD (by rfl) (by with_reducible assumption) (by with_reducible assumption) ?_ | refine Go.Vc.LoadS (by rfl) (by with_reducible assumption) ?_ | refine Go.Vc.LoadF (by rfl) (by with_reducible assumption) (by with_reducible assumption) (fun _ => rfl) (by omega) rfl ?_ | refine Go.Vc.LoadF0 (by rfl) (by with_reducible assumption) (by with_reducible assumption) (fun _ => rfl) (by omega) rfl ?_ | refine Go.Vc.LoadA (by rfl) (by rfl) (by with_reducible assumption) (by with_reducible assumption) (fun _ => rfl) (by omega) (by rfl) ?_ | refine Go.Vc.LoadF (by rfl) (by with_reducible assumption) (Go.Pw.Kp.drew (by with_reducible assumption)) (fun _ => rfl) (by omega) rfl ?_ | refine Go.Vc.LoadF0 (by rfl) (by with_reducible assumption) (Go.Pw.Kp.drew (by with_reducible assumption)) (fun _ => rfl) (by omega) rfl ?_ | refine Go.Vc.LoadA (by rfl) (by rfl) (by with_reducible assumption) (Go.Pw.Kp.drew (by with_reducible assumption)) (fun _ => rfl) (by omega) (by rfl) ?_ | refine Go.Vc.HeldK (by rfl) (by with_reducible assumption) (fun _ hu => hu) ?_ | refine Go.Vc.HeldK (by rfl) (by with_reducible assumption) (fun _ hu => Go.Pw.Kp.trans0 (by with_reducible assumption) hu) ?_ | refine Go.Vc.HeldF (by rfl) (by with_reducible assumption) (fun _ hu => hu) (fun _ => rfl) (by omega) rfl ?_ | refine Go.Vc.HeldF (by rfl) (by with_reducible assumption) (fun _ hu => Go.Pw.Kp.trans0 (by with_reducible assumption) hu) (fun _ => rfl) (by omega) rfl ?_ | refine Go.Vc.HeldF0 (by rfl) (by with_reducible assumption) (fun _ hu => hu) (fun _ => rfl) (by omega) rfl ?_ | refine Go.Vc.HeldF0 (by rfl) (by with_reducible assumption) (fun _ hu => Go.Pw.Kp.trans0 (by with_reducible assumption) hu) (fun _ => rfl) (by omega) rfl ?_ | refine Go.Vc.LoadV (by rfl) (by with_reducible assumption) (by with_reducible assumption) rfl ?_ | refine Go.Vc.LoadV (by rfl) (by with_reducible assumption) (Go.Pw.Kp.drew (by with_reducible assumption)) rfl ?_ | refine Go.Vc.LoadV (by rfl) (by with_reducible assumption) (Go.Pw.Kp.refl _ _) rfl ?_ | refine Go.Vc.LoadV0 (by rfl) (by with_reducible assumption) (by with_reducible assumption) rfl ?_ | refine Go.Vc.LoadV0 (by rfl) (by with_reducible assumption) (Go.Pw.Kp.drew (by with_reducible assumption)) rfl ?_ | refine Go.Vc.LoadV0 (by rfl) (by with_reducible assumption) (Go.Pw.Kp.refl _ _) rfl ?_ | refine Go.Vc.LoadW (by rfl) (by rfl) (by with_reducible assumption) (by with_reducible assumption) (by rfl) ?_ | refine Go.Vc.LoadW (by rfl) (by rfl) (by with_reducible assumption) (Go.Pw.Kp.drew (by with_reducible assumption)) (by rfl) ?_ | refine Go.Vc.LoadW (by rfl) (by rfl) (by with_reducible assumption) (Go.Pw.Kp.refl _ _) (by rfl) ?_ | refine Go.Vc.HeldV (by rfl) (by with_reducible assumption) (fun _ hu => hu) rfl ?_ | refine Go.Vc.HeldV (by rfl) (by with_reducible assumption) (fun _ hu => Go.Pw.Kp.trans0 (by with_reducible assumption) hu) rfl ?_ | refine Go.Vc.HeldV0 (by rfl) (by with_reducible assumption) (fun _ hu => hu) rfl ?_ | refine Go.Vc.HeldV0 (by rfl) (by with_reducible assumption) (fun _ hu => Go.Pw.Kp.trans0 (by with_reducible assumption) hu) rfl ?_ | refine Go.Vc.HeldW (by rfl) (by rfl) (by with_reducible assumption) (fun _ hu => hu) (by rfl) ?_ | refine Go.Vc.HeldW (by rfl) (by rfl) (by with_reducible assumption) (fun _ hu => Go.Pw.Kp.trans0 (by with_reducible assumption) hu) (by rfl) ?_ | refine (?_ : Go.Vc.Sat _ _ _ _ _ _ _) | refine (?_ : Go.Vc.Then _ _ _ _ _ _ _ _)); (first | refine Go.Vc.Then.go hmix ?_ | refine Go.Vc.Sat.go hmix ?_ | skip); conv => whnf)); exact Hide.h k_) : p := h ⟨k⟩
theorem new3 (w : World) (T : TypeId) (vs : List Value) : At (w.alloc (.cells (List.toArray vs) T)) w.heap.size 0 vs ∧ Kp w (w.alloc (.cells (List.toArray vs) T)) n_ ∧ (w.alloc (.cells (List.toArray vs) T)).heap.size = w.heap.size + 1 := ⟨zaq w T vs, (Kp.refl _ _).alloc _, by simp⟩
end Go.Vc
