/- Helper lemmas; no conditions of their own. -/
import Derived.Lib.ValidLaws
import Derived.Lib.RuneBytes
import Derived.Lib.MapLaws
import Derived.Laws.Concat
import Derived.Lib.ConvBytes
import Derived.Laws.IdiomStrings
import Derived.Laws.BytesArg
import Derived.Lib.UnsafeStr
import Derived.Test.YtennokckmjcefaaGreatDoorProg
import Derived.Laws.CopyRow
import Derived.Lib.AppendZerosOnto
import Derived.Lib.Overlaps
import Derived.Laws.Externs
import Derived.Lib.SliceRun
import Derived.Deep.Slices
import Derived.ProofKit
import Derived.Lay
import Derived.SevenTiedAt
import Derived.OpenShut
import Derived.SizedLaws
import Derived.ChangeOld
import Derived.Test.YtennokckmjcefaaGreatDoorWcz
set_option linter.unusedVariables false
set_option maxHeartbeats 4000000
set_option maxRecDepth 100000
namespace Go.Cs
open Go.Lib
def scal (n : Nat) : Prop := n < 55296 ∨ (57343 < n ∧ n ≤ 1114111)
instance (n : Nat) : Decidable (scal n) := by unfold scal; infer_instance
def enc (n : Nat) : List UInt8 := encodeRune (n : Int)
theorem zcT (c : Nat) : 1 ≤ (enc c).length ∧ (enc c).length ≤ 4 := by
 have := runeCells_le (c : Int)
 rw [runeCells_length] at this; exact this
theorem enc1 {c : Nat} (h : c < 128) : enc c = [c.toUInt8] := by
 unfold enc encodeRune; rw [encodeRuneZ_one OM OM]; simp
theorem zsB {c : Nat} {b0 : UInt8} (h : c < 128) (e0 : c = b0.toNat) : enc c = [b0] := by
 rw [enc1 h, e0]; simp
theorem toU (x : Int) (b : UInt8) (h : x = b.toNat) : x.toNat.toUInt8 = b := by subst h; simp
theorem zth {c : Nat} {b0 b1 : UInt8} (h : 128 ≤ c) (h' : c ≤ 2047) (e0 : (192 + (c : Int) / 64) = b0.toNat) (e1 : (128 + (c : Int) % 64) = b1.toNat) : enc c = [b0, b1] := by
 unfold enc encodeRune; rw [encodeRuneZ_two OM OM]
 simp only [yas, ybg, toU _ _ e0, toU _ _ e1]
theorem zta {c : Nat} {b0 b1 b2 : UInt8} (h : 2048 ≤ c ∧ c ≤ 65535 ∧ scal c) (e0 : (224 + (c : Int) / 4096) = b0.toNat) (e1 : (128 + (c : Int) / 64 % 64) = b1.toNat) (e2 : (128 + (c : Int) % 64) = b2.toNat) : enc c = [b0, b1, b2] := by
 unfold enc encodeRune; rw [encodeRuneZ_three (by unfold scal at h; omega)]
 simp only [yas, ybg, toU _ _ e0, toU _ _ e1, toU _ _ e2]
theorem zsj {c : Nat} {b0 b1 b2 b3 : UInt8} (h : 65536 ≤ c) (h' : c ≤ 1114111) (e0 : (240 + (c : Int) / 262144) = b0.toNat) (e1 : (128 + (c : Int) / 4096 % 64) = b1.toNat) (e2 : (128 + (c : Int) / 64 % 64) = b2.toNat) (e3 : (128 + (c : Int) % 64) = b3.toNat) : enc c = [b0, b1, b2, b3] := by
 unfold enc encodeRune; rw [encodeRuneZ_four OM OM]
 simp only [yas, ybg, toU _ _ e0, toU _ _ e1, toU _ _ e2, toU _ _ e3]
def Whole (l : List UInt8) (c k : Nat) : Prop := scal c ∧ l.take k = enc c ∧ k = (enc c).length ∧ ¬ (c = 65533 ∧ k = 1)
theorem dec_whole (l : List UInt8) (hne : l ≠ []) : decodeL l = (65533, 1) ∨ Whole l (decodeL l).1 (decodeL l).2 := by
 rw [decodeL_N]
 obtain ⟨b0, t, rfl⟩ := yaI hne
 have h0 := UInt8.toNat_lt b0
 simp only [yaR, ybc, yab]
 have h1 := UInt8.toNat_lt (t.getD 0 0)
 have h2 := UInt8.toNat_lt (t.getD 1 0)
 have h3 := UInt8.toNat_lt (t.getD 2 0)
 unfold decodeN
 split
 ·rename_i h
  right
  have e := zsB h (b0 := b0) rfl
  exact ⟨.inl OM, by rw [e]; rfl, by rw [e]; rfl, OM⟩
 split
 ·rename_i h
  split
  ·rename_i hc
   right
   obtain ⟨b1, t, rfl⟩ := yaI (l := t) (by rintro rfl; simp at h)
   simp only [yaR] at *
   have e := zth (c := b0.toNat % 32 * 64 + b1.toNat % 64) (b0 := b0) (b1 := b1) OM OM OM OM
   exact ⟨.inl OM, by rw [e]; rfl, by rw [e]; rfl, OM⟩
  exact .inl rfl
 split
 ·rename_i h
  split
  ·rename_i hc
   right
   obtain ⟨b1, t, rfl⟩ := yaI (l := t) (by rintro rfl; simp at h)
   obtain ⟨b2, t, rfl⟩ := yaI (l := t) (by rintro rfl; simp at h)
   simp only [yaR, ybc] at *
   have hs : scal (b0.toNat % 16 * 4096 + b1.toNat % 64 * 64 + b2.toNat % 64) := by unfold scal; omega
   have e := zta (c := b0.toNat % 16 * 4096 + b1.toNat % 64 * 64 + b2.toNat % 64) (b0 := b0) (b1 := b1) (b2 := b2) ⟨OM, OM, hs⟩ OM OM OM
   exact ⟨hs, by rw [e]; rfl, by rw [e]; rfl, OM⟩
  exact .inl rfl
 split
 ·rename_i h
  split
  ·rename_i hc
   right
   obtain ⟨b1, t, rfl⟩ := yaI (l := t) (by rintro rfl; simp at h)
   obtain ⟨b2, t, rfl⟩ := yaI (l := t) (by rintro rfl; simp at h)
   obtain ⟨b3, t, rfl⟩ := yaI (l := t) (by rintro rfl; simp at h)
   simp only [yaR, ybc] at *
   have hs : scal (b0.toNat % 8 * 262144 + b1.toNat % 64 * 4096 + b2.toNat % 64 * 64 + b3.toNat % 64) := by unfold scal; omega
   have e := zsj (c := b0.toNat % 8 * 262144 + b1.toNat % 64 * 4096 + b2.toNat % 64 * 64 + b3.toNat % 64) (b0 := b0) (b1 := b1) (b2 := b2) (b3 := b3) OM OM OM OM OM OM
   exact ⟨hs, by rw [e]; rfl, by rw [e]; rfl, OM⟩
  exact .inl rfl
 exact .inl rfl
theorem u8n (x : Int) (h : 0 ≤ x ∧ x < 256) : (x.toNat.toUInt8).toNat = x.toNat := by
 simp; omega
theorem zfN (c : Nat) (h : scal c) (t : List UInt8) : decodeL (enc c ++ t) = (c, (enc c).length) := by
 rw [decodeL_N]
 unfold scal at h
 unfold enc encodeRune
 by_cases h1 : c < 128
 ·rw [encodeRuneZ_one OM OM]
  simp only [yas, ybg, yaW, yaT, yaR, yab, yaE]
  rw [u8n _ OM]
  unfold decodeN
  rw [if_pos OM]
  simp
 by_cases h2 : c ≤ 2047
 ·rw [encodeRuneZ_two OM OM]
  simp only [yas, ybg, yaW, yaT, yaR, ybc, yab, yaE]
  rw [u8n _ OM, u8n _ OM]
  unfold decodeN
  rw [if_neg OM, if_pos OM, if_pos OM]
  congr 1; omega
 by_cases h3 : c ≤ 65535
 ·rw [encodeRuneZ_three OM]
  simp only [yas, ybg, yaW, yaT, yaR, ybc, yab, yaE]
  rw [u8n _ OM, u8n _ OM, u8n _ OM]
  unfold decodeN
  rw [if_neg OM, if_neg OM, if_pos OM, if_pos OM]
  congr 1; omega
 rw [encodeRuneZ_four OM OM]
 simp only [yas, ybg, yaW, yaT, yaR, ybc, yab, yaE]
 rw [u8n _ OM, u8n _ OM, u8n _ OM, u8n _ OM]
 unfold decodeN
 rw [if_neg OM, if_neg OM, if_neg OM, if_pos OM, if_pos OM]
 congr 1; omega
theorem zcR {motive : List UInt8 → Prop} (nil : motive []) (step : ∀ l, l ≠ [] → motive (l.drop (decodeL l).2) → motive l) : ∀ l, motive l := by
 have key : ∀ n l, l.length = n → motive l := by
  intro n
  induction n using Nat.strongRecOn with
  | _ n ih =>
   intro l hl
   by_cases hne : l = []
   ·rw [hne]; exact nil
   have hw := decodeL_width l
   have h0 : 0 < l.length := yaN.2 hne
   exact step l hne (ih _ (by rw [yau]; omega) _ rfl)
 exact fun l => key _ l rfl
theorem zlL : scal 65533 := .inr ⟨OM, OM⟩
theorem zpQ (l : List UInt8) (hne : l ≠ []) : scal (decodeL l).1 := by
 rcases dec_whole l hne with h | h
 ·rw [h]; exact zlL
 exact h.1
theorem zfs : (enc 65533).length = 3 := by decide
theorem zsQ (l : List UInt8) (hne : l ≠ []) : (decodeL l).2 ≤ 4 := by
 rcases dec_whole l hne with h | h
 ·rw [h]; simp
 rw [h.2.2.1]; exact (zcT _).2
def L (s : ByteArray) : List UInt8 := s.data.toList
def str (l : List UInt8) : ByteArray := ⟨l.toArray⟩
theorem L_str (l : List UInt8) : L (str l) = l := rfl
theorem str_L (s : ByteArray) : str (L s) = s := rfl
theorem L_len (s : ByteArray) : (L s).length = s.size := rfl
theorem zec (l : List UInt8) : (str l).size = l.length := rfl
theorem zbB {a b : List UInt8} : str a = str b ↔ a = b := by
 constructor
 ·intro h; rw [← L_str a, h, L_str]
 intro h; rw [h]
theorem zcn (s : ByteArray) (i j : Nat) : L (s.extract i j) = ((L s).take j).drop i := by
 unfold L
 rw [ByteArray.data_extract, Array.toList_extract, List.extract_eq_take_drop, List.drop_take]
theorem zkC (s : ByteArray) (i : Nat) : L (s.extract i s.size) = (L s).drop i := by
 rw [zcn, yaz (by rw [L_len]; exact yag _)]
theorem zdp (a b : List UInt8) : str a ++ str b = str (a ++ b) := by
 unfold str; exact ByteArray.mk_append_mk a b
theorem L_ne {s : ByteArray} (h : 0 < s.size) : L s ≠ [] := by
 intro e; have := L_len s; rw [e] at this; simp at this; omega
end Go.Cs
namespace Go.Vc
open Go Go.Pw Go.RowKit
section
variable {w w' : World} {B s n : Nat} {e : TypeId} {v : Value} {xs : List Value} {c : Nat → Prop}
theorem own_keep (h : w.ownsRow B e s v n xs) (k : Kp w w' c) (hc : ∀ b, v.ownBlock = some b → ¬ c b) : w'.ownsRow B e s v n xs := by
 refine ⟨h.1, ?_⟩
 rcases h.2 with hn | ⟨g, cap, cur, rfl, hb, hgg, rest⟩
 ·exact .inl hn
 have hlt : g < w.heap.size := by
  rcases yby g w.heap.size with h' | h'
  ·exact h'
  rw [Array.getElem?_eq_none h'] at hgg; cases hgg
 exact .inr ⟨g, cap, cur, rfl, hb, (k.block g hlt (hc g rfl)).trans hgg, rest⟩
theorem own_keep0 (h : w.ownsRow B e s v n xs) (k : Kp w w' n_) : w'.ownsRow B e s v n xs := own_keep h k fun _ _ => id
theorem own_base {B' : Nat} (h : w.ownsRow B e s v n xs) (hB : B' ≤ B) : w.ownsRow B' e s v n xs := by
 refine ⟨h.1, ?_⟩
 rcases h.2 with hn | ⟨g, cap, cur, rfl, hb, rest⟩
 ·exact .inl hn
 exact .inr ⟨g, cap, cur, rfl, yaw hB hb, rest⟩
theorem zab (h : w.ownsRow B e s v n xs) : ∃ a cap, v = .slice a n cap := by
 rcases h.2 with ⟨rfl, rfl⟩ | ⟨g, cap, cur, rfl, _⟩
 ·exact ⟨_, _, rfl⟩
 exact ⟨_, _, rfl⟩
theorem zqv (h : w.ownsRow B e 1 v n xs) : xs.length = n := by have := h.1; omega
theorem zdY {a : Option Addr} {cap : Nat} (h : w.ownsRow B e s (.slice a n cap) n xs) (h0 : 0 < n) : ∃ g, a = some ⟨g, 0, none⟩ ∧ B ≤ g ∧ g < w.heap.size ∧ At w g 0 xs := by
 rcases h.2 with ⟨h1, h2⟩ | ⟨g, cap', cur, h1, hb, hgg, _⟩
 ·omega
 injection h1 with h1 _ h3
 subst h1
 subst h3
 refine ⟨g, rfl, hb, (h.lt g rfl).2, fun i u hi => ?_⟩
 have := h.cells (g := g) rfl i u hi
 rw [add_none] at this; exact this
theorem _root_.Go.Pw.Kp.grown {a : World} {row : Option Nat} (h : Kp a w c) (hg : w.grownBy w' row) (hr : ∀ k, row = some k → a.heap.size ≤ k) : Kp a w' c :=
 ⟨hg.os.trans h.os, hg.tape.trans h.tape, hg.output.trans h.output, yaw h.size hg.size, fun i hi hn =>
  (hg.block i (ybv hi h.size) (fun e => by have := hr i e.symm; omega)).trans (h.block i hi hn)⟩
theorem _root_.Go.Pw.Kp.own {a : World} (h : Kp a w c) (ho : w.ownsRow B e s v n xs) (hB : a.heap.size ≤ B) (hg : w.grownBy w' v.ownBlock) : Kp a w' c :=
 h.grown hg fun k hk => yaw hB (ho.lt k hk).1
theorem _root_.Go.Pw.Kp.below' {a : World} (h : Kp a w c) (hb : Below B w w') (hB : a.heap.size ≤ B) : Kp a w' c :=
 ⟨hb.os.trans h.os, hb.tape.trans h.tape, hb.output.trans h.output, yaw h.size hb.size, fun i hi hn => (hb.block i OM).trans (h.block i hi hn)⟩
end
section
variable {P : Program} {w : World}
theorem RunV.str {src dst e T : TypeId} {B n cap : Nat} {a : Option Addr} {l : List UInt8} {K : Value → World → Prop} (hs : P.underlying src = some (.slice e)) (he : P.underlying e = some (.int .u8)) (hd : P.underlying dst = some .string)
  (h : w.ownsRow B T 1 (.slice a n cap) n (Lib.byteCells l)) (k : K (.string ⟨l.toArray⟩) w) : RunV P (convert src dst (.slice a n cap)) w K := by
 have hn := zqv h
 rw [Lib.byteCells_length] at hn
 subst hn
 by_cases h0 : 0 < l.length
 ·obtain ⟨g, rfl, _, _, hat⟩ := zdY h h0
  refine ⟨_, _, run_convert_bytes_back w src dst e ⟨g, 0, none⟩ cap l hs he hd (fun j hj => ?_), k⟩
  have := hat j (.int .u8 l[j].toNat) (by simp [Lib.byteCells, hj])
  rw [add_none]; exact this
 have hl : l = [] := yan OM
 subst hl
 rcases h.2 with ⟨h1, _⟩ | ⟨g, cap', cur, h1, _⟩
 ·injection h1 with h1 _ _
  subst h1
  exact ⟨_, _, run_convert_bytes_nil w src e hs he _ _ dst hd, k⟩
 injection h1 with h1 _ _
 subst h1
 exact ⟨_, _, run_convert_bytes_back w src dst e ⟨g, 0, none⟩ cap [] hs he hd (fun j hj => by simp at hj), k⟩
theorem zfp (n : Int) (h : 0 ≤ n ∧ n < 256) : IntKind.u8.wrap n = n := by
 unfold IntKind.wrap; simp [IntKind.signed, IntKind.bits]; omega
theorem wrap_i64 (n : Int) (h : -9223372036854775808 ≤ n ∧ n ≤ 9223372036854775807) : IntKind.i64.wrap n = n := by
 unfold IntKind.wrap; simp [IntKind.signed, IntKind.bits]; omega
end
end Go.Vc
namespace Go.Vc
open Go
end Go.Vc
namespace Go.Vc
open Go Go.Pw Go.RowKit
theorem RunN.app {P : Program} {w : World} {K : Value → World → Prop} {t ty e : TypeId} {cs : Array Bool} {B s n bytes : Nat} {z v : Value} {xs : List Value} (ht : P.underlying t = some (.slice e)) (hb : (P.info? e).map (fun i => (i.zero, i.size, i.bytes)) = some (some z, s, bytes)) (hz : z.cells.size = s) (hs : 0 < s)
  (hown : w.ownsRow B e s v n xs) (hB : B ≤ w.heap.size) (a : Addr) (m c : Nat) (news : List Value) (hl : news.length = m * s) (hnews : ∀ j u, news[j]? = some u → w.cell? (a.add j) = some u) (h1 : ∀ u ∈ news, u.oneCell' = true)
  (h63 : n + m ≤ 9223372036854775807) (hbytes : (n + m) * bytes ≤ 140737488355328)
  (k : ∀ v' w', w'.ownsRow B e s v' (n + m) (xs ++ news) → w.grownBy w' v.ownBlock → K v' w') : RunN P (builtin .append #[t, t] ty cs [v, .slice (some a) m c].toArray) w K := by
 obtain ⟨i, hi, hi2⟩ := ybk.1 hb
 simp only [Prod.mk.injEq] at hi2
 obtain ⟨z1, z2, z3⟩ := hi2
 refine RunN.append B e i z s bytes ht hi z1 z2 z3 hz hs v n xs hown a m c news hl hnews h1 (by rw [show maxLen = 9223372036854775807 from rfl]; omega) hbytes hB fun v' w' h2 h3 _ => k v' w' h2 h3
theorem zgj (w : World) (cs : Array Value) (e : TypeId) : ∀ j u, cs.toList[j]? = some u → (w.alloc (.cells cs e)).cell? ((⟨w.heap.size, 0, none⟩ : Addr).add j) = some u := by
 intro j u h
 rw [add_none, yaU, World.cell?_alloc_new]
 simpa using h
end Go.Vc
namespace Go.Vc
open Go
end Go.Vc
namespace Go.Proofs.YtennokckmjcefaaGreatDoor
open Go.RowKit Go.Pw Go.Vc Go.Cs Go.Lib
theorem hmix : Tryz.prog.follows .mixedOrders = true := by kernel_rfl
theorem zlr (x : Int) (w : World) : (Instr.buildSlice 91 1 [(0, .int .u8 x)].toArray).run Tryz.prog w = .ok (.slice (some ⟨w.heap.size, 0, none⟩) 1 1) (w.alloc (.cells #[.int .u8 x] 5)) := by
 simp [Instr.buildSlice, go_sem, Tryz.runUnderlying91]
theorem zqL (x y : Int) (w : World) : (Instr.buildSlice 91 2 [(0, .int .u8 x), (1, .int .u8 y)].toArray).run Tryz.prog w = .ok (.slice (some ⟨w.heap.size, 0, none⟩) 2 2) (w.alloc (.cells #[.int .u8 x, .int .u8 y] 5)) := by
 simp [Instr.buildSlice, go_sem, Tryz.runUnderlying91]
section
variable {w : World}
theorem zlA (w : World) (cs : Array Value) (e : TypeId) (n : Nat) (hn : cs.size = n) (hm : n ≤ 9223372036854775807) : (w.alloc (.cells cs e)).ownsRow w.heap.size e 1 (.slice (some ⟨w.heap.size, 0, none⟩) n n) n cs.toList :=
  World.ownsRow_lit w cs n (yag _) (by have : maxLen = 9223372036854775807 := rfl; omega) OM
def Bytes (w : World) (B : Nat) (v : Value) (l : List UInt8) : Prop := w.ownsRow B 5 1 v l.length (Go.Lib.byteCells l)
end
end Go.Proofs.YtennokckmjcefaaGreatDoor
namespace Go.Vc
open Go Go.Pw
theorem at_mono {w w' : World} {b o : Nat} {vs : List Value} (h : At w b o vs) (k : Kp w w' n_) : At w' b o vs := fun i v hi => by
 have := h i v hi
 have hlt : b < w.heap.size := by
  rcases yby b w.heap.size with h' | h'
  ·exact h'
  unfold World.cell? at this
  dsimp only at this
  rw [Array.getElem?_eq_none h'] at this
  cases this
 rw [k.cell hlt id]; exact this
theorem zao {w w' : World} {a : Addr} {v : Value} (h : w.cell? a = some v) (k : Kp w w' n_) : w'.cell? a = some v := by
 have hlt : a.block < w.heap.size := by
  rcases yby a.block w.heap.size with h' | h'
  ·exact h'
  unfold World.cell? at h
  rw [Array.getElem?_eq_none h'] at h
  cases h
 rw [k.cell hlt id]; exact h
section
variable {P : Program} {t : TypeId} {w w0 : World} {K : Value → Prop}
theorem LoadK {a : Addr} {v : Value} (ht : zbk P t = false) (h : w0.cell? a = some v) (q : Kp w0 w n_) (k : K v) : Load P t a w K := Load.one ht (zao h q) k
theorem LoadD {a : Addr} {v : Value} (ht : zbk P t = false) (h : w0.cell? a = some v) (q : Kp w0 w n_) (k : K v) : Load P t a w.drew K := Load.one ht (zao h q.drew) k
theorem zea {α : Type} {enc : α → List Value} {g o n : Nat} {l : List α} (h : At w0 g o (l.flatMap enc)) (hn : ∀ x, (enc x).length = n) {i : Nat} (hi : i < l.length) : At w0 g (o + i * n) (enc l[i]) := fun j v hj => by
 have hjn : j < n := by rw [← hn l[i]]; exact (List.getElem?_eq_some_iff.1 hj).1
 have key : ∀ (l : List α) (i : Nat) (hi : i < l.length) (j : Nat), j < n → (l.flatMap enc)[i * n + j]? = (enc l[i])[j]? := by
  intro l
  induction l with
  | nil => intro i hi; simp at hi
  | cons x r ih =>
   intro i hi j hj
   cases i with
   | zero =>
    rw [yao, yaO, yaU, List.getElem?_append_left (by rw [hn]; exact hj)]; rfl
   | succ i =>
    have e : (i + 1) * n + j = n + (i * n + j) := by rw [ybp]; omega
    rw [yao, e, List.getElem?_append_right (by rw [hn]; omega), hn, ybw, ih i (by simpa using hi) j hj]; rfl
 rw [ybT]
 exact h (i * n + j) v ((key l i hi j hjn).trans hj)
theorem LoadF {α : Type} {enc : α → List Value} {g o n i j : Nat} {l : List α} {v : Value} (ht : zbk P t = false) (h : At w0 g o (l.flatMap enc)) (q : Kp w0 w n_) (hn : ∀ x, (enc x).length = n) (hi : i < l.length) (hv : (enc l[i])[j]? = some v) (k : K v) : Load P t ⟨g, o + i * n + j, none⟩ w K :=
 Load.one ht (zao (zea h hn hi j v hv) q) k
theorem LoadF0 {α : Type} {enc : α → List Value} {g o n i : Nat} {l : List α} {v : Value} (ht : zbk P t = false) (h : At w0 g o (l.flatMap enc)) (q : Kp w0 w n_) (hn : ∀ x, (enc x).length = n) (hi : i < l.length) (hv : (enc l[i])[0]? = some v) (k : K v) : Load P t ⟨g, o + i * n, none⟩ w K :=
 Load.one ht (zao (zea h hn hi 0 v hv) q) k
theorem LoadA {α : Type} {enc : α → List Value} {g o n i : Nat} {l : List α} (ht : zbk P t = true) (hu : (P.underlying t).isSome = true) (h : At w0 g o (l.flatMap enc)) (q : Kp w0 w n_) (hn : ∀ x, (enc x).length = n) (hi : i < l.length) (hs : zba P t = some n) (k : K (.agg (enc l[i]).toArray)) : Load P t ⟨g, o + i * n, none⟩ w K :=
 Load.agg _ ht hu (by rw [hs, hn]) (at_mono (zea h hn hi) q) k
theorem HeldK {S : World → Prop} {a : Addr} {v : Value} (ht : zbk P t = false) (h : w0.cell? a = some v) (q : ∀ u, S u → Kp w0 u n_) (k : K v) : Held P S t a K := Yf ht (fun u hu => zao h (q u hu)) k
theorem HeldF {S : World → Prop} {α : Type} {enc : α → List Value} {g o n i j : Nat} {l : List α} {v : Value} (ht : zbk P t = false) (h : At w0 g o (l.flatMap enc)) (q : ∀ u, S u → Kp w0 u n_) (hn : ∀ x, (enc x).length = n) (hi : i < l.length) (hv : (enc l[i])[j]? = some v) (k : K v) : Held P S t ⟨g, o + i * n + j, none⟩ K :=
 Yf ht (fun u hu => zao (zea h hn hi j v hv) (q u hu)) k
theorem HeldF0 {S : World → Prop} {α : Type} {enc : α → List Value} {g o n i : Nat} {l : List α} {v : Value} (ht : zbk P t = false) (h : At w0 g o (l.flatMap enc)) (q : ∀ u, S u → Kp w0 u n_) (hn : ∀ x, (enc x).length = n) (hi : i < l.length) (hv : (enc l[i])[0]? = some v) (k : K v) : Held P S t ⟨g, o + i * n, none⟩ K :=
 Yf ht (fun u hu => zao (zea h hn hi 0 v hv) (q u hu)) k
theorem LoadV {g o j : Nat} {vs : List Value} {v : Value} (ht : zbk P t = false) (h : At w0 g o vs) (q : Kp w0 w n_) (hv : vs[j]? = some v) (k : K v) : Load P t ⟨g, o + j, none⟩ w K := Load.one ht (zao (h j v hv) q) k
theorem LoadV0 {g o : Nat} {vs : List Value} {v : Value} (ht : zbk P t = false) (h : At w0 g o vs) (q : Kp w0 w n_) (hv : vs[0]? = some v) (k : K v) : Load P t ⟨g, o, none⟩ w K := Load.one ht (zao (h 0 v hv) q) k
theorem LoadW {g o : Nat} {vs : List Value} (ht : zbk P t = true) (hu : (P.underlying t).isSome = true) (h : At w0 g o vs) (q : Kp w0 w n_) (hs : zba P t = some vs.length) (k : K (.agg vs.toArray)) : Load P t ⟨g, o, none⟩ w K := Load.agg _ ht hu hs (at_mono h q) k
theorem HeldV {S : World → Prop} {g o j : Nat} {vs : List Value} {v : Value} (ht : zbk P t = false) (h : At w0 g o vs) (q : ∀ u, S u → Kp w0 u n_) (hv : vs[j]? = some v) (k : K v) : Held P S t ⟨g, o + j, none⟩ K := Yf ht (fun u hu => zao (h j v hv) (q u hu)) k
theorem HeldV0 {S : World → Prop} {g o : Nat} {vs : List Value} {v : Value} (ht : zbk P t = false) (h : At w0 g o vs) (q : ∀ u, S u → Kp w0 u n_) (hv : vs[0]? = some v) (k : K v) : Held P S t ⟨g, o, none⟩ K := Yf ht (fun u hu => zao (h 0 v hv) (q u hu)) k
theorem HeldW {S : World → Prop} {b o : Nat} {vs : List Value} (ht : zbk P t = true) (hu : (P.underlying t).isSome = true) (h : At w0 b o vs) (q : ∀ u, S u → Kp w0 u n_) (hs : zba P t = some vs.length) (k : K (.agg vs.toArray)) : Held P S t ⟨b, o, none⟩ K :=
 ⟨.agg vs.toArray, fun w hw => by
  obtain ⟨v, h1, h2⟩ := (Load.agg (P := P) (t := t) (K := fun v => v = .agg vs.toArray) vs ht hu hs (at_mono h (q w hw)) rfl).h
  rw [h1, h2], k⟩
end
theorem HeldG {P : Program} {t : TypeId} {K : Value → Prop} {S : World → Prop} {b o : Nat} (vs : List Value) (ht : zbk P t = true) (hu : (P.underlying t).isSome = true) (h : ∀ u, S u → At u b o vs) (hs : zba P t = some vs.length) (k : K (.agg vs.toArray)) : Held P S t ⟨b, o, none⟩ K :=
 ⟨.agg vs.toArray, fun w hw => by
  obtain ⟨v, h1, h2⟩ := (Load.agg (P := P) (t := t) (K := fun v => v = .agg vs.toArray) vs ht hu hs (h w hw) rfl).h
  rw [h1, h2], k⟩
def flatB : Value → Bool
 | .agg _ | .tuple _ => false
 | _ => true
theorem zak {vs : List Value} (h : vs.all flatB = true) : ∀ v ∈ vs, Flat v := fun v hv => by
 have := yaF.1 h v hv
 cases v <;> first | exact trivial | (unfold flatB at this; cases this)
theorem zdr (w : World) (T : TypeId) (vs : List Value) : At (w.alloc (.cells vs.toArray T)) w.heap.size 0 vs := fun i v hi => by
 have := zfi (heap_alloc_new w (.cells vs.toArray T)) i v (by simpa using hi)
 exact this
theorem KGO {p q : Prop} (k : q) (h : Hide q → p := by intro k_; (repeat ((first | refine Go.Vc.Br.dec_yes rfl ?_ | refine Go.Vc.Num.i64 OM OM ?_ | refine Go.Vc.Num.i32 OM OM ?_ | refine Go.Vc.Num.u8 OM OM ?_ | refine Go.Vc.Br.tt ?_ | refine Go.Vc.Br.ff ?_ | refine Go.Vc.Br.not_yes ?_ | refine Go.Vc.Br.dec_yes OM ?_ | refine Go.Vc.Br.dec_no OM ?_ | refine Go.Vc.Br.beq_yes OM ?_ | refine Go.Vc.Br.beq_no OM ?_ | refine Go.Vc.Br.bne_yes OM ?_ | refine Go.Vc.Br.bne_no OM ?_ | refine Go.Vc.Draw.text (by decide +kernel) ?_ | refine Go.Vc.Idx.lit (j := 0) rfl OM ?_ | refine Go.Vc.Idx.lit (j := 1) rfl OM ?_ | refine Go.Vc.Idx.lit (j := 2) rfl OM ?_ | refine Go.Vc.Idx.lit (j := 3) rfl OM ?_ | refine Go.Vc.Idx.lit (j := 4) rfl OM ?_ | refine Go.Vc.Idx.lit (j := 5) rfl OM ?_ | refine Go.Vc.Idx.lit (j := 6) rfl OM ?_ | refine Go.Vc.Idx.lit (j := 7) rfl OM ?_ | refine Go.Vc.Idx.nat OM ?_ | refine Go.Vc.Idx.int OM OM ?_ | refine Go.Vc.Cut.to OM ?_ | refine Go.Vc.Cut.from OM OM ?_ | refine Go.Vc.Cut.both OM OM ?_ | refine Go.Vc.Br.dec_yes (by with_reducible assumption) ?_ | refine Go.Vc.Br.dec_no (by with_reducible assumption) ?_ | refine Go.Vc.Br.yes (by with_reducible assumption) ?_ | refine Go.Vc.Br.no (by with_reducible assumption) ?_ | refine Go.Vc.Load.one (by rfl) (by with_reducible assumption) ?_ | refine Go.Vc.LoadK (by rfl) (by with_reducible assumption) (by with_reducible assumption) ?_ | refine Go.Vc.LoadD (by rfl) (by with_reducible assumption) (by with_reducible assumption) ?_ | refine Go.Vc.LoadS (by rfl) (by with_reducible assumption) ?_ | refine Go.Vc.LoadF (by rfl) (by with_reducible assumption) (by with_reducible assumption) (fun _ => rfl) OM rfl ?_ | refine Go.Vc.LoadF0 (by rfl) (by with_reducible assumption) (by with_reducible assumption) (fun _ => rfl) OM rfl ?_ | refine Go.Vc.LoadA (by rfl) (by rfl) (by with_reducible assumption) (by with_reducible assumption) (fun _ => rfl) OM (by rfl) ?_ | refine Go.Vc.LoadF (by rfl) (by with_reducible assumption) (Go.Pw.Kp.drew (by with_reducible assumption)) (fun _ => rfl) OM rfl ?_ | refine Go.Vc.LoadF0 (by rfl) (by with_reducible assumption) (Go.Pw.Kp.drew (by with_reducible assumption)) (fun _ => rfl) OM rfl ?_ | refine Go.Vc.LoadA (by rfl) (by rfl) (by with_reducible assumption) (Go.Pw.Kp.drew (by with_reducible assumption)) (fun _ => rfl) OM (by rfl) ?_ | refine Go.Vc.HeldK (by rfl) (by with_reducible assumption) (fun _ hu => hu) ?_ | refine Go.Vc.HeldK (by rfl) (by with_reducible assumption) (fun _ hu => Go.Pw.Kp.trans0 (by with_reducible assumption) hu) ?_ | refine Go.Vc.HeldF (by rfl) (by with_reducible assumption) (fun _ hu => hu) (fun _ => rfl) OM rfl ?_ | refine Go.Vc.HeldF (by rfl) (by with_reducible assumption) (fun _ hu => Go.Pw.Kp.trans0 (by with_reducible assumption) hu) (fun _ => rfl) OM rfl ?_ | refine Go.Vc.HeldF0 (by rfl) (by with_reducible assumption) (fun _ hu => hu) (fun _ => rfl) OM rfl ?_ | refine Go.Vc.HeldF0 (by rfl) (by with_reducible assumption) (fun _ hu => Go.Pw.Kp.trans0 (by with_reducible assumption) hu) (fun _ => rfl) OM rfl ?_ | refine Go.Vc.LoadV (by rfl) (by with_reducible assumption) (by with_reducible assumption) rfl ?_ | refine Go.Vc.LoadV (by rfl) (by with_reducible assumption) (Go.Pw.Kp.drew (by with_reducible assumption)) rfl ?_ | refine Go.Vc.LoadV (by rfl) (by with_reducible assumption) (Go.Pw.Kp.refl _ _) rfl ?_ | refine Go.Vc.LoadV0 (by rfl) (by with_reducible assumption) (by with_reducible assumption) rfl ?_ | refine Go.Vc.LoadV0 (by rfl) (by with_reducible assumption) (Go.Pw.Kp.drew (by with_reducible assumption)) rfl ?_ | refine Go.Vc.LoadV0 (by rfl) (by with_reducible assumption) (Go.Pw.Kp.refl _ _) rfl ?_ | refine Go.Vc.LoadW (by rfl) (by rfl) (by with_reducible assumption) (by with_reducible assumption) (by rfl) ?_ | refine Go.Vc.LoadW (by rfl) (by rfl) (by with_reducible assumption) (Go.Pw.Kp.drew (by with_reducible assumption)) (by rfl) ?_ | refine Go.Vc.LoadW (by rfl) (by rfl) (by with_reducible assumption) (Go.Pw.Kp.refl _ _) (by rfl) ?_ | refine Go.Vc.HeldV (by rfl) (by with_reducible assumption) (fun _ hu => hu) rfl ?_ | refine Go.Vc.HeldV (by rfl) (by with_reducible assumption) (fun _ hu => Go.Pw.Kp.trans0 (by with_reducible assumption) hu) rfl ?_ | refine Go.Vc.HeldV0 (by rfl) (by with_reducible assumption) (fun _ hu => hu) rfl ?_ | refine Go.Vc.HeldV0 (by rfl) (by with_reducible assumption) (fun _ hu => Go.Pw.Kp.trans0 (by with_reducible assumption) hu) rfl ?_ | refine Go.Vc.HeldW (by rfl) (by rfl) (by with_reducible assumption) (fun _ hu => hu) (by rfl) ?_ | refine Go.Vc.HeldW (by rfl) (by rfl) (by with_reducible assumption) (fun _ hu => Go.Pw.Kp.trans0 (by with_reducible assumption) hu) (by rfl) ?_ | refine (?_ : Go.Vc.Sat _ _ _ _ _ _ _) | refine (?_ : Go.Vc.Then _ _ _ _ _ _ _ _)); (first | refine Go.Vc.Then.go hmix ?_ | refine Go.Vc.Sat.go hmix ?_ | skip); conv => whnf)); exact Hide.h k_) : p := h ⟨k⟩
theorem new3 (w : World) (T : TypeId) (vs : List Value) : At (w.alloc (.cells (List.toArray vs) T)) w.heap.size 0 vs ∧ Kp w (w.alloc (.cells (List.toArray vs) T)) n_ ∧ (w.alloc (.cells (List.toArray vs) T)).heap.size = w.heap.size + 1 := ⟨zdr w T vs, (Yb _ _).alloc _, by simp⟩
end Go.Vc
namespace Go.Vc
open Go Go.Pw Go.RowKit
def VarK (w : World) (b : Nat) (T : TypeId) (cs : List Value) : Prop := w.heap[b]? = some (.cells cs.toArray T (0, 0))
section
variable {w w' : World} {b : Nat} {T : TypeId} {cs : List Value}
theorem VarK.at (h : VarK w b T cs) : At w b 0 cs := fun i v hi => by
 have := zfi (c := cs.toArray) h i v (by simpa using hi)
 exact this
theorem VarK.lt (h : VarK w b T cs) : b < w.heap.size := by
 rcases yby b w.heap.size with h' | h'
 ·exact h'
 unfold VarK at h; rw [Array.getElem?_eq_none h'] at h; cases h
theorem VarK.frozen (h : VarK w b T cs) (i : Nat) : w.frozen? ⟨b, i, none⟩ = false := by
 unfold World.frozen?
 dsimp only
 unfold VarK at h
 rw [h]; rfl
theorem VarK.keep {c : Nat → Prop} (h : VarK w b T cs) (k : Kp w w' c) (hc : ¬ c b) : VarK w' b T cs := (k.block b h.lt hc).trans h
theorem VarK.keep0 (h : VarK w b T cs) (k : Kp w w' n_) : VarK w' b T cs := h.keep k fun e => e
theorem VarK.new (w : World) (T : TypeId) (cs : List Value) : VarK (w.alloc (.cells cs.toArray T)) w.heap.size T cs := heap_alloc_new w _
abbrev Yk := @VarK.new
theorem VarK.set (h : VarK w b T cs) (i : Nat) (v : Value) : VarK (w.setCell ⟨b, i, none⟩ v) b T (cs.set i v) := by
 have := heap_setCell_same w b i cs.toArray T v h
 unfold VarK
 rw [this]; simp
theorem zcg : ∀ (vs : List Value) (i : Nat) (w : World), Kp w (zbP b vs i w) (one_ b)
 | [], i, w => Yb _ _
 | v :: r, i, w => ((Yb w (one_ b)).setCell (p := ⟨b, i, none⟩) (.inl rfl) v).trans' (zcg r (i + 1) _)
theorem VarK.setAll : ∀ (vs pre post : List Value) (w : World), VarK w b T (pre ++ post) → vs.length = post.length → VarK (zbP b vs pre.length w) b T (pre ++ vs)
 | [], pre, post, w, h, hl => by
  have : post = [] := yan (by simpa using hl.symm)
  subst this; exact h
 | v :: r, pre, [], w, h, hl => by simp at hl
 | v :: r, pre, p :: post, w, h, hl => by
  have h1 := h.set pre.length v
  have e : (pre ++ p :: post).set pre.length v = (pre ++ [v]) ++ post := by
   rw [List.set_append_right _ _ (yag _)]; simp
  rw [e] at h1
  have := VarK.setAll r (pre ++ [v]) post _ h1 (by simpa using hl)
  rw [yaa] at this
  show VarK (zbP b r (pre.length + 1) _) b T _
  simpa using this
end
theorem Store.varK {P : Program} {t T : TypeId} {w : World} {b : Nat} {cs : List Value} (vs : List Value) {K : World → Prop} (h : VarK w b T cs) (hs : zba P t = some vs.length) (hl : vs.length = cs.length) (hf : ∀ v ∈ vs, Flat v)
  (k : ∀ w', VarK w' b T vs → Kp w w' (one_ b) → K w') : Store P t ⟨b, 0, none⟩ (.agg vs.toArray) w K :=
 Store.agg vs hs hf (fun j hj => ⟨_, h.at j _ (List.getElem?_eq_getElem OM)⟩) (fun j => h.frozen j) (k _ (by
  have := VarK.setAll (T := T) (b := b) vs [] cs w h hl
  simpa using this) (zcg vs 0 w))
abbrev Yi := @Store.varK
theorem Store.cellK {P : Program} {t T : TypeId} {w : World} {b i : Nat} {cs : List Value} {v : Value} {K : World → Prop} (h : VarK w b T cs) (hi : i < cs.length) (hs : zba P t = some 1) (hv : v.cells = #[v] ∧ (∀ cs, v ≠ .agg cs) ∧ ∀ cs, v ≠ .tuple cs)
  (k : ∀ w', VarK w' b T (cs.set i v) → Kp w w' (one_ b) → K w') : Store P t ⟨b, 0 + i, none⟩ v w K :=
 Store.one hs hv (h.at i _ (List.getElem?_eq_getElem hi)) (h.frozen _) (k _ (by rw [yaU]; exact h.set i v) ((Yb w (one_ b)).setCell (p := ⟨b, 0 + i, none⟩) (.inl rfl) v))
abbrev Yd := @Store.cellK
theorem new5 (w : World) (T : TypeId) (vs : List Value) : At (w.alloc (.cells (List.toArray vs) T)) w.heap.size 0 vs ∧ VarK (w.alloc (.cells (List.toArray vs) T)) w.heap.size T vs ∧ Kp w (w.alloc (.cells (List.toArray vs) T)) n_ ∧ (w.alloc (.cells (List.toArray vs) T)).heap.size = w.heap.size + 1 ∧ Kp (w.alloc (.cells (List.toArray vs) T)) (w.alloc (.cells (List.toArray vs) T)) n_ := ⟨zdr w T vs, VarK.new w T vs, (Yb _ _).alloc _, by simp, Yb _ _⟩
theorem SVK {P : Program} {t T : TypeId} {w : World} {b : Nat} {cs : List Value} (vs : List Value) {K : World → Prop} (h : VarK w b T cs) (k : ∀ w', VarK w' b T vs → Kp w w' (one_ b) → K w') (hs : zba P t = some vs.length := by rfl) (hl : vs.length = cs.length := by rfl) (hf : vs.all flatB = true := by rfl) : Store P t ⟨b, 0, none⟩ (.agg vs.toArray) w K := Store.varK vs h hs hl (zak hf) k
theorem SCK {P : Program} {t T : TypeId} {w : World} {b : Nat} {cs : List Value} {v : Value} {K : World → Prop} (i : Nat) (h : VarK w b T cs) (k : ∀ w', VarK w' b T (cs.set i v) → Kp w w' (one_ b) → K w') (hi : i < cs.length := by exact Nat.le_of_ble_eq_true rfl) (hs : zba P t = some 1 := by rfl) (hv : v.cells = #[v] ∧ (∀ cs, v ≠ .agg cs) ∧ ∀ cs, v ≠ .tuple cs := by exact ⟨rfl, by simp, by simp⟩) : Store P t ⟨b, 0 + i, none⟩ v w K := Store.cellK h hi hs hv k
section
variable {P : Program} {w : World} {K : Value → World → Prop} {t tn ty e T : TypeId} {cs : Array Bool} {g : Nat} {cells : List Value}
theorem zdd (w : World) (g : Nat) (cs : Array Value) : Kp w (w.setRow g cs) (one_ g) :=
 ⟨rfl, rfl, rfl, by simp, fun k hk hn => setRow_other w g k cs fun e => hn e⟩
theorem VarK.setRow (h : VarK w g T cells) (new : List Value) : VarK (w.setRow g new.toArray) g T new := setRow_heap w g _ _ T (0, 0) h
theorem zcc {s bytes : Nat} {z : Value} (hb : (P.info? e).map (fun i => (i.zero, i.size, i.bytes)) = some (some z, s, bytes)) : ∃ i, P.info? e = some i ∧ i.zero = some z ∧ i.size = s ∧ i.bytes = bytes := by
 obtain ⟨i, hi, hi2⟩ := ybk.1 hb
 simp only [Prod.mk.injEq] at hi2
 exact ⟨i, hi, hi2.1, hi2.2.1, hi2.2.2⟩
theorem RunN.roomK {s bytes : Nat} {z : Value} (ht : P.underlying t = some (.slice e)) (hb : (P.info? e).map (fun i => (i.zero, i.size, i.bytes)) = some (some z, s, bytes)) (h : VarK w g e cells) {n c m mc : Nat} {a : Addr} {news : List Value}
  (hl : news.length = m * s) (hnews : ∀ j u, news[j]? = some u → w.cell? (a.add j) = some u) (h1 : ∀ u ∈ news, u.oneCell' = true) (hroom : n + m ≤ c) (hfit : (n + m) * s ≤ cells.length)
  (k : ∀ w', VarK w' g e (cells.take (n * s) ++ news ++ cells.drop ((n + m) * s)) → Kp w w' (one_ g) → K (.slice (some ⟨g, 0, none⟩) (n + m) c) w') :
  RunN P (builtin .append #[t, t] ty cs [.slice (some ⟨g, 0, none⟩) n c, .slice (some a) m mc].toArray) w K := by
 obtain ⟨i, hi, z1, rfl, z3⟩ := zcc hb
 have hr := run_append_room (P := P) w t ty e i ht hi g n c cells.toArray h a m mc news hl hnews h1 hroom (by rw [hl]; rw [ybB] at hfit; simpa using hfit)
 have e2 : n * i.size + news.length = (n + m) * i.size := by rw [hl, ybB]
 rw [e2] at hr
 have e1 : (builtin .append #[t, t] ty cs [.slice (some ⟨g, 0, none⟩) n c, .slice (some a) m mc].toArray).run P w = .ok (.value (.slice (some ⟨g, 0, none⟩) (n + m) c)) (w.setRow g (cells.take (n * i.size) ++ news ++ cells.drop ((n + m) * i.size)).toArray) := by
  show (do pure (Next.value (← Builtin.append_ #[t, t] ty #[.slice (some ⟨g, 0, none⟩) n c, .slice (some a) m mc])) : Sem Next).run P w = _
  simp only [Sem.run_bind, hr, Result.andThen_ok]
  rfl
 exact ⟨_, _, e1, k _ (h.setRow _) (zdd _ _ _)⟩
theorem zrT {need old bytes : Nat} (hlt : old < need) (hbytes : need * bytes ≤ 140737488355328) : Builtin.nextslicecap need old * bytes ≤ 281474976710656 := growslice_fits hlt hbytes
theorem RunN.zerosK {s bytes : Nat} {z : Value} {kq kn : IntKind} (ht : P.underlying t = some (.slice e)) (htn : P.underlying tn = some (.int kn)) (hb : (P.info? e).map (fun i => (i.zero, i.size, i.bytes)) = some (some z, s, bytes)) (hz : z.cells.size = s) (hs : 0 < s) {b : Addr} {n c m : Nat} {olds : List Value}
  (hlo : olds.length = n * s) (holds : ∀ j u, olds[j]? = some u → w.cell? (b.add j) = some u) (h0 : 0 < m)
  (hroom : c < n + m) (h63 : n + m ≤ 9223372036854775807) (hbytes : (n + m) * bytes ≤ 140737488355328)
  (k : ∀ w' tail c', VarK w' w.heap.size e (olds ++ tail) → (olds ++ tail).length = c' * s → n + m ≤ c' → c' ≤ maxLen → Kp w w' n_ → K (.slice (some ⟨w.heap.size, 0, none⟩) (n + m) c') w') :
  RunN P (builtin .append #[t, tn] ty cs [.slice (some b) n c, .int kq (m : Nat)].toArray) w K := by
 obtain ⟨i, hi, z1, rfl, rfl⟩ := zcc hb
 have hmb : m * i.bytes ≤ 281474976710656 := by rw [ybB] at hbytes; omega
 have hr := Lib.run_append_grow_zeros (P := P) w t tn ty e i z kq kn ht htn hi z1 (some b) n c olds (run_firstCells_some (P := P) w.drew i.size n b n c olds hlo (by simpa using holds)) m h0 hs hroom OM hmb (zrT hroom hbytes)
 have hge := grownCap_ge w (n + m) c e
 refine ⟨_, w.drew.alloc (.cells (olds.toArray ++ Builtin.zeroCells z.cells m ++ Builtin.zeroCells z.cells (grownCap w (n + m) c e - (n + m))) e), ?_, k _ (Builtin.zeroCells z.cells m ++ Builtin.zeroCells z.cells (grownCap w (n + m) c e - (n + m))).toList _ ?_ ?_ hge (grownCap_le_maxLen w (n + m) c e (by rw [show maxLen = 9223372036854775807 from rfl]; exact h63)) ?_⟩
 ·show (do pure (Next.value (← Builtin.append_ #[t, tn] ty #[.slice (some b) n c, .int kq (m : Nat)])) : Sem Next).run P w = _
  simp only [Sem.run_bind, hr, Result.andThen_ok]
  rfl
 ·have := heap_alloc_new w.drew (.cells (olds.toArray ++ Builtin.zeroCells z.cells m ++ Builtin.zeroCells z.cells (grownCap w (n + m) c e - (n + m))) e)
  unfold VarK
  rw [show (olds ++ (Builtin.zeroCells z.cells m ++ Builtin.zeroCells z.cells (grownCap w (n + m) c e - (n + m))).toList).toArray = olds.toArray ++ Builtin.zeroCells z.cells m ++ Builtin.zeroCells z.cells (grownCap w (n + m) c e - (n + m)) by apply Array.ext'; simp]
  exact this
 ·rw [yaa, hlo, ybK, Array.size_append, size_zeroCells, size_zeroCells, hz, ← ybB, ← ybB]
  congr 1
  omega
 exact (Yb w n_).drew.alloc _
theorem RunN.capK {a : Option Addr} {n c : Nat} (ht : P.underlying t = some (.slice e)) (k : K (.int .i64 (c : Nat)) w) : RunN P (builtin .cap #[t] ty cs [.slice a n c].toArray) w K := by
 refine ⟨_, w, ?_, k⟩
 show (do pure (Next.value (← Builtin.cap_ #[t] ty #[.slice a n c])) : Sem Next).run P w = _
 simp [Builtin.cap_, run_underlying ht, goInt]
theorem RunN.copyK {s bytes : Nat} {z : Value} {o dl dc sl sc : Nat} (ht : P.underlying t = some (.slice e)) (hb : (P.info? e).map (fun i => (i.zero, i.size, i.bytes)) = some (some z, s, bytes)) (h : VarK w g T cells) {a : Addr} {news : List Value}
  {m : Nat} (hm : min sl dl = m) (hl : news.length = m * s) (hnews : ∀ j u, news[j]? = some u → w.cell? (a.add j) = some u) (h1 : ∀ u ∈ news, u.oneCell' = true) (hfit : o + news.length ≤ cells.length)
  (k : ∀ w', VarK w' g T (cells.take o ++ news ++ cells.drop (o + news.length)) → Kp w w' (one_ g) → K (.int .i64 (m : Nat)) w') :
  RunN P (builtin .copy #[t, t] ty cs [.slice (some ⟨g, o, none⟩) dl dc, .slice (some a) sl sc].toArray) w K := by
 obtain ⟨i, hi, z1, rfl, z3⟩ := zcc hb
 have hm : Nat.min sl dl = m := hm
 subst hm
 have hst := run_storeCells_at P g o T news 0 cells.toArray w h (by simpa using hfit) h1
 have hf := run_firstCells_some (P := P) w i.size (Nat.min sl dl) a sl sc news hl hnews
 rw [ybJ] at hst
 have e1 : (builtin .copy #[t, t] ty cs [.slice (some ⟨g, o, none⟩) dl dc, .slice (some a) sl sc].toArray).run P w = .ok (.value (goInt (Nat.min sl dl))) (w.setRow g (cells.take o ++ news ++ cells.drop (o + news.length)).toArray) := by
  show (do pure (Next.value (← Builtin.copy_ #[t, t] ty #[.slice (some ⟨g, o, none⟩) dl dc, .slice (some a) sl sc])) : Sem Next).run P w = _
  have hst : (storeCells ⟨g, o, none⟩ news).run P w = .ok () (w.setRow g (cells.take o ++ news ++ cells.drop (o + news.length)).toArray) := hst
  simp [Builtin.copy_, run_underlying ht, Builtin.lenOf, sizeOf, typeInfo, hi, hf, hst]
 exact ⟨_, _, e1, k _ (h.setRow _) (zdd _ _ _)⟩
theorem RunN.clearK {s bytes : Nat} {z : Value} {o n c : Nat} (ht : P.underlying t = some (.slice e)) (hb : (P.info? e).map (fun i => (i.zero, i.size, i.bytes)) = some (some z, s, bytes)) (hz : z.cells.size = s) (h1 : ∀ u ∈ z.cells, u.oneCell' = true) (h : VarK w g T cells) (hfit : o + n * s ≤ cells.length)
  (k : ∀ w' zs, zs.length = n * s → VarK w' g T (cells.take o ++ zs ++ cells.drop (o + n * s)) → Kp w w' (one_ g) → K (.tuple #[]) w') :
  RunN P (builtin .clear #[t] ty cs [.slice (some ⟨g, o, none⟩) n c].toArray) w K := by
 obtain ⟨i, hi, z1, rfl, z3⟩ := zcc hb
 have hzl : (Builtin.zeroCells z.cells n).toList.length = n * i.size := by rw [ybK, size_zeroCells, hz]
 cases n with
 | zero =>
  refine ⟨_, w, ?_, k w [] (by simp) (by simpa using h) (Yb _ _)⟩
  show (do pure (Next.value (← Builtin.clear_ #[t] ty #[.slice (some ⟨g, o, none⟩) 0 c])) : Sem Next).run P w = _
  simp [Builtin.clear_, run_underlying ht]
 | succ n =>
  have hst := run_storeCells_at P g o T (Builtin.zeroCells z.cells (n + 1)).toList 0 cells.toArray w h (by rw [hzl]; simpa using hfit) (fun u hu => by
   have hu : u ∈ Builtin.zeroCells z.cells (n + 1) := by simpa using hu
   unfold Builtin.zeroCells at hu
   obtain ⟨j, hj, rfl⟩ := Array.mem_map.1 hu
   have hj : j < (n + 1) * z.cells.size := by simpa using hj
   have hs : 0 < z.cells.size := by
    rcases ybj z.cells.size with h0 | h0
    ·rw [h0] at hj; omega
    exact h0
   rw [getElem!_pos z.cells _ (Nat.mod_lt _ hs)]
   exact h1 _ (Array.getElem_mem _))
  simp only [hzl, ybJ] at hst
  have hst : (storeCells ⟨g, o, none⟩ (Builtin.zeroCells z.cells (n + 1)).toList).run P w = .ok () (w.setRow g (cells.take o ++ (Builtin.zeroCells z.cells (n + 1)).toList ++ cells.drop (o + (n + 1) * i.size)).toArray) := hst
  have e1 : (builtin .clear #[t] ty cs [.slice (some ⟨g, o, none⟩) (n + 1) c].toArray).run P w = .ok (.value (.tuple #[])) (w.setRow g (cells.take o ++ (Builtin.zeroCells z.cells (n + 1)).toList ++ cells.drop (o + (n + 1) * i.size)).toArray) := by
   show (do pure (Next.value (← Builtin.clear_ #[t] ty #[.slice (some ⟨g, o, none⟩) (n + 1) c])) : Sem Next).run P w = _
   have hzv : (zeroValue e).run P w = .ok z w := by simp [zeroValue, typeInfo, hi, z1]
   simp [Builtin.clear_, run_underlying ht, hzv, hst]
  exact ⟨_, _, e1, k _ (Builtin.zeroCells z.cells (n + 1)).toList hzl (h.setRow _) (zdd _ _ _)⟩
end
end Go.Vc
namespace Go.Vc
open Go Go.Pw Go.RowKit Go.ChangeShapes Go.WideShapes Go.ChangeAt
def RowO {α : Type} (W : World) (v : Value) (cells : α → List Value) (l : List α) : Prop := ∃ a cap, v = .slice a l.length cap ∧ (0 < l.length → ∃ g o, a = some ⟨g, o, none⟩ ∧ g < W.heap.size ∧ At W g o (l.flatMap cells))
theorem RowO.keep {α : Type} {w w' : World} {v : Value} {cells : α → List Value} {l : List α} (h : RowO w v cells l) (k : Kp w w' n_) : RowO w' v cells l := by
 obtain ⟨a, cap, rfl, h⟩ := h
 exact ⟨a, cap, rfl, fun h0 => let ⟨g, o, h1, h3, h4⟩ := h h0; ⟨g, o, h1, ybv h3 k.size, at_mono h4 k⟩⟩
end Go.Vc
namespace Go.Vc
open Go Go.Pw
theorem flatK_drop {α : Type} (f : α → List Value) (n : Nat) (hf : ∀ x, (f x).length = n) : ∀ (l : List α) (i : Nat), (l.flatMap f).drop (i * n) = (l.drop i).flatMap f
 | l, 0 => by simp
 | [], i + 1 => by simp
 | x :: r, i + 1 => by
  rw [yao, ybp, Nat.add_comm, ← yaM, List.drop_left' (hf x), flatK_drop f n hf r i]; rfl
theorem flatK_take {α : Type} (f : α → List Value) (n : Nat) (hf : ∀ x, (f x).length = n) : ∀ (l : List α) (i : Nat), (l.flatMap f).take (i * n) = (l.take i).flatMap f
 | l, 0 => by simp
 | [], i + 1 => by simp
 | x :: r, i + 1 => by
  rw [yao, List.take_append, yaz (by rw [hf, ybp]; omega), hf, show (i + 1) * n - n = i * n by rw [ybp]; omega, flatK_take f n hf r i]; rfl
theorem flatK_len {α : Type} (f : α → List Value) (n : Nat) (hf : ∀ x, (f x).length = n) : ∀ (l : List α), (l.flatMap f).length = l.length * n
 | [] => by simp
 | x :: r => by rw [yao, yaa, hf, flatK_len f n hf r, yab, ybp]; omega
theorem own_blockK {w : World} {B e s n : Nat} {v : Value} {xs : List Value} (h : w.ownsRow B e s v n xs) : (v = .slice none 0 0 ∧ n = 0) ∨ ∃ g cap cells, v = .slice (some ⟨g, 0, none⟩) n cap ∧ B ≤ g ∧ VarK w g e cells ∧ n ≤ cap ∧ cap ≤ maxLen ∧ cells.length = cap * s ∧ cells.take (n * s) = xs := by
 rcases h.2 with h | ⟨g, cap, cur, h1, h2, h3, h4, h5, h6, h7⟩
 ·exact .inl h
 exact .inr ⟨g, cap, cur.toList, h1, h2, by unfold VarK; simpa using h3, h4, h5, by simpa using h6, h7⟩
theorem zbY {w : World} {B e s n g cap : Nat} {cells xs : List Value} (hB : B ≤ g) (h : VarK w g e cells) (hn : n ≤ cap) (hc : cap ≤ maxLen) (hl : cells.length = cap * s) (hx : cells.take (n * s) = xs) (hxl : xs.length = n * s) : w.ownsRow B e s (.slice (some ⟨g, 0, none⟩) n cap) n xs :=
 ⟨hxl, .inr ⟨g, cap, cells.toArray, rfl, hB, h, hn, hc, by simpa using hl, by simpa using hx⟩⟩
theorem zdN {w : World} {B e s n g cap : Nat} {xs : List Value} (h : w.ownsRow B e s (.slice (some ⟨g, 0, none⟩) n cap) n xs) : At w g 0 xs := fun j u hu => by
 have := h.cells (g := g) rfl j u hu
 rw [add_none] at this; exact this
theorem VarK.cells (w : World) {g : Nat} {T : TypeId} {cells : List Value} (h : VarK w g T cells) (o : Nat) {news : List Value} (hn : ∀ j u, news[j]? = some u → cells[o + j]? = some u) : ∀ j u, news[j]? = some u → w.cell? ((⟨g, o, none⟩ : Addr).add j) = some u := fun j u hj => by
 rw [add_none]
 have := h.at (o + j) u (hn j u hj)
 simpa using this
theorem own_rowO {α : Type} {w : World} {B e s : Nat} {v : Value} {cells : α → List Value} {l : List α} (h : w.ownsRow B e s v l.length (l.flatMap cells)) : RowO w v cells l := by
 rcases own_blockK h with ⟨rfl, h0⟩ | ⟨g, cap, cs, rfl, hB, hv, _⟩
 ·exact ⟨none, 0, by rw [h0], fun hp => OM⟩
 exact ⟨some ⟨g, 0, none⟩, cap, rfl, fun _ => ⟨g, 0, rfl, hv.lt, zdN h⟩⟩
end Go.Vc
namespace Go.Vc
def patch (cells : List Value) (o : Nat) (news : List Value) : List Value := cells.take o ++ news ++ cells.drop (o + news.length)
theorem ziD {cells : List Value} {o : Nat} {news : List Value} (h : o + news.length ≤ cells.length) : (patch cells o news).length = cells.length := by
 unfold patch
 rw [yaa, yaa, yar, yau]; omega
theorem zed (A T N : List Value) (o : Nat) (h : A.length = o) : patch (A ++ T) o N = A ++ N ++ T.drop N.length := by
 unfold patch
 subst h
 rw [yaZ, List.drop_append, ybD OM, yaT, ybw]
theorem VarK.shape {w : World} {g : Nat} {T : TypeId} {cells : List Value} (h : VarK w g T cells) : w.shape? g = some (T, cells.length) := by
 unfold World.shape?
 unfold VarK at h
 rw [h]; simp
end Go.Vc
