/- Helper lemmas; no conditions of their own. -/
import Derived.Maps.AppendAt
import Derived.Lib.AppendStr
import Derived.Test.YtennokckmjcefaaGreatDoorGCw5
set_option linter.unusedVariables false
set_option maxHeartbeats 4000000
set_option maxRecDepth 100000
namespace Go.Proofs.YtennokckmjcefaaGreatDoor
open Go.RowKit Go.Pw Go.Vc Go.Cs Go.Lib
section
variable {w : World}
theorem zfH (s : ByteArray) (hs : s.size ≤ 100000000) : Calls Tryz.prog 251 #[.string s] w fun e w' => ∃ v, e = .returned v ∧ Txs w' w.heap.size v (units (L s)) ∧ Kp w w' n_ := by
 have hl := L_len s
 refine zaa (args := [.string s]) Tryz.func251 rfl NL ?_; refine GW ?_
 refine Yc (ι := Nat × Option Addr × Nat × List (List UInt8)) (fun i => [(0, .string s), (3, .slice i.2.1 i.2.2.2.length i.2.2.1), (4, .int .i64 (i.1 : Nat))])
  (fun i wr => Kp w wr n_ ∧ i.1 ≤ s.size ∧ Txs wr w.heap.size (.slice i.2.1 i.2.2.2.length i.2.2.1) i.2.2.2 ∧ units (L s) = i.2.2.2 ++ units ((L s).drop i.1) ∧ i.2.2.2.length ≤ i.1) (fun i => s.size - i.1) (0, none, 0, []) FR
  ⟨Yb _ _, yal _, World.ownsRow_nil _ _ _ _, rfl, yag _⟩ ?_
 rintro ⟨n, a, cap, d⟩ g wr ⟨hK, hn, hv, he, hd⟩
 dsimp only at hn hv he hd ⊢
 refine GW ?_
 by_cases hlt : n < s.size
 ·have hne : (L s).drop n ≠ [] := fun e => by
   have := congrArg List.length e
   rw [yau, yaE] at this; omega
  have hw := decodeL_width ((L s).drop n)
  have hle := decodeL_le _ hne
  rw [yau] at hle
  rw [zcy _ hne, yaM] at he
  refine GO ?_
  refine Ya (Tryz.call262 _ _) (ziX (w := wr) s n hlt OM) ?_
  rintro e w1 ⟨rfl, rfl⟩
  generalize (decodeL ((L s).drop n)).2 = k at *
  refine RT ?_
  refine GO ?_
  have hx : s.extract n (n + k) = str (((L s).drop n).take k) := by rw [← str_L (s.extract n (n + k)), zcn, ← List.take_drop]
  rw [hx]
  refine Ye (zey _ _) ?_
  refine GW ?_
  refine zhn hv hK.size (((L s).drop n).take k) OM fun v' w3 h3 g3 => ?_
  obtain ⟨a3, c3, rfl⟩ : ∃ a c, v' = .slice a (d ++ [((L s).drop n).take k]).length c := zab h3
  refine GO ?_
  have K3 : Kp w w3 n_ := (hK.alloc _).own (own_keep0 hv ((Yb _ _).alloc _)) (yag _) g3
  exact ⟨(n + k, a3, c3, d ++ [((L s).drop n).take k]), FR, ⟨K3, DO, h3, by dsimp only; rw [he]; simp, by simp; omega⟩, DO⟩
 refine GO ?_
 have hn0 : (L s).drop n = [] := yaP OM
 rw [hn0, znT, yaA] at he
 refine ⟨_, rfl, ?_, hK⟩
 rw [he]; exact hv
theorem zqZ (u : List UInt8) (h : IsUnit u) (h4 : u.length ≤ 4) : Calls Tryz.prog 252 #[.string (str u)] w fun e w' => e = .returned (.int .i64 ((clsN (decodeL u) : Nat) : Int)) ∧ w = w' := by
 have hsz : (str u).size = u.length := zec u
 have h0 : 0 < u.length := yaN.2 h.1
 have hb : (zaB (str u) 0).toNat < 256 := UInt8.toNat_lt _
 have hg : u.getD 0 0 = zaB (str u) 0 := rfl
 rw [← ztl u h]
 unfold clsU
 rw [hg]
 refine zaa (args := [.string (str u)]) Tryz.func252 rfl NL ?_; refine GW ?_
 by_cases h1 : u.length = 1
 ·by_cases h2 : 128 ≤ (zaB (str u) 0).toNat
  ·refine GO ?_
   rw [if_pos ⟨h1, h2⟩]
   exact ⟨rfl, rfl⟩
  refine GO ?_
  refine Ya (Tryz.call264 _ _) (zcf (w := w) (str u) OM OM) ?_
  rintro e w1 ⟨rfl, rfl⟩
  refine RT ?_
  refine Ya (Tryz.call263 _ _) (zhe _ w) ?_
  rintro e w1 ⟨rfl, rfl⟩
  refine RT ?_
  rw [if_neg OM, L_str]
  exact ⟨rfl, rfl⟩
 refine GO ?_
 refine Ya (Tryz.call264 _ _) (zcf (w := w) (str u) OM OM) ?_
 rintro e w1 ⟨rfl, rfl⟩
 refine RT ?_
 refine Ya (Tryz.call263 _ _) (zhe _ w) ?_
 rintro e w1 ⟨rfl, rfl⟩
 refine RT ?_
 rw [if_neg OM, L_str]
 exact ⟨rfl, rfl⟩
theorem zaD {c : Prop} [Decidable c] {a b : Nat} {x : Int} (h1 : c → x = (a : Nat)) (h2 : ¬ c → x = (b : Nat)) : x = ((if c then a else b : Nat) : Int) := by
 by_cases h : c
 ·rw [if_pos h]; exact h1 h
 rw [if_neg h]; exact h2 h
theorem v_low {r : Nat} {k : Int} {w : World} (h : k = (lowC r : Nat)) : Ending.returned (.int .i64 k) = Ending.returned (.int .i64 ((lowC r : Nat) : Int)) ∧ w = w := ⟨by rw [h], rfl⟩
theorem zfM (r : Nat) (hr : r ≤ 1000000000) : Calls Tryz.prog 265 #[.int .i64 (r : Nat)] w fun e w' => e = .returned (.int .i64 ((lowC r : Nat) : Int)) ∧ w = w' := by
 have htm : (r : Int).tmod 2 = ((r % 2 : Nat) : Int) := by rw [Int.tmod_eq_emod_of_nonneg OM]; rfl
 refine zaa (args := [.int .i64 (r : Nat)]) Tryz.func265 rfl NL ?_; refine GW ?_
 refine GO ?_
 refine Ya (Tryz.call269 _ _) (zaz (r : Nat) 65 90 w) ?_
 rintro e w' ⟨rfl, rfl⟩
 by_cases h1 : (65 : Int) ≤ (r : Nat) ∧ ((r : Nat) : Int) ≤ 90
 ·rw [decide_eq_true h1]
  refine RT ?_
  refine GO ?_
  refine ⟨(v_low (r := r) (w := w) ?_).1, rfl⟩
  unfold lowC
  repeat' (first | omega | refine zaD (fun _ => ?_) (fun _ => ?_))
 rw [decide_eq_false h1]
 refine RT ?_
 refine GO ?_
 refine Ya (Tryz.call269 _ _) (zaz (r : Nat) 192 222 w) ?_
 rintro e w' ⟨rfl, rfl⟩
 by_cases h2 : (192 : Int) ≤ (r : Nat) ∧ ((r : Nat) : Int) ≤ 222
 ·rw [decide_eq_true h2]
  refine RT ?_
  by_cases e2 : r = 215
  ·have hev : ¬ r % 2 = 0 := OM
   refine GO ?_
   refine Ya (Tryz.call269 _ _) (zaz (r : Nat) 913 939 w) ?_
   rintro e w' ⟨rfl, rfl⟩
   rw [decide_eq_false OM]
   refine RT ?_
   refine GO ?_
   refine Ya (Tryz.call269 _ _) (zaz (r : Nat) 1040 1071 w) ?_
   rintro e w' ⟨rfl, rfl⟩
   rw [decide_eq_false OM]
   refine RT ?_
   refine GO ?_
   refine Ya (Tryz.call269 _ _) (zaz (r : Nat) 1024 1039 w) ?_
   rintro e w' ⟨rfl, rfl⟩
   rw [decide_eq_false OM]
   refine RT ?_
   refine GO ?_
   refine Ya (Tryz.call269 _ _) (zaz (r : Nat) 313 328 w) ?_
   rintro e w' ⟨rfl, rfl⟩
   rw [decide_eq_false OM]
   refine RT ?_
   refine GO ?_
   refine Ya (Tryz.call269 _ _) (zaz (r : Nat) 377 382 w) ?_
   rintro e w' ⟨rfl, rfl⟩
   rw [decide_eq_false OM]
   refine RT ?_
   refine GO ?_
   refine Ya (Tryz.call269 _ _) (zaz (r : Nat) 904 906 w) ?_
   rintro e w' ⟨rfl, rfl⟩
   rw [decide_eq_false OM]
   refine RT ?_
   refine GO ?_
   refine ⟨(v_low (r := r) (w := w) ?_).1, rfl⟩
   unfold lowC
   repeat' (first | omega | refine zaD (fun _ => ?_) (fun _ => ?_))
  refine GO ?_
  refine ⟨(v_low (r := r) (w := w) ?_).1, rfl⟩
  unfold lowC
  repeat' (first | omega | refine zaD (fun _ => ?_) (fun _ => ?_))
 rw [decide_eq_false h2]
 refine RT ?_
 refine GO ?_
 refine Ya (Tryz.call269 _ _) (zaz (r : Nat) 913 939 w) ?_
 rintro e w' ⟨rfl, rfl⟩
 by_cases h3 : (913 : Int) ≤ (r : Nat) ∧ ((r : Nat) : Int) ≤ 939
 ·rw [decide_eq_true h3]
  refine RT ?_
  by_cases e3 : r = 930
  ·have hev : r % 2 = 0 := OM
   refine GO ?_
   refine Ya (Tryz.call269 _ _) (zaz (r : Nat) 1040 1071 w) ?_
   rintro e w' ⟨rfl, rfl⟩
   rw [decide_eq_false OM]
   refine RT ?_
   refine GO ?_
   refine Ya (Tryz.call269 _ _) (zaz (r : Nat) 1024 1039 w) ?_
   rintro e w' ⟨rfl, rfl⟩
   rw [decide_eq_false OM]
   refine RT ?_
   refine GO ?_
   refine Ya (Tryz.call269 _ _) (zaz (r : Nat) 256 303 w) ?_
   rintro e w' ⟨rfl, rfl⟩
   rw [decide_eq_false OM]
   refine RT ?_
   refine GO ?_
   refine Ya (Tryz.call269 _ _) (zaz (r : Nat) 306 311 w) ?_
   rintro e w' ⟨rfl, rfl⟩
   rw [decide_eq_false OM]
   refine RT ?_
   refine GO ?_
   refine Ya (Tryz.call269 _ _) (zaz (r : Nat) 330 375 w) ?_
   rintro e w' ⟨rfl, rfl⟩
   rw [decide_eq_false OM]
   refine RT ?_
   refine GO ?_
   refine Ya (Tryz.call269 _ _) (zaz (r : Nat) 904 906 w) ?_
   rintro e w' ⟨rfl, rfl⟩
   rw [decide_eq_false OM]
   refine RT ?_
   refine GO ?_
   refine ⟨(v_low (r := r) (w := w) ?_).1, rfl⟩
   unfold lowC
   repeat' (first | omega | refine zaD (fun _ => ?_) (fun _ => ?_))
  refine GO ?_
  refine ⟨(v_low (r := r) (w := w) ?_).1, rfl⟩
  unfold lowC
  repeat' (first | omega | refine zaD (fun _ => ?_) (fun _ => ?_))
 rw [decide_eq_false h3]
 refine RT ?_
 refine GO ?_
 refine Ya (Tryz.call269 _ _) (zaz (r : Nat) 1040 1071 w) ?_
 rintro e w' ⟨rfl, rfl⟩
 by_cases h4 : (1040 : Int) ≤ (r : Nat) ∧ ((r : Nat) : Int) ≤ 1071
 ·rw [decide_eq_true h4]
  refine RT ?_
  refine GO ?_
  refine ⟨(v_low (r := r) (w := w) ?_).1, rfl⟩
  unfold lowC
  repeat' (first | omega | refine zaD (fun _ => ?_) (fun _ => ?_))
 rw [decide_eq_false h4]
 refine RT ?_
 refine GO ?_
 refine Ya (Tryz.call269 _ _) (zaz (r : Nat) 1024 1039 w) ?_
 rintro e w' ⟨rfl, rfl⟩
 by_cases h5 : (1024 : Int) ≤ (r : Nat) ∧ ((r : Nat) : Int) ≤ 1039
 ·rw [decide_eq_true h5]
  refine RT ?_
  refine GO ?_
  refine ⟨(v_low (r := r) (w := w) ?_).1, rfl⟩
  unfold lowC
  repeat' (first | omega | refine zaD (fun _ => ?_) (fun _ => ?_))
 rw [decide_eq_false h5]
 refine RT ?_
 refine GO ?_
 by_cases hev : r % 2 = 0
 ·refine GO ?_
  refine Ya (Tryz.call269 _ _) (zaz (r : Nat) 256 303 w) ?_
  rintro e w' ⟨rfl, rfl⟩
  by_cases h6 : (256 : Int) ≤ (r : Nat) ∧ ((r : Nat) : Int) ≤ 303
  ·rw [decide_eq_true h6]
   refine RT ?_
   refine GO ?_
   refine ⟨(v_low (r := r) (w := w) ?_).1, rfl⟩
   unfold lowC
   repeat' (first | omega | refine zaD (fun _ => ?_) (fun _ => ?_))
  rw [decide_eq_false h6]
  refine RT ?_
  refine GO ?_
  refine Ya (Tryz.call269 _ _) (zaz (r : Nat) 306 311 w) ?_
  rintro e w' ⟨rfl, rfl⟩
  by_cases h7 : (306 : Int) ≤ (r : Nat) ∧ ((r : Nat) : Int) ≤ 311
  ·rw [decide_eq_true h7]
   refine RT ?_
   refine GO ?_
   refine ⟨(v_low (r := r) (w := w) ?_).1, rfl⟩
   unfold lowC
   repeat' (first | omega | refine zaD (fun _ => ?_) (fun _ => ?_))
  rw [decide_eq_false h7]
  refine RT ?_
  refine GO ?_
  refine Ya (Tryz.call269 _ _) (zaz (r : Nat) 330 375 w) ?_
  rintro e w' ⟨rfl, rfl⟩
  by_cases h8 : (330 : Int) ≤ (r : Nat) ∧ ((r : Nat) : Int) ≤ 375
  ·rw [decide_eq_true h8]
   refine RT ?_
   refine GO ?_
   refine ⟨(v_low (r := r) (w := w) ?_).1, rfl⟩
   unfold lowC
   repeat' (first | omega | refine zaD (fun _ => ?_) (fun _ => ?_))
  rw [decide_eq_false h8]
  refine RT ?_
  refine GO ?_
  by_cases e4 : r = 376
  ·refine GO ?_
   refine ⟨(v_low (r := r) (w := w) ?_).1, rfl⟩
   unfold lowC
   repeat' (first | omega | refine zaD (fun _ => ?_) (fun _ => ?_))
  by_cases e5 : r = 902
  ·refine GO ?_
   refine ⟨(v_low (r := r) (w := w) ?_).1, rfl⟩
   unfold lowC
   repeat' (first | omega | refine zaD (fun _ => ?_) (fun _ => ?_))
  refine GO ?_
  refine Ya (Tryz.call269 _ _) (zaz (r : Nat) 904 906 w) ?_
  rintro e w' ⟨rfl, rfl⟩
  by_cases h9 : (904 : Int) ≤ (r : Nat) ∧ ((r : Nat) : Int) ≤ 906
  ·rw [decide_eq_true h9]
   refine RT ?_
   refine GO ?_
   refine ⟨(v_low (r := r) (w := w) ?_).1, rfl⟩
   unfold lowC
   repeat' (first | omega | refine zaD (fun _ => ?_) (fun _ => ?_))
  rw [decide_eq_false h9]
  refine RT ?_
  refine GO ?_
  by_cases e6 : r = 908
  ·refine GO ?_
   refine ⟨(v_low (r := r) (w := w) ?_).1, rfl⟩
   unfold lowC
   repeat' (first | omega | refine zaD (fun _ => ?_) (fun _ => ?_))
  by_cases e7 : r = 910
  ·refine GO ?_
   refine ⟨(v_low (r := r) (w := w) ?_).1, rfl⟩
   unfold lowC
   repeat' (first | omega | refine zaD (fun _ => ?_) (fun _ => ?_))
  refine GO ?_
  refine ⟨(v_low (r := r) (w := w) ?_).1, rfl⟩
  unfold lowC
  repeat' (first | omega | refine zaD (fun _ => ?_) (fun _ => ?_))
 refine GO ?_
 refine Ya (Tryz.call269 _ _) (zaz (r : Nat) 313 328 w) ?_
 rintro e w' ⟨rfl, rfl⟩
 by_cases h6 : (313 : Int) ≤ (r : Nat) ∧ ((r : Nat) : Int) ≤ 328
 ·rw [decide_eq_true h6]
  refine RT ?_
  refine GO ?_
  refine ⟨(v_low (r := r) (w := w) ?_).1, rfl⟩
  unfold lowC
  repeat' (first | omega | refine zaD (fun _ => ?_) (fun _ => ?_))
 rw [decide_eq_false h6]
 refine RT ?_
 refine GO ?_
 refine Ya (Tryz.call269 _ _) (zaz (r : Nat) 377 382 w) ?_
 rintro e w' ⟨rfl, rfl⟩
 by_cases h7 : (377 : Int) ≤ (r : Nat) ∧ ((r : Nat) : Int) ≤ 382
 ·rw [decide_eq_true h7]
  refine RT ?_
  refine GO ?_
  refine ⟨(v_low (r := r) (w := w) ?_).1, rfl⟩
  unfold lowC
  repeat' (first | omega | refine zaD (fun _ => ?_) (fun _ => ?_))
 rw [decide_eq_false h7]
 refine RT ?_
 refine GO ?_
 refine Ya (Tryz.call269 _ _) (zaz (r : Nat) 904 906 w) ?_
 rintro e w' ⟨rfl, rfl⟩
 by_cases h9 : (904 : Int) ≤ (r : Nat) ∧ ((r : Nat) : Int) ≤ 906
 ·rw [decide_eq_true h9]
  refine RT ?_
  refine GO ?_
  refine ⟨(v_low (r := r) (w := w) ?_).1, rfl⟩
  unfold lowC
  repeat' (first | omega | refine zaD (fun _ => ?_) (fun _ => ?_))
 rw [decide_eq_false h9]
 refine RT ?_
 refine GO ?_
 by_cases e7 : r = 911
 ·refine GO ?_
  refine ⟨(v_low (r := r) (w := w) ?_).1, rfl⟩
  unfold lowC
  repeat' (first | omega | refine zaD (fun _ => ?_) (fun _ => ?_))
 refine GO ?_
 refine ⟨(v_low (r := r) (w := w) ?_).1, rfl⟩
 unfold lowC
 repeat' (first | omega | refine zaD (fun _ => ?_) (fun _ => ?_))
end
end Go.Proofs.YtennokckmjcefaaGreatDoor
namespace Go.Cs
open Go.Lib
theorem zcD (c : Nat) : (c < 128 ∧ (enc c).length = 1) ∨ (128 ≤ c ∧ c ≤ 2047 ∧ (enc c).length = 2) ∨ (2048 ≤ c ∧ 3 ≤ (enc c).length) := by
 unfold enc encodeRune
 by_cases h1 : c < 128
 ·rw [encodeRuneZ_one OM OM]; exact .inl ⟨h1, rfl⟩
 by_cases h2 : c ≤ 2047
 ·rw [encodeRuneZ_two OM OM]; exact .inr (.inl ⟨OM, h2, rfl⟩)
 refine .inr (.inr ⟨OM, ?_⟩)
 by_cases hb : (55296 ≤ c ∧ c ≤ 57343) ∨ 1114111 < c
 ·rw [encodeRuneZ_bad OM]; simp
 by_cases h3 : c ≤ 65535
 ·rw [encodeRuneZ_three OM]; simp
 rw [encodeRuneZ_four OM OM]; simp
set_option maxRecDepth 100000 in
theorem zrb : ∀ r : Fin 128, lowC r.val < 128 := by decide +kernel
theorem zpb (c : Nat) (h : c < 128) : lowC c < 128 := zrb ⟨c, h⟩
theorem zqO (c : Nat) (h : c ≤ 2047) (h1 : 128 ≤ c) : 128 ≤ lowC c ∧ lowC c ≤ 2047 := by
 have h2 := zjJ c
 have h3 := zcD c
 have h4 := zcD (lowC c)
 omega
theorem unit_parts (u : List UInt8) (h : IsUnit u) : (∃ b, u = [b] ∧ 128 ≤ b.toNat ∧ decodeL u = (65533, 1) ∧ head1 u = [b]) ∨ (u = enc (runeU u) ∧ head1 u = enc (lowC (runeU u)) ∧ decodeL u = (runeU u, u.length)) := by
 obtain ⟨hne, hu⟩ := h
 obtain ⟨_, hr⟩ := zgh u hne
 have ht : u.take (decodeL u).2 = u := by rw [hu, yaD]
 rw [ht] at hr
 rcases dec_whole u hne with hb | ⟨h1, h2, h3, h4⟩
 ·left
  have h1 : u.length = 1 := by rw [← hu, hb]
  obtain ⟨b, rfl⟩ : ∃ b, u = [b] := by
   match u, h1 with
   | [b], _ => exact ⟨b, rfl⟩
  refine ⟨b, rfl, ?_, hb, by unfold head1; rw [if_pos ⟨by rw [hb], by rw [hb]⟩]; rfl⟩
  rcases dec_one [b] (by rw [hb]) hne with ⟨h, _⟩ | ⟨h, h'⟩
  ·exact h
  rw [hb] at h'; simp at h'
  simp at h; omega
 right
 have hc : runeU u = (decodeL u).1 := by
  rcases hr with hr | hr
  ·rw [hr] at h4; exact (h4 ⟨rfl, rfl⟩).elim
  exact hr
 rw [hc]
 refine ⟨by rw [← h2, ht], by unfold head1; rw [if_neg h4], by rw [← hu]⟩
theorem unit1 (u : List UInt8) (h : IsUnit u) (h1 : u.length = 1) : ∃ b, u = [b] ∧ ((128 ≤ b.toNat ∧ head1 u = [b]) ∨ (b.toNat < 128 ∧ lowC b.toNat < 128 ∧ head1 u = [UInt8.ofNat (lowC b.toNat)])) := by
 rcases unit_parts u h with ⟨b, e, hb, _, hh⟩ | ⟨e, hh, _⟩
 ·exact ⟨b, e, .inl ⟨hb, hh⟩⟩
 obtain ⟨b, rfl⟩ : ∃ b, u = [b] := by
  match u, h1 with
  | [b], _ => exact ⟨b, rfl⟩
 have hr : runeU [b] = b.toNat := rfl
 rw [hr] at e hh
 have hl := congrArg List.length e
 have h3 := zcD b.toNat
 simp at hl
 refine ⟨b, rfl, .inr ⟨OM, zpb _ OM, ?_⟩⟩
 rw [hh, enc1 (zpb _ OM)]
theorem unit2 (u : List UInt8) (h : IsUnit u) (h2 : u.length = 2) : 128 ≤ lowC (runeU u) ∧ lowC (runeU u) ≤ 2047 ∧ runeU u ≤ 2047 ∧ head1 u = [UInt8.ofNat (192 + lowC (runeU u) / 64), UInt8.ofNat (128 + lowC (runeU u) % 64)] := by
 rcases unit_parts u h with ⟨b, e, hb, _, hh⟩ | ⟨e, hh, _⟩
 ·rw [e] at h2; simp at h2
 have hl := congrArg List.length e
 have h3 := zcD (runeU u)
 have h4 := zqO (runeU u) OM OM
 refine ⟨h4.1, h4.2, OM, ?_⟩
 rw [hh]
 unfold enc encodeRune
 rw [encodeRuneZ_two OM OM]
 simp only [yas, ybg]
 rw [← b2 (192 + lowC (runeU u) / 64) _ OM, ← b2 (128 + lowC (runeU u) % 64) _ OM]
theorem unit3 (u : List UInt8) (h : IsUnit u) (h3 : 3 ≤ u.length) : head1 u = u := by
 rcases unit_parts u h with ⟨b, e, hb, _, hh⟩ | ⟨e, hh, _⟩
 ·rw [e] at h3; simp at h3
 have hl := congrArg List.length e
 have h4 := zcD (runeU u)
 rw [hh, zda _ OM, ← e]
theorem zlN (u : List UInt8) (h : IsUnit u) : u.length ≤ 4 := by
 rw [← h.2]; exact zsQ u h.1
end Go.Cs
namespace Go.Proofs.YtennokckmjcefaaGreatDoor
open Go.RowKit Go.Pw Go.Vc Go.Cs Go.Lib
theorem zhZ : (Tryz.prog.info? 5).map (fun i => (i.zero, i.size, i.bytes)) = some (some (.int .u8 0), 1, 1) := by kernel_rfl
theorem Bytes.shape {w : World} {B : Nat} {v : Value} {l : List UInt8} (h : Bytes w B v l) : ∃ a cap, v = .slice a l.length cap := zab h
theorem Bytes.keep {w w' : World} {B : Nat} {v : Value} {l : List UInt8} (h : Bytes w B v l) (k : Kp w w' n_) : Bytes w' B v l := own_keep0 h k
theorem zhy (l : List UInt8) : ∀ u ∈ Go.Lib.byteCells l, u.oneCell' = true := by
 intro u hu
 obtain ⟨b, _, rfl⟩ := yay.1 hu
 rfl
theorem zjh {w : World} {K : Value → World → Prop} {B B' : Nat} {v : Value} {a : Option Addr} {c : Nat} {l l' : List UInt8} {cs : Array Bool} (h : Bytes w B v l) (hB : B ≤ w.heap.size) (h' : Bytes w B' (.slice a l'.length c) l') (h0 : 0 < l'.length)
  (hl : l.length + l'.length ≤ 1000000000000) (k : ∀ v' w', Bytes w' B v' (l ++ l') → w.grownBy w' v.ownBlock → K v' w') :
  RunN Tryz.prog (builtin .append #[91, 91] 91 cs [v, .slice a l'.length c].toArray) w K := by
 obtain ⟨g, rfl, _, _, hat⟩ := zdY h' h0
 refine RunN.app Tryz.underlying91 zhZ rfl (by decide) h hB ⟨g, 0, none⟩ l'.length c (Go.Lib.byteCells l') (by rw [Go.Lib.byteCells_length]; omega) (fun j u hj => by rw [add_none]; exact hat j u hj) (zhy _) OM OM fun v' w' h2 h3 => k v' w' ?_ h3
 unfold Bytes
 rw [yaa, Go.Lib.byteCells_append]
 exact h2
theorem zkk {w : World} {K : Value → World → Prop} {B : Nat} {v : Value} {l : List UInt8} {cs : Array Bool} (h : Bytes w B v l) (hB : B ≤ w.heap.size) (b : UInt8) (hl : l.length < 1000000000000)
  (k : ∀ v' w', Bytes w' B v' (l ++ [b]) → (w.alloc (.cells #[.int .u8 (b.toNat : Int)] 5)).grownBy w' v.ownBlock → K v' w') :
  RunN Tryz.prog (builtin .append #[91, 91] 91 cs [v, .slice (some ⟨w.heap.size, 0, none⟩) 1 1].toArray) (w.alloc (.cells #[.int .u8 (b.toNat : Int)] 5)) K := by
 have h1 := Bytes.keep h ((Yb w n_).alloc (.cells #[.int .u8 (b.toNat : Int)] 5))
 have h2 : Bytes (w.alloc (.cells #[.int .u8 (b.toNat : Int)] 5)) w.heap.size (.slice (some ⟨w.heap.size, 0, none⟩) 1 1) [b] := zlA w #[.int .u8 (b.toNat : Int)] 5 1 rfl OM
 exact zjh h1 (yaw hB ((Yb w n_).alloc _).size) (l' := [b]) h2 (by simp) (by show l.length + 1 ≤ _; omega) k
def listL (l : List UInt8) : List (List UInt8) := (wordsL l).map (·.1)
theorem zqI (x : Wd) : ∀ v ∈ wordCells x, Flat v := by
 intro v hv
 simp only [wordCells, yah, yaS, or_false] at hv
 rcases hv with rfl | rfl | rfl <;> trivial
theorem zho {w : World} (s : ByteArray) (hC : zeV w) (hF : zcv w) (hs : s.size ≤ 10000000) : Calls Tryz.prog 25 #[.string s] w fun e w' => ∃ v, e = .returned v ∧ Txs w' w.heap.size v (listL (L s)) ∧ Kp w w' n_ := by
 have hLs : (L s).length = s.size := by simp [L]
 have hwl := zds (L s)
 refine zaa (args := [.string s]) Tryz.func25 rfl NL ?_; refine GW ?_
 refine GO ?_
 refine Ya (Tryz.call86 _ _) (zpd s hC hF hs) ?_
 rintro e w1 ⟨v, rfl, hW, k1⟩
 unfold listL
 generalize wordsL (L s) = W at *
 obtain ⟨a, cap, rfl, hr⟩ := zis hW
 refine RT ?_
 refine GO ?_
 refine Yc (ι := Nat × Option Addr × Nat × List (List UInt8)) (fun i => [(3, .slice i.2.1 i.2.2.2.length i.2.2.1), (7, .slice a W.length cap), (8, .int .i64 (W.length : Nat)), (9, .int .i64 (i.1 : Nat))])
  (fun i wr => Kp w1 wr n_ ∧ i.1 ≤ W.length ∧ i.2.2.2 = (W.take i.1).map (·.1) ∧ Txs wr w1.heap.size (.slice i.2.1 i.2.2.2.length i.2.2.1) i.2.2.2) (fun i => W.length - i.1) (0, none, 0, []) FR
  ⟨Yb _ _, yal _, rfl, ?_⟩ ?_
 ·exact World.ownsRow_nil _ _ _ _
 rintro ⟨i, va, vc, l⟩ gg wr ⟨hK1, hi, hl, hT⟩
 dsimp only at hi hl hT ⊢
 have hll : l.length = i := by rw [hl]; simp; omega
 refine GW ?_
 by_cases hlt : i < W.length
 ·obtain ⟨g1, rfl, b1, h1⟩ := hr OM
  have c1 := zht (zbe h1 hK1) hlt
  refine GO ?_
  refine Load.agg (wordCells W[i]) (by rfl) (by rfl) (by rfl) c1 ?_
  refine GO ?_
  refine Yg (vs := wordCells W[i]) (by rfl) rfl (zqI _) ?_
  have c2 : (wr.alloc (.cells (wordCells W[i]).toArray 116)).cell? ⟨wr.heap.size, 0, none⟩ = some (.string (str W[i].1)) := by
   exact zgj wr (wordCells W[i]).toArray 116 0 (.string (str W[i].1)) rfl
  have k2 : Kp wr (wr.alloc (.cells (wordCells W[i]).toArray 116)) n_ := (Yb _ _).alloc _
  generalize wr.alloc (.cells (wordCells W[i]).toArray 116) = w2 at *
  refine GO ?_
  refine Ye (zey _ _) ?_
  refine GW ?_
  have hT2 : Txs w2 w1.heap.size (.slice va l.length vc) l := own_keep0 hT k2
  refine zhn hT2 (yaw hK1.size k2.size) W[i].1 OM fun v' w3 h3 g3 => ?_
  obtain ⟨a3, c3, rfl⟩ : ∃ a c, v' = .slice a (l ++ [W[i].1]).length c := zab h3
  refine GO ?_
  have K3 : Kp w1 w3 n_ := ((hK1.trans0 k2).alloc _).own (own_keep0 hT2 ((Yb _ _).alloc _)) (yag _) g3
  exact ⟨(i + 1, a3, c3, l ++ [W[i].1]), FR, ⟨K3, DO, by dsimp only; rw [List.take_succ_eq_append_getElem hlt, List.map_append, hl]; rfl, h3⟩, DO⟩
 refine GO ?_
 have e : i = W.length := OM
 rw [e, yaD] at hl
 refine ⟨_, rfl, ?_, k1.trans0 hK1⟩
 rw [← hl]
 exact own_base hT k1.size
theorem zte {w : World} {K : Value → World → Prop} {B : Nat} {v : Value} {l : List UInt8} {cs : Array Bool} (h : Bytes w B v l) (hB : B ≤ w.heap.size) (s : List UInt8) (hl : l.length + s.length ≤ 1000000000000)
  (k : ∀ v' w', Bytes w' B v' (l ++ s) → w.grownBy w' v.ownBlock → K v' w') :
  RunN Tryz.prog (builtin .append #[91, 9] 91 cs [v, .string (str s)].toArray) w K := by
 obtain ⟨i, hi, hi2⟩ := ybk.1 zhZ
 simp only [Prod.mk.injEq] at hi2
 obtain ⟨z1, z2, z3⟩ := hi2
 obtain ⟨v', w', h1, h2, h3, _⟩ := run_append_own_string (P := Tryz.prog) w B 91 9 91 5 i Tryz.underlying91 Tryz.underlying9 hi z1 z2 z3 v l.length _ h (str s) (by rw [show maxLen = 9223372036854775807 from rfl, zec]; omega) (by rw [zec]; omega) hB
 refine ⟨v', w', ?_, k v' w' ?_ h3⟩
 ·show (do pure (Next.value (← Builtin.append_ #[91, 9] 91 #[v, .string (str s)])) : Sem Next).run Tryz.prog _ = _
  simp [h1]
 unfold Bytes
 rw [yaa, Go.Lib.byteCells_append]
 exact h2
section
variable {w : World}
theorem zmH (s : ByteArray) (hs : s.size ≤ 100000000) : Calls Tryz.prog 253 #[.string s] w fun e w' => e = .returned (.string (str (foldL (L s)))) ∧ Kp w w' n_ := by
 have hl := L_len s
 have hul := zil (L s)
 have hun := zgy (L s)
 rw [zmG]
 refine zaa (args := [.string s]) Tryz.func253 rfl NL ?_; refine GW ?_
 refine Ya (Tryz.call251 _ _) (zfH (w := w) s hs) ?_
 rintro e w1 ⟨v1, rfl, hU, k1⟩
 generalize units (L s) = U at *
 obtain ⟨au, cu, rfl, hrd⟩ := zis hU
 refine RT ?_
 refine GO ?_
 refine Yc (ι := Nat × Option Addr × Nat × List UInt8) (fun i => [(3, .slice au U.length cu), (4, .slice i.2.1 i.2.2.2.length i.2.2.1), (5, .int .i64 (i.1 : Nat))])
  (fun i wr => Kp w1 wr n_ ∧ i.1 ≤ U.length ∧ Bytes wr w1.heap.size (.slice i.2.1 i.2.2.2.length i.2.2.1) i.2.2.2 ∧ i.2.2.2 = (U.take i.1).flatMap head1 ∧ i.2.2.2.length ≤ 4 * i.1) (fun i => U.length - i.1) (0, none, 0, []) FR
  ⟨Yb _ _, yal _, World.ownsRow_nil _ _ _ _, rfl, yag _⟩ ?_
 rintro ⟨n, b, bc, d⟩ g wr ⟨hK, hn, hv, he, hd⟩
 dsimp only at hn hv he hd ⊢
 refine GW ?_
 by_cases hlt : n < U.length
 ·obtain ⟨gu, rfl, hg, hat⟩ := hrd OM
  have c0 : wr.cell? ⟨gu, 0 + n, none⟩ = some (.string (str U[n])) := znJ (zbe hat hK) hlt
  have hu := hun U[n] (yak hlt)
  have hstep : (U.take (n + 1)).flatMap head1 = (U.take n).flatMap head1 ++ head1 U[n] := by
   rw [yad hlt, yaC]; simp
  have hul1 := zlN _ hu
  have hul0 : 0 < U[n].length := yaN.2 hu.1
  have hu1 := unit1 U[n] hu
  have hu2 := unit2 U[n] hu
  have hu3 := unit3 U[n] hu
  generalize U[n] = u at *
  have hsz : (str u).size = u.length := zec u
  by_cases q1 : u.length = 1
  ·obtain ⟨x, rfl, hx⟩ := hu1 q1
   have hb : zaB (str [x]) 0 = x := rfl
   have hx0 := UInt8.toNat_lt x
   refine GO ?_
   rw [hb, wrap_i64 _ OM]
   rcases hx with ⟨h128, hh⟩ | ⟨h128, hlow, hh⟩
   ·refine GO ?_
    rw [zfp _ OM]
    refine Ye (zlr _ _) ?_
    refine GO ?_
    refine zkk hv hK.size x OM fun v' w' h3 hg3 => ?_
    obtain ⟨a3, c3, rfl⟩ := h3.shape
    have K3 := (hK.alloc (.cells #[.int .u8 (x.toNat : Int)] 5)).own (hv.keep ((Yb _ _).alloc _)) (yag _) hg3
    refine GO ?_
    exact ⟨(n + 1, a3, c3, d ++ [x]), FR, ⟨K3, DO, h3, by dsimp only; rw [he, hstep, hh], by simp; omega⟩, DO⟩
   refine GO ?_
   refine Ya (Tryz.call265 _ _) (zfM (w := wr) x.toNat OM) ?_
   rintro e w2 ⟨rfl, rfl⟩
   refine RT ?_
   refine GO ?_
   have e8 : ((lowC x.toNat : Nat) : Int) = (((UInt8.ofNat (lowC x.toNat)).toNat : Nat) : Int) := by
    rw [UInt8.toNat_ofNat']; omega
   rw [zfp _ OM, e8]
   refine Ye (zlr _ _) ?_
   refine GO ?_
   refine zkk hv hK.size (UInt8.ofNat (lowC x.toNat)) OM fun v' w' h3 hg3 => ?_
   obtain ⟨a3, c3, rfl⟩ := h3.shape
   have K3 := (hK.alloc (.cells #[.int .u8 ((UInt8.ofNat (lowC x.toNat)).toNat : Int)] 5)).own (hv.keep ((Yb _ _).alloc _)) (yag _) hg3
   refine GO ?_
   exact ⟨(n + 1, a3, c3, d ++ [UInt8.ofNat (lowC x.toNat)]), FR, ⟨K3, DO, h3, by dsimp only; rw [he, hstep, hh], by simp; omega⟩, DO⟩
  by_cases q2 : u.length = 2
  ·obtain ⟨hl1, hl2, hr2, hh⟩ := hu2 q2
   refine GO ?_
   refine Ya (Tryz.call264 _ _) (zcf (w := wr) (str u) OM OM) ?_
   rintro e w2 ⟨rfl, rfl⟩
   rw [L_str]
   refine RT ?_
   refine Ya (Tryz.call265 _ _) (zfM (w := wr) (runeU u) OM) ?_
   rintro e w2 ⟨rfl, rfl⟩
   refine RT ?_
   generalize lowC (runeU u) = r at *
   have e1 : (r : Int).tdiv 64 = ((r / 64 : Nat) : Int) := by rw [Int.tdiv_eq_ediv_of_nonneg OM]; rfl
   have e2 : (r : Int).tmod 64 = ((r % 64 : Nat) : Int) := by rw [Int.tmod_eq_emod_of_nonneg OM]; rfl
   have e3 : (192 : Int) + ((r / 64 : Nat) : Int) = (((UInt8.ofNat (192 + r / 64)).toNat : Nat) : Int) := by
    rw [UInt8.toNat_ofNat']; omega
   have e4 : (128 : Int) + ((r % 64 : Nat) : Int) = (((UInt8.ofNat (128 + r % 64)).toNat : Nat) : Int) := by
    rw [UInt8.toNat_ofNat']; omega
   rw [e1, wrap_i64 _ OM]
   refine GO ?_
   rw [zfp _ OM, e2, e3, e4]
   refine GO ?_
   rw [zfp _ (by have := UInt8.toNat_lt (UInt8.ofNat (128 + r % 64)); omega)]
   refine Ye (zqL _ _ _) ?_
   refine GO ?_
   refine zjh (hv.keep ((Yb _ _).alloc _)) (yaw hK.size ((Yb wr n_).alloc _).size) (l' := [UInt8.ofNat (192 + r / 64), UInt8.ofNat (128 + r % 64)]) (zlA wr #[.int .u8 ((UInt8.ofNat (192 + r / 64)).toNat : Int), .int .u8 ((UInt8.ofNat (128 + r % 64)).toNat : Int)] 5 2 rfl OM) (by simp) (by simp; omega) fun v' w' h3 hg3 => ?_
   obtain ⟨a3, c3, rfl⟩ := h3.shape
   have K3 := (hK.alloc _).own (hv.keep ((Yb _ _).alloc _)) (yag _) hg3
   refine GO ?_
   exact ⟨(n + 1, a3, c3, d ++ [UInt8.ofNat (192 + r / 64), UInt8.ofNat (128 + r % 64)]), FR, ⟨K3, DO, h3, by dsimp only; rw [he, hstep, hh], by simp; omega⟩, DO⟩
  rw [hu3 OM] at hstep
  refine GO ?_
  refine zte hv hK.size u OM fun v' w' h3 hg3 => ?_
  obtain ⟨a3, c3, rfl⟩ := h3.shape
  have K3 := hK.own hv (yag _) hg3
  refine GO ?_
  exact ⟨(n + 1, a3, c3, d ++ u), FR, ⟨K3, DO, h3, by dsimp only; rw [he, hstep], by simp; omega⟩, DO⟩
 refine GO ?_
 have hnn : n = U.length := OM
 subst hnn
 rw [yaD] at he
 refine RunV.str (l := d) Tryz.underlying91 Tryz.underlying5 Tryz.underlying9 hv ?_
 refine GW ?_
 refine ⟨zom ?_, k1.trans0 hK⟩
 rw [he]; rfl
end
end Go.Proofs.YtennokckmjcefaaGreatDoor
