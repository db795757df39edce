/- Helper lemmas; no conditions of their own. -/
import Derived.Lib.SlicesCompact
import Derived.Sort.Grow
import Derived.Sort.EncStr
import Derived.Test.YtennokckmjcefaaGreatDoorGRowP
set_option linter.unusedVariables false
set_option maxHeartbeats 4000000
namespace Go.Cs
open Go.Lib
def unF : Nat → List UInt8 → List (List UInt8)
 | 0, _ => []
 | _ + 1, [] => []
 | n + 1, b :: t => (b :: t).take (decodeL (b :: t)).2 :: unF n ((b :: t).drop (decodeL (b :: t)).2)
def units (l : List UInt8) : List (List UInt8) := unF l.length l
theorem zkO : ∀ (n m : Nat) (l : List UInt8), l.length ≤ n → l.length ≤ m → unF n l = unF m l
 | 0, m, l, hn, _ => by
  have : l = [] := yan OM
  subst this
  cases m <;> rfl
 | n + 1, 0, l, _, hm => by
  have : l = [] := yan OM
  subst this; rfl
 | n + 1, m + 1, [], _, _ => rfl
 | n + 1, m + 1, b :: t, hn, hm => by
  have hw := decodeL_width (b :: t)
  simp only [unF]
  rw [zkO n m _ (by rw [yau]; omega) (by rw [yau]; omega)]
theorem znT : units [] = [] := rfl
theorem zcy (l : List UInt8) (hne : l ≠ []) : units l = l.take (decodeL l).2 :: units (l.drop (decodeL l).2) := by
 obtain ⟨b, t, rfl⟩ := yaI hne
 have hw := decodeL_width (b :: t)
 show (b :: t).take (decodeL (b :: t)).2 :: unF t.length _ = _
 rw [zkO t.length ((b :: t).drop (decodeL (b :: t)).2).length _ (by rw [yau, yab]; omega) (yag _)]
 rfl
def IsUnit (u : List UInt8) : Prop := u ≠ [] ∧ (decodeL u).2 = u.length
theorem zdC (l : List UInt8) (hne : l ≠ []) : IsUnit (l.take (decodeL l).2) ∧ decodeL (l.take (decodeL l).2) = decodeL l := by
 have hw := decodeL_width l
 have hl := decodeL_le l hne
 have h0 := yaN.2 hne
 have h := zlH l (decodeL l).2 hne (yag _)
 refine ⟨⟨fun e => ?_, ?_⟩, h⟩
 ·have := congrArg List.length e
  rw [yar, yaE] at this; omega
 rw [h, yar]; omega
theorem zgy (l : List UInt8) : ∀ u ∈ units l, IsUnit u := by
 induction l using zcR with
 | nil => intro u hu; cases hu
 | step l hne ih =>
  intro u hu
  rw [zcy l hne] at hu
  rcases yah.1 hu with rfl | hu
  ·exact (zdC l hne).1
  exact ih u hu
theorem zhQ (l : List UInt8) : us l = (units l).map fun u => (clsN (decodeL u), u.length) := by
 induction l using zcR with
 | nil => rfl
 | step l hne ih =>
  have hl := decodeL_le l hne
  rw [zcy l hne, us_step l hne, yas, ih, (zdC l hne).2, yar, yaJ hl]
theorem zmG (l : List UInt8) : foldL l = (units l).flatMap head1 := by
 induction l using zcR with
 | nil => rfl
 | step l hne ih =>
  have hl := decodeL_le l hne
  have hw := decodeL_width l
  rw [zcy l hne, zbi l hne, yao, ih]
  congr 1
  unfold head1
  rw [(zdC l hne).2]
  obtain ⟨b, t, rfl⟩ := yaI hne
  congr 2
  obtain ⟨k, hk⟩ : ∃ k, (decodeL (b :: t)).2 = k + 1 := ⟨(decodeL (b :: t)).2 - 1, OM⟩
  rw [hk]; rfl
theorem zil (l : List UInt8) : (units l).length ≤ l.length := by
 induction l using zcR with
 | nil => exact yag _
 | step l hne ih =>
  have hw := decodeL_width l
  have hl := decodeL_le l hne
  rw [yau] at ih
  rw [zcy l hne, yab]; omega
def runeU (u : List UInt8) : Nat :=
 if u.length = 1 then (u.getD 0 0).toNat
 else if u.length = 2 then (u.getD 0 0).toNat % 32 * 64 + (u.getD 1 0).toNat % 64
 else if u.length = 3 then (u.getD 0 0).toNat % 16 * 4096 + (u.getD 1 0).toNat % 64 * 64 + (u.getD 2 0).toNat % 64
 else (u.getD 0 0).toNat % 8 * 262144 + (u.getD 1 0).toNat % 64 * 4096 + (u.getD 2 0).toNat % 64 * 64 + (u.getD 3 0).toNat % 64
def need (l : List UInt8) : Nat := if 194 ≤ (l.getD 0 0).toNat ∧ (l.getD 0 0).toNat ≤ 223 then 2 else if 224 ≤ (l.getD 0 0).toNat ∧ (l.getD 0 0).toNat ≤ 239 then 3 else if 240 ≤ (l.getD 0 0).toNat ∧ (l.getD 0 0).toNat ≤ 244 then 4 else 1
def lowN (n : Nat) : Nat := if n = 2 then 128 else if n = 3 then 2048 else if n = 4 then 65536 else 0
def contB (l : List UInt8) (i : Nat) : Prop := 128 ≤ (l.getD i 0).toNat ∧ (l.getD i 0).toNat ≤ 191
instance (l : List UInt8) (i : Nat) : Decidable (contB l i) := by unfold contB; infer_instance
theorem getD_take (l : List UInt8) (n i : Nat) (h : i < n) : (l.take n).getD i 0 = l.getD i 0 := by
 rw [List.getD_eq_getElem?_getD, List.getD_eq_getElem?_getD, List.getElem?_take_of_lt h]
def badC (l : List UInt8) (n : Nat) : Prop := (2 ≤ n ∧ ¬ contB l 1) ∨ (3 ≤ n ∧ ¬ contB l 2) ∨ (4 ≤ n ∧ ¬ contB l 3)
instance (l : List UInt8) (n : Nat) : Decidable (badC l n) := by unfold badC; infer_instance
def refLen (l : List UInt8) : Nat :=
 if need l = 1 ∨ l.length < need l then 1
 else if badC l (need l) then 1
 else if runeU (l.take (need l)) < lowN (need l) ∨ 1114111 < runeU (l.take (need l)) ∨ (55296 ≤ runeU (l.take (need l)) ∧ runeU (l.take (need l)) ≤ 57343) then 1
 else need l
theorem ztL (l : List UInt8) (h : 2 ≤ l.length) : runeU (l.take 2) = (l.getD 0 0).toNat % 32 * 64 + (l.getD 1 0).toNat % 64 := by
 unfold runeU
 rw [yar, yaJ h, if_neg OM, if_pos rfl, getD_take l 2 0 OM, getD_take l 2 1 OM]
theorem zus (l : List UInt8) (h : 3 ≤ l.length) : runeU (l.take 3) = (l.getD 0 0).toNat % 16 * 4096 + (l.getD 1 0).toNat % 64 * 64 + (l.getD 2 0).toNat % 64 := by
 unfold runeU
 rw [yar, yaJ h, if_neg OM, if_neg OM, if_pos rfl, getD_take l 3 0 OM, getD_take l 3 1 OM, getD_take l 3 2 OM]
theorem ztW (l : List UInt8) (h : 4 ≤ l.length) : runeU (l.take 4) = (l.getD 0 0).toNat % 8 * 262144 + (l.getD 1 0).toNat % 64 * 4096 + (l.getD 2 0).toNat % 64 * 64 + (l.getD 3 0).toNat % 64 := by
 unfold runeU
 rw [yar, yaJ h, if_neg OM, if_neg OM, if_neg OM, getD_take l 4 0 OM, getD_take l 4 1 OM, getD_take l 4 2 OM, getD_take l 4 3 OM]
theorem zgh (l : List UInt8) (hne : l ≠ []) : refLen l = (decodeL l).2 ∧ (decodeL l = (65533, 1) ∨ runeU (l.take (decodeL l).2) = (decodeL l).1) := by
 have hl0 : 0 < l.length := yaN.2 hne
 rw [decodeL_N]
 unfold refLen
 have h0 := UInt8.toNat_lt (l.getD 0 0)
 have hr1 : runeU (l.take 1) = (l.getD 0 0).toNat := by
  unfold runeU
  rw [yar, yaJ hl0, if_pos rfl, getD_take l 1 0 OM]
 have hr2 := ztL l
 have hr3 := zus l
 have hr4 := ztW l
 have hc1 : contB l 1 ↔ (128 ≤ (l.getD 1 0).toNat ∧ (l.getD 1 0).toNat ≤ 191) := Iff.rfl
 have hc2 : contB l 2 ↔ (128 ≤ (l.getD 2 0).toNat ∧ (l.getD 2 0).toNat ≤ 191) := Iff.rfl
 have hc3 : contB l 3 ↔ (128 ≤ (l.getD 3 0).toNat ∧ (l.getD 3 0).toNat ≤ 191) := Iff.rfl
 have hnd : need l = if 194 ≤ (l.getD 0 0).toNat ∧ (l.getD 0 0).toNat ≤ 223 then 2 else if 224 ≤ (l.getD 0 0).toNat ∧ (l.getD 0 0).toNat ≤ 239 then 3 else if 240 ≤ (l.getD 0 0).toNat ∧ (l.getD 0 0).toNat ≤ 244 then 4 else 1 := rfl
 have h1 := UInt8.toNat_lt (l.getD 1 0)
 have h2 := UInt8.toNat_lt (l.getD 2 0)
 have h3 := UInt8.toNat_lt (l.getD 3 0)
 generalize (l.getD 0 0).toNat = x0 at *
 generalize (l.getD 1 0).toNat = x1 at *
 generalize (l.getD 2 0).toNat = x2 at *
 generalize (l.getD 3 0).toNat = x3 at *
 generalize l.length = n at *
 by_cases hA : x0 < 128
 ·have hD : decodeN n x0 x1 x2 x3 = (x0, 1) := by unfold decodeN; rw [if_pos hA]
  rw [hD, if_pos (.inl (by rw [hnd, if_neg OM, if_neg OM, if_neg OM]))]
  exact ⟨rfl, .inr hr1⟩
 by_cases hB : 194 ≤ x0 ∧ x0 ≤ 223
 ·rw [if_pos hB] at hnd
  rw [hnd]
  by_cases hl : n < 2
  ·have hD : decodeN n x0 x1 x2 x3 = (65533, 1) := by unfold decodeN; rw [if_neg OM, if_neg OM, if_neg OM, if_neg OM]
   rw [hD, if_pos (.inr hl)]
   exact ⟨rfl, .inl rfl⟩
  have hb2 : badC l 2 ↔ ¬ contB l 1 := by unfold badC; simp
  by_cases hc : 128 ≤ x1 ∧ x1 ≤ 191
  ·have hD : decodeN n x0 x1 x2 x3 = (x0 % 32 * 64 + x1 % 64, 2) := by unfold decodeN; rw [if_neg hA, if_pos OM, if_pos OM]
   rw [hD, if_neg OM, if_neg (fun h => hb2.1 h (hc1.2 hc)), hr2 OM, show lowN 2 = 128 from rfl, if_neg OM]
   exact ⟨rfl, .inr rfl⟩
  have hD : decodeN n x0 x1 x2 x3 = (65533, 1) := by unfold decodeN; rw [if_neg hA, if_neg OM, if_neg OM, if_neg OM]
  rw [hD, if_neg OM, if_pos (hb2.2 fun h => hc (hc1.1 h))]
  exact ⟨rfl, .inl rfl⟩
 by_cases hC : 224 ≤ x0 ∧ x0 ≤ 239
 ·rw [if_neg hB, if_pos hC] at hnd
  rw [hnd]
  by_cases hl : n < 3
  ·have hD : decodeN n x0 x1 x2 x3 = (65533, 1) := by unfold decodeN; rw [if_neg OM, if_neg OM, if_neg OM, if_neg OM]
   rw [hD, if_pos (.inr hl)]
   exact ⟨rfl, .inl rfl⟩
  have hb3 : badC l 3 ↔ (¬ contB l 1 ∨ ¬ contB l 2) := by unfold badC; simp
  by_cases hc : (128 ≤ x1 ∧ x1 ≤ 191) ∧ 128 ≤ x2 ∧ x2 ≤ 191
  ·rw [if_neg OM, if_neg (fun h => (hb3.1 h).elim (fun h => h (hc1.2 hc.1)) (fun h => h (hc2.2 hc.2))), hr3 OM, show lowN 3 = 2048 from rfl]
   by_cases hv : x0 % 16 * 4096 + x1 % 64 * 64 + x2 % 64 < 2048 ∨ 1114111 < x0 % 16 * 4096 + x1 % 64 * 64 + x2 % 64 ∨ (55296 ≤ x0 % 16 * 4096 + x1 % 64 * 64 + x2 % 64 ∧ x0 % 16 * 4096 + x1 % 64 * 64 + x2 % 64 ≤ 57343)
   ·have hD : decodeN n x0 x1 x2 x3 = (65533, 1) := by unfold decodeN; rw [if_neg hA, if_neg OM, if_pos OM, if_neg OM]
    rw [if_pos hv, hD]
    exact ⟨rfl, .inl rfl⟩
   have hD : decodeN n x0 x1 x2 x3 = (x0 % 16 * 4096 + x1 % 64 * 64 + x2 % 64, 3) := by unfold decodeN; rw [if_neg hA, if_neg OM, if_pos OM, if_pos OM]
   rw [if_neg hv, hD]
   exact ⟨rfl, .inr (hr3 OM)⟩
  have hD : decodeN n x0 x1 x2 x3 = (65533, 1) := by unfold decodeN; rw [if_neg hA, if_neg OM, if_neg OM, if_neg OM]
  rw [hD, if_neg OM, if_pos (by rw [hb3, hc1, hc2]; omega)]
  exact ⟨rfl, .inl rfl⟩
 by_cases hD4 : 240 ≤ x0 ∧ x0 ≤ 244
 ·rw [if_neg hB, if_neg hC, if_pos hD4] at hnd
  rw [hnd]
  by_cases hl : n < 4
  ·have hD : decodeN n x0 x1 x2 x3 = (65533, 1) := by unfold decodeN; rw [if_neg OM, if_neg OM, if_neg OM, if_neg OM]
   rw [hD, if_pos (.inr hl)]
   exact ⟨rfl, .inl rfl⟩
  have hb4 : badC l 4 ↔ (¬ contB l 1 ∨ ¬ contB l 2 ∨ ¬ contB l 3) := by unfold badC; simp
  by_cases hc : (128 ≤ x1 ∧ x1 ≤ 191) ∧ (128 ≤ x2 ∧ x2 ≤ 191) ∧ 128 ≤ x3 ∧ x3 ≤ 191
  ·rw [if_neg OM, if_neg (fun h => (hb4.1 h).elim (fun h => h (hc1.2 hc.1)) (fun h => h.elim (fun h => h (hc2.2 hc.2.1)) (fun h => h (hc3.2 hc.2.2)))), hr4 OM, show lowN 4 = 65536 from rfl]
   by_cases hv : x0 % 8 * 262144 + x1 % 64 * 4096 + x2 % 64 * 64 + x3 % 64 < 65536 ∨ 1114111 < x0 % 8 * 262144 + x1 % 64 * 4096 + x2 % 64 * 64 + x3 % 64
   ·have hD : decodeN n x0 x1 x2 x3 = (65533, 1) := by unfold decodeN; rw [if_neg hA, if_neg OM, if_neg OM, if_pos OM, if_neg OM]
    rw [if_pos OM, hD]
    exact ⟨rfl, .inl rfl⟩
   have hD : decodeN n x0 x1 x2 x3 = (x0 % 8 * 262144 + x1 % 64 * 4096 + x2 % 64 * 64 + x3 % 64, 4) := by unfold decodeN; rw [if_neg hA, if_neg OM, if_neg OM, if_pos OM, if_pos OM]
   rw [if_neg OM, hD]
   exact ⟨rfl, .inr (hr4 OM)⟩
  have hD : decodeN n x0 x1 x2 x3 = (65533, 1) := by unfold decodeN; rw [if_neg hA, if_neg OM, if_neg OM, if_neg OM]
  rw [hD, if_neg OM, if_pos (by rw [hb4, hc1, hc2, hc3]; omega)]
  exact ⟨rfl, .inl rfl⟩
 rw [if_neg hB, if_neg hC, if_neg hD4] at hnd
 rw [if_pos (.inl hnd)]
 have hD : decodeN n x0 x1 x2 x3 = (65533, 1) := by
  unfold decodeN
  rw [if_neg hA]
  have h1 : ¬ (x0 / 16 = 14) := OM
  have h2 : ¬ (x0 % 8 * 262144 + x1 % 64 * 4096 + x2 % 64 * 64 + x3 % 64 ≥ 65536 ∧ (x0 % 8 * 262144 + x1 % 64 * 4096 + x2 % 64 * 64 + x3 % 64 < 55296 ∨ (57344 ≤ x0 % 8 * 262144 + x1 % 64 * 4096 + x2 % 64 * 64 + x3 % 64 ∧ x0 % 8 * 262144 + x1 % 64 * 4096 + x2 % 64 * 64 + x3 % 64 ≤ 1114111))) ∨ ¬ x0 / 8 = 30 := OM
  by_cases ha : x0 / 32 = 6 ∧ (1 < n ∧ x1 / 64 = 2)
  ·rw [if_pos ha, if_neg OM]
  rw [if_neg ha, if_neg (fun h => h1 h.1)]
  split
  ·rename_i h
   rcases h2 with h2 | h2
   ·rw [if_neg h2]
   exact (h2 h.1).elim
  rfl
 rw [hD]
 exact ⟨rfl, .inl rfl⟩
theorem zpN (c : Nat) (h1 : ¬ c < 128) : 2 ≤ (enc c).length := by
 unfold enc encodeRune
 by_cases h2 : c ≤ 2047
 ·rw [encodeRuneZ_two OM OM]; simp
 by_cases hb : (55296 ≤ c ∧ c ≤ 57343) ∨ 1114111 < c
 ·rw [encodeRuneZ_bad OM]; simp
 by_cases h3 : c ≤ 65535
 ·rw [encodeRuneZ_three OM]; simp
 rw [encodeRuneZ_four OM OM]; simp
def clsU (u : List UInt8) : Nat := if u.length = 1 ∧ 128 ≤ (u.getD 0 0).toNat then 0 else kindN (runeU u)
theorem dec_one (l : List UInt8) (h : (decodeL l).2 = 1) (hne : l ≠ []) : (128 ≤ (l.getD 0 0).toNat ∧ decodeL l = (65533, 1)) ∨ ((l.getD 0 0).toNat < 128 ∧ decodeL l = ((l.getD 0 0).toNat, 1)) := by
 by_cases h0 : (l.getD 0 0).toNat < 128
 ·refine .inr ⟨h0, ?_⟩
  rw [decodeL_N]; unfold decodeN; rw [if_pos h0]
 refine .inl ⟨OM, ?_⟩
 rcases dec_whole l hne with h' | ⟨h1, h2, h3, _⟩
 ·exact h'
 exfalso
 rw [h] at h2 h3
 have hl0 : 0 < l.length := yaN.2 hne
 have hd := zfN _ h1 (l.drop 1)
 rw [← h2, yaB] at hd
 have h4 : (decodeL l).1 < 128 ∨ ¬ (decodeL l).1 < 128 := OM
 rcases h4 with h4 | h4
 ·rw [enc1 h4] at h2
  have := congrArg (fun x => (x.getD 0 0).toNat) h2
  simp only [getD_take l 1 0 OM, yaR] at this
  rw [this] at h0
  simp at h0
  omega
 have := zpN _ h4
 omega
theorem ztl (u : List UInt8) (h : IsUnit u) : clsU u = clsN (decodeL u) := by
 obtain ⟨hne, hu⟩ := h
 have ht : u.take (decodeL u).2 = u := by rw [hu, yaD]
 obtain ⟨_, hr⟩ := zgh u hne
 rw [ht] at hr
 rw [zfV]
 unfold clsU
 by_cases h1 : u.length = 1
 ·rcases dec_one u OM hne with ⟨h2, h3⟩ | ⟨h2, h3⟩
  ·rw [if_pos ⟨h1, h2⟩, h3]; rfl
  rw [if_neg OM, h3]
  unfold runeU; rw [if_pos h1]
 rw [if_neg OM]
 rcases hr with hr | hr
 ·rw [hr] at hu; exact (h1 hu.symm).elim
 rw [hr]
def refW : List (Nat × Nat) → Nat → List (Nat × Nat) → Bool → List (Nat × Nat)
 | [], _, out, _ => out
 | (k, n) :: r, at_, out, op =>
  refW r (at_ + n) (if k = 1 ∧ op = true ∧ (out.getLastD (0, 0)).2 - (out.getLastD (0, 0)).1 + n ≤ 40 then out.dropLast ++ [((out.getLastD (0, 0)).1, (out.getLastD (0, 0)).2 + n)] else if 0 < k then out ++ [(at_, at_ + n)] else out) (decide (k = 1))
theorem znI : ∀ (u : List (Nat × Nat)), (∀ q ∈ u, q.1 ≤ 2) → ∀ (p : Nat) (C : List (Nat × Nat)), refW u p C false = C ++ wd u p none ∧ ∀ a, a ≤ p → refW u p (C ++ [(a, p)]) true = C ++ wd u p (some a)
 | [], _, p, C => ⟨by simp [refW, wd, close], fun a ha => by simp [refW, wd, close]⟩
 | (k, n) :: r, hk, p, C => by
  have ih := znI r fun q hq => hk q (by simp [hq])
  have hk0 : k ≤ 2 := hk (k, n) (by simp)
  have h012 : k = 0 ∨ k = 1 ∨ k = 2 := OM
  rcases h012 with rfl | rfl | rfl
  ·refine ⟨?_, fun a ha => ?_⟩
   ·rw [refW, if_neg OM, if_neg OM, wd_0, show decide ((0 : Nat) = 1) = false from rfl, (ih _ _).1]; rfl
   rw [refW, if_neg OM, if_neg OM, wd_0, show decide ((0 : Nat) = 1) = false from rfl, (ih _ _).1]
   simp [close]
  ·refine ⟨?_, fun a ha => ?_⟩
   ·rw [refW, if_neg (by simp), if_pos OM, wd_1n, show decide ((1 : Nat) = 1) = true from rfl, (ih _ _).2 p OM]
   rw [refW, wd_1s, show decide ((1 : Nat) = 1) = true from rfl, List.getLastD_concat, List.dropLast_concat]
   by_cases h40 : 40 < p + n - a
   ·rw [if_neg (by simp; omega), if_pos OM, if_pos h40, (ih _ _).2 p OM]
    simp
   rw [if_pos ⟨rfl, rfl, by simp; omega⟩, if_neg h40, (ih _ _).2 a OM]
  refine ⟨?_, fun a ha => ?_⟩
  ·rw [refW, if_neg OM, if_pos OM, wd_2, show decide ((2 : Nat) = 1) = false from rfl, (ih _ _).1]
   simp [close]
  rw [refW, if_neg OM, if_pos OM, wd_2, show decide ((2 : Nat) = 1) = false from rfl, (ih _ _).1]
  simp [close]
structure STO {α : Type} (lt : α → α → Bool) : Prop where
 irr : ∀ a, lt a a = false
 tr : ∀ a b c, lt a b = true → lt b c = true → lt a c = true
 tri : ∀ a b, lt a b = false → lt b a = false → a = b
def insD {α : Type} (lt : α → α → Bool) (x : α) : List α → List α
 | [] => [x]
 | y :: r => if lt y x = true then y :: insD lt x r else if lt x y = true then x :: y :: r else y :: r
def sortD {α : Type} (lt : α → α → Bool) (l : List α) : List α := l.foldl (fun a x => insD lt x a) []
def AscB {α : Type} (lt : α → α → Bool) (l : List α) : Prop := l.Pairwise fun a b => lt a b = true
section
variable {α : Type} {lt : α → α → Bool}
theorem zhK (h : STO lt) (x z : α) : ∀ l : List α, z ∈ insD lt x l ↔ z = x ∨ z ∈ l
 | [] => by simp [insD]
 | y :: r => by
  unfold insD
  split
  ·rw [yah, zhK h x z r, yah]
   constructor
   ·rintro (e | e | e)
    ·exact .inr (.inl e)
    ·exact .inl e
    exact .inr (.inr e)
   rintro (e | e | e)
   ·exact .inr (.inl e)
   ·exact .inl e
   exact .inr (.inr e)
  rename_i h1
  split
  ·simp
  rename_i h2
  obtain rfl : y = x := h.tri y x (by simpa using h1) (by simpa using h2)
  simp
theorem zlq (h : STO lt) (x : α) : ∀ l : List α, AscB lt l → AscB lt (insD lt x l)
 | [], _ => by simp [insD, AscB]
 | y :: r, hl => by
  obtain ⟨h1, h2⟩ := yam.1 hl
  unfold insD
  split
  ·rename_i hy
   refine yam.2 ⟨fun z hz => ?_, zlq h x r h2⟩
   rcases (zhK h x z r).1 hz with rfl | hz
   ·exact hy
   exact h1 z hz
  split
  ·rename_i hy
   refine yam.2 ⟨fun z hz => ?_, hl⟩
   rcases yah.1 hz with rfl | hz
   ·exact hy
   exact h.tr _ _ _ hy (h1 z hz)
  exact hl
theorem zhO (h : STO lt) : ∀ (l a : List α), AscB lt a → AscB lt (l.foldl (fun a x => insD lt x a) a) ∧ ∀ z, z ∈ l.foldl (fun a x => insD lt x a) a ↔ z ∈ a ∨ z ∈ l
 | [], a, ha => ⟨ha, by simp⟩
 | x :: l, a, ha => by
  obtain ⟨h1, h2⟩ := zhO h l (insD lt x a) (zlq h x a ha)
  refine ⟨h1, fun z => ?_⟩
  rw [ybC, h2, zhK h, yah]
  constructor
  ·rintro ((e | e) | e)
   ·exact .inr (.inl e)
   ·exact .inl e
   exact .inr (.inr e)
  rintro (e | e | e)
  ·exact .inl (.inr e)
  ·exact .inl (.inl e)
  exact .inr e
theorem asc_sortD (h : STO lt) (l : List α) : AscB lt (sortD lt l) := (zhO h l [] .nil).1
theorem zbd (h : STO lt) (l : List α) (z : α) : z ∈ sortD lt l ↔ z ∈ l := by
 rw [show z ∈ sortD lt l ↔ _ from (zhO h l [] .nil).2 z]; simp
theorem zce (h : STO lt) : ∀ (a b : List α), AscB lt a → AscB lt b → (∀ z, z ∈ a ↔ z ∈ b) → a = b
 | [], [], _, _, _ => rfl
 | [], y :: b, _, _, hm => by have := (hm y).2 (by simp); simp at this
 | x :: a, [], _, _, hm => by have := (hm x).1 (by simp); simp at this
 | x :: a, y :: b, ha, hb, hm => by
  obtain ⟨a1, a2⟩ := yam.1 ha
  obtain ⟨b1, b2⟩ := yam.1 hb
  have no : ∀ {u v : α}, lt u v = true → lt v u = true → False := fun p q => by
   have := h.tr _ _ _ p q
   rw [h.irr] at this; cases this
  obtain rfl : x = y := by
   rcases yah.1 ((hm x).1 (by simp)) with e | e
   ·exact e
   rcases yah.1 ((hm y).2 (by simp)) with f | f
   ·exact f.symm
   exact (no (a1 y f) (b1 x e)).elim
  have hne : ∀ {z : α} {l : List α}, (∀ u ∈ l, lt x u = true) → z ∈ l → z ≠ x := fun hl hz e => by
   subst e
   have := hl _ hz
   rw [h.irr] at this; cases this
  rw [zce h a b a2 b2 fun z => ?_]
  constructor
  ·intro hz
   rcases yah.1 ((hm z).1 (yai _ hz)) with e | e
   ·exact absurd e (hne a1 hz)
   exact e
  intro hz
  rcases yah.1 ((hm z).2 (yai _ hz)) with e | e
  ·exact absurd e (hne b1 hz)
  exact e
theorem zqe (h : STO lt) {l m : List α} (ha : AscB lt m) (hm : ∀ z, z ∈ m ↔ z ∈ l) : m = sortD lt l := zce h _ _ ha (asc_sortD h l) fun z => by rw [hm, zbd h]
theorem zkq (x : α) : ∀ l : List α, (insD lt x l).length ≤ l.length + 1
 | [] => by simp [insD]
 | y :: r => by
  unfold insD
  have := zkq x r
  split
  ·simp only [yab]; omega
  split <;> simp
theorem zix (l : List α) : (sortD lt l).length ≤ l.length := by
 have : ∀ (l a : List α), (l.foldl (fun a x => insD lt x a) a).length ≤ a.length + l.length := by
  intro l
  induction l with
  | nil => simp
  | cons x l ih =>
   intro a
   have := ih (insD lt x a)
   have := zkq (lt := lt) x a
   simp only [ybC, yab]; omega
 have := this l []
 unfold sortD
 simpa using this
end
def ltI (a b : Int) : Bool := decide (a < b)
def ltT (a b : List UInt8) : Bool := decide (a < b)
theorem stoI : STO ltI := ⟨fun a => by simp [ltI], fun a b c h1 h2 => by simp only [ltI, decide_eq_true_eq] at *; omega, fun a b h1 h2 => by simp only [ltI, decide_eq_false_iff_not] at *; omega⟩
theorem stoT : STO ltT := ⟨fun a => by simp only [ltT, decide_eq_false_iff_not]; exact List.lt_irrefl a, fun a b c h1 h2 => by simp only [ltT, decide_eq_true_eq] at *; exact List.lt_trans h1 h2, fun a b h1 h2 => by
 simp only [ltT, decide_eq_false_iff_not] at *
 exact List.le_antisymm h2 h1⟩
def sortI (l : List Int) : List Int := sortD ltI l
theorem zgu {α : Type} [DecidableEq α] [Inhabited α] {lt : α → α → Bool} (h : STO lt) (le : α → α → Bool) (hle : ∀ a b, le a b = !lt b a) (l : List α) : compact (l.mergeSort le) = sortD lt l := by
 have htr : ∀ a b c, le a b = true → le b c = true → le a c = true := fun a b c h1 h2 => by
  rw [hle, ybX] at *
  cases hca : lt c a with
  | false => rfl
  | true =>
   cases hcb : lt c b with
   | true => rw [hcb] at h2; cases h2
   | false =>
    cases hbc : lt b c with
    | true => have := h.tr _ _ _ hbc hca; rw [this] at h1; cases h1
    | false =>
     obtain rfl := h.tri _ _ hbc hcb
     rw [hca] at h1; cases h1
 have hto : ∀ a b, (le a b || le b a) = true := fun a b => by
  rw [hle, hle]
  cases hab : lt a b with
  | false => simp
  | true =>
   cases hba : lt b a with
   | false => rfl
   | true => have := h.tr _ _ _ hab hba; rw [h.irr] at this; cases this
 have hs : (l.mergeSort le).Pairwise fun a b => le a b = true := ybL htr hto l
 have hm : ∀ z, z ∈ l.mergeSort le ↔ z ∈ l := fun z => (List.mergeSort_perm l le).mem_iff
 generalize l.mergeSort le = s at *
 have key : ∀ m, m ≤ s.length → AscB lt (compactUpTo s.toArray m) ∧ (∀ z, z ∈ compactUpTo s.toArray m ↔ z ∈ s.take m) := by
  intro m
  induction m with
  | zero => intro _; simp [compactUpTo, AscB]
  | succ m ih =>
   intro hmle
   obtain ⟨i1, i2⟩ := ih OM
   have hlt : m < s.length := OM
   rw [compactUpTo_succ]
   have hsm : s.toArray[m]! = s[m] := by simp [hlt]
   have htk : s.take (m + 1) = s.take m ++ [s[m]] := yad hlt
   rw [htk, hsm]
   have hkp : keeps s.toArray m = true ↔ (m = 0 ∨ ∃ h : m - 1 < s.length, s[m] ≠ s[m - 1]) := by
    unfold keeps
    have e2 : s.toArray[m - 1]! = s[m - 1]'OM := by simp [show m - 1 < s.length by omega]
    simp only [hsm, e2, decide_eq_true_eq, ne_eq]
    constructor
    ·rintro (e | e)
     ·exact .inl e
     exact .inr ⟨OM, e⟩
    rintro (e | ⟨_, e⟩)
    ·exact .inl e
    exact .inr e
   have hle' : ∀ z ∈ s.take m, le z s[m] = true := fun z hz => by
    have hp := hs
    rw [← yaB m s, yaG] at hp
    exact hp.2.2 z hz s[m] (by rw [yat hlt]; exact yae)
   by_cases hk : keeps s.toArray m = true
   ·rw [if_pos hk]
    refine ⟨?_, fun z => by rw [yaj, yaj, i2]⟩
    unfold AscB
    rw [yaG]
    refine ⟨i1, by simp, fun a ha b hb => ?_⟩
    rw [yac] at hb
    subst hb
    have ha2 := (i2 a).1 ha
    have hane : a ≠ s[m] := by
     rintro rfl
     rcases hkp.1 hk with e | ⟨hm1, e⟩
     ·subst e; simp at ha2
     -- the one before m is at most s[m], and at least a
     apply e
     have hm0 : m ≠ 0 := by rintro rfl; simp at ha2
     have hp : le (s[m - 1]'hm1) s[m] = true := hle' _ (by
      rw [ybd]
      exact ⟨m - 1, OM, rfl⟩)
     obtain ⟨i, hi, hie⟩ := ybd.1 ha2
     have hq : le s[m] (s[m - 1]'hm1) = true ∨ i = m - 1 := by
      by_cases hi1 : i = m - 1
      ·exact .inr hi1
      left
      have hi2 : i < m - 1 := OM
      have := (yaH.1 hs) i (m - 1) OM hm1 hi2
      rwa [hie] at this
     rcases hq with hq | hq
     ·rw [hle, ybX] at hp hq
      exact h.tri _ _ hp hq
     subst hq; exact hie.symm
    have := hle' a ha2
    rw [hle, ybX] at this
    cases hal : lt a s[m] with
    | true => rfl
    | false => exact absurd (h.tri _ _ hal this) hane
   rw [if_neg hk]
   rw [yaA]
   refine ⟨i1, fun z => ?_⟩
   rw [i2, yaj, yac]
   constructor
   ·exact .inl
   rintro (e | rfl)
   ·exact e
   have hm0 : m ≠ 0 := fun e => hk (hkp.2 (.inl e))
   have hm1 : m - 1 < s.length := OM
   have e : s[m] = s[m - 1] := Classical.byContradiction fun hne => hk (hkp.2 (.inr ⟨hm1, hne⟩))
   rw [e]
   rw [ybd]
   exact ⟨m - 1, OM, rfl⟩
 unfold compact
 obtain ⟨k1, k2⟩ := key s.length (yag _)
 exact zqe h k1 fun z => by rw [k2, yaD, hm]
theorem zfW (l : List Int) : compact (l.mergeSort fun x y => decide (x ≤ y)) = sortI l := zgu stoI _ (fun a b => by simp only [ltI]; rw [← decide_not]; exact decide_eq_decide.2 OM) l
end Go.Cs
namespace Go.Pw
open Go
set_option linter.unusedSectionVars false
section
variable {P : Program} {ops : Array Oper} {S : World → Prop} {hs : Option Tmp → Bool}
structure TailOk (P : Program) (ops : Array Oper) (m : Array Nat) (k : Nat) : Prop where
 last : ∀ (i : Nat) (o : Oper), ops[i]? = some o → k ≤ i → zau P o = .pure ∨ ∀ j, j < k → (m.getD i 0).testBit j = true
 comm : ∀ (i : Nat) (o : Oper), ops[i]? = some o → ∀ (j : Nat) (p : Oper), ops[j]? = some p → k ≤ j → j < i → (m.getD i 0).testBit j = false → commB P ops p o = true
def tailB (P : Program) (ops : Array Oper) (k : Nat) : Bool :=
  let m := Region.before ops
  (List.range ops.size).all fun i => Nat.blt i k ||
    ((zau P (ops.getD i default) == .pure || (List.range k).all fun j => (m.getD i 0).testBit j) &&
     (List.range i).all fun j => Nat.blt j k || (m.getD i 0).testBit j || commB P ops (ops.getD j default) (ops.getD i default))
theorem znb {k : Nat} (h : tailB P ops k = true) : TailOk P ops (Region.before ops) k := by
 unfold tailB at h
 simp only [yaF, List.mem_range, yaq, ybH, Nat.blt_eq, beq_iff_eq] at h
 have lt : ∀ (i : Nat) (o : Oper), ops[i]? = some o → i < ops.size ∧ ops.getD i default = o := fun i o ho => by
  obtain ⟨hi, he⟩ := Array.getElem?_eq_some_iff.1 ho
  exact ⟨hi, by simp [hi, he]⟩
 refine ⟨fun i o ho hk => ?_, fun i o ho j p hp hk hj hm => ?_⟩
 ·obtain ⟨hi, he⟩ := lt i o ho
  rcases h i hi with h | h
  ·omega
  rw [he] at h
  exact h.1
 obtain ⟨hi, he⟩ := lt i o ho
 obtain ⟨_, hp'⟩ := lt j p hp
 rcases h i hi with h | h
 ·omega
 rcases h.2 j hj with (h | h) | h
 ·omega
 ·rw [hm] at h; cases h
 rw [he, hp'] at h; exact h
theorem zpy {Q : Act → World → Prop} {m : Array Nat} {k : Nat} (ok : TextOkH P hs ops m) (tk : TailOk P ops m k) {i : Nat} {o : Oper} (ho : ops[i]? = some o) : ∀ (pre post : List Nat),
  (∀ j ∈ pre, k ≤ j ∧ j < i ∧ (m.getD i 0).testBit j = false) → ∀ (a : Act) (w : World), wpI P ops Q (pre ++ i :: post) a w → TI P ops i (wpI P ops Q (pre ++ post)) a w
 | [], post, _, a, w, h => h
 | j :: pre, post, hp, a, w, h => by
  have ih := zpy (Q := Q) ok tk ho pre post (fun k hk => hp k (yai _ hk))
  have h' : TI P ops j (TI P ops i (wpI P ops Q (pre ++ post))) a w := zfF (fun a w => ih a w) h
  show TI P ops i (TI P ops j (wpI P ops Q (pre ++ post))) a w
  obtain ⟨hjk, hj, hm⟩ := hp j yae
  unfold TI at h' ⊢
  simp only [ho] at h' ⊢
  cases hpj : ops[j]? with
  | none => simp only [hpj] at h' ⊢; exact h'
  | some p =>
   simp only [hpj] at h' ⊢
   exact swap (ok.sel j p hpj) (ok.sel i o ho) (tk.comm i o ho j p hpj hjk hj hm) h'
theorem zeZ {Q : Act → World → Prop} (i : Nat) : ∀ (L : List Nat), wpIh P S hs ops (TIh P S hs ops i Q) L = wpIh P S hs ops Q (L ++ [i])
 | [] => rfl
 | j :: L => by
  show TIh P S hs ops j _ = TIh P S hs ops j (wpIh P S hs ops Q (L ++ [i]))
  rw [zeZ i L]
theorem zem {Q Q' : Act → World → Prop} : ∀ (L : List Nat) {a : Act} {w : World}, S w → (∀ a w, S w → Q a w → Q' a w) → wpIh P S hs ops Q L a w → wpIh P S hs ops Q' L a w
 | [], a, w, hw, hq, h => hq a w hw h
 | j :: L, a, w, hw, hq, h => zeu hw (fun a w hS h => zem L hS hq h) h
theorem zjU {i : Nat} {o : Oper} (ho : ops[i]? = some o) (hk : zau P o = .pure) {R : Act → World → Prop} {a : Act} {w : World} (hw : S w) (h : TI P ops i R a w) : TIh P S hs ops i (fun a w => S w → R a w) a w := by
 unfold TI at h
 unfold TIh
 simp only [ho] at h ⊢
 unfold T1 at h
 unfold T1h
 split
 ·rename_i hwt
  rw [if_pos hwt] at h
  obtain ⟨h1, h2⟩ := h
  refine ⟨fun _ => (okH_pure hk).2 (h1 hk), ?_⟩
  exact Oper.wpN_mono (fun a w hh => ⟨hh.1, fun _ => hh.2⟩) (Go.Vc.calm_wp hw hk (h1 hk) h2)
 rename_i hwt
 rw [if_neg hwt] at h
 exact fun _ => h
def zfK (P : Program) (S : World → Prop) (hs : Option Tmp → Bool) (ops : Array Oper) (Q : Act → World → Prop) : List Nat → List Nat → Act → World → Prop
 | [], LB, a, w => wpI P ops Q LB a w
 | x :: LA, LB, a, w => S w ∧ wpIh P S hs ops (fun a w => S w → wpI P ops Q LB a w) (x :: LA) a w
theorem zfK.of {Q : Act → World → Prop} {LA LB : List Nat} {a : Act} {w : World} (h : S w ∧ wpIh P S hs ops (fun a w => S w → wpI P ops Q LB a w) LA a w) : zfK P S hs ops Q LA LB a w := by
 cases LA with
 | nil => exact h.2 h.1
 | cons x LA => exact h
theorem znU {Q : Exit → Act → World → Prop} {m : Array Nat} {k : Nat} (ok : TextOkH P hs ops m) (tk : TailOk P ops m k) : ∀ (fuel : Nat) (LA LB : List Nat) (listed : Array Bool) (a : Act) (w : World),
  (LA ++ LB).length = fuel → listed.size = ops.size → zdw ops listed → (LA ++ LB).Pairwise (· < ·) → (∀ j ∈ LA, j < k) → (∀ j ∈ LB, k ≤ j) → (∀ j, j ∈ LA ++ LB ↔ j < ops.size ∧ listed.getD j false = false) →
  zfK P S hs ops (Q .normal) LA LB a w → zei P .any ops (Q .normal) fuel listed a w := by
 intro fuel
 induction fuel with
 | zero =>
  intro LA LB listed a w hlen hsz hcl hpw hA hB hmem h
  obtain ⟨rfl, rfl⟩ := List.append_eq_nil_iff.1 (yan hlen)
  refine ⟨?_, h⟩
  refine List.eq_nil_iff_forall_not_mem.2 fun i hi => ?_
  obtain ⟨h0, o, ho, _⟩ := mem_ready.1 hi
  have hlt : i < ops.size := (Array.getElem?_eq_some_iff.1 ho).1
  have h0' : listed.getD i false = false := by
   have : i < listed.size := OM
   simp [this] at h0 ⊢; exact h0
  have := (hmem i).2 ⟨hlt, h0'⟩
  cases this
 | succ fuel ih =>
  intro LA LB listed a w hlen hsz hcl hpw hA hB hmem h
  refine ⟨fun hr => ?_, fun i hi => ?_⟩
  ·cases hL : LA ++ LB with
   | nil => rw [hL] at hlen; cases hlen
   | cons i L =>
    exfalso
    rw [hL] at hpw
    obtain ⟨hlt, h0⟩ := (hmem i).1 (by rw [hL]; exact yae)
    have hrdy : i ∈ Region.ready .any ops listed := by
     refine mem_ready.2 ⟨?_, ops[i], Array.getElem?_eq_getElem hlt, fun e he hb => ?_⟩
     ·have : i < listed.size := OM
      simp [this] at h0 ⊢; exact h0
     have hlt' := ok.back i _ (Array.getElem?_eq_getElem hlt) e he hb
     cases hl : listed.getD e.on false with
     | true => rfl
     | false =>
      have hin := (hmem e.on).2 ⟨OM, hl⟩
      rw [hL] at hin
      rcases yah.1 hin with heq | hin
      ·omega
      have := (yam.1 hpw).1 _ hin; omega
    rw [hr] at hrdy; cases hrdy
  obtain ⟨h0, o, ho, hdeps⟩ := mem_ready.1 hi
  have hlt : i < ops.size := (Array.getElem?_eq_some_iff.1 ho).1
  have hil : i < listed.size := OM
  have h0' : listed.getD i false = false := by simp [hil] at h0 ⊢; exact h0
  have hfree : ∀ j ∈ LA ++ LB, j < i → (m.getD i 0).testBit j = false := fun j hj hji => by
   cases hm : (m.getD i 0).testBit j with
   | false => rfl
   | true =>
    have hl := zcQ ok hcl i i o (yag _) ho hdeps j hji hm
    have := ((hmem j).1 hj).2
    rw [hl] at this; cases this
  have hcl' : zdw ops (listed.setIfInBounds i true) := by
   intro k p hk hl e he hb
   by_cases hki : k = i
   ·subst hki
    obtain rfl : p = o := Option.some.inj (hk.symm.trans ho)
    exact getD_set_true (hdeps e he hb)
   rw [getD_set_ne false (fun h => hki h.symm)] at hl
   exact getD_set_true (hcl k p hk hl e he hb)
  have hin := (hmem i).2 ⟨hlt, h0'⟩
  have hnd : (LA ++ LB).Nodup := hpw.imp fun h => OM
  have hmem' : ∀ (LA' LB' : List Nat), (∀ j, j ∈ LA' ++ LB' ↔ j ≠ i ∧ j ∈ LA ++ LB) → ∀ j, j ∈ LA' ++ LB' ↔ j < ops.size ∧ (listed.setIfInBounds i true).getD j false = false := fun LA' LB' hh j => by
   rw [hh, hmem]
   constructor
   ·rintro ⟨k0, k1, k2⟩
    exact ⟨k1, by rw [getD_set_ne false (fun h => k0 h.symm)]; exact k2⟩
   rintro ⟨k1, k2⟩
   have hji : j ≠ i := fun e => by subst e; simp [hil] at k2
   rw [getD_set_ne false (fun h => hji h.symm)] at k2
   exact ⟨hji, k1, k2⟩
  rcases yaj.1 hin with hiA | hiB
  ·obtain ⟨pre, post, rfl⟩ := List.append_of_mem hiA
   have hpwA := (yaG.1 hpw).1
   have hpre : ∀ j ∈ pre, j < i := fun j hj => (yaG.1 hpwA).2.2 j hj i yae
   have hpost : ∀ j ∈ post, i < j := fun j hj => (yam.1 (yaG.1 hpwA).2.1).1 j hj
   have hLB : ∀ j ∈ LB, i < j := fun j hj => (yaG.1 hpw).2.2 i (by simp) j hj
   have h1 : S w ∧ wpIh P S hs ops (fun a w => S w → wpI P ops (Q .normal) LB a w) (pre ++ i :: post) a w := by
    cases pre with
    | nil => exact h
    | cons x pre => exact h
   refine zbM (fun a w h => ?_) (zbK (zfQ ok ho pre post (fun j hj => ⟨hpre j hj, hfree j (by simp [hj]) (hpre j hj)⟩) a w h1.1 h1.2) h1.1)
   refine ih (pre ++ post) LB _ a w (by simp at hlen ⊢; omega) (by simp [hsz]) hcl' ?_ (fun j hj => hA j (by rcases yaj.1 hj with h | h <;> simp [h])) hB (hmem' _ _ fun j => ?_) (zfK.of h)
   ·exact hpw.sublist ((List.Sublist.append_left (List.sublist_cons_self _ _) _).append_right _)
   constructor
   ·intro hj
    rcases yaj.1 hj with hj | hj
    ·rcases yaj.1 hj with hj | hj
     ·have := hpre j hj; exact ⟨OM, by simp [hj]⟩
     have := hpost j hj; exact ⟨OM, by simp [hj]⟩
    have := hLB j hj; exact ⟨OM, by simp [hj]⟩
   rintro ⟨hne, hj⟩
   rcases yaj.1 hj with hj | hj
   ·rcases yaj.1 hj with hj | hj
    ·simp [hj]
    rcases yah.1 hj with rfl | hj
    ·exact absurd rfl hne
    simp [hj]
   simp [hj]
  obtain ⟨pre, post, rfl⟩ := List.append_of_mem hiB
  have hpwB := (yaG.1 hpw).2.1
  have hpre : ∀ j ∈ pre, j < i := fun j hj => (yaG.1 hpwB).2.2 j hj i yae
  have hpost : ∀ j ∈ post, i < j := fun j hj => (yam.1 (yaG.1 hpwB).2.1).1 j hj
  have hLA : ∀ j ∈ LA, j < i := fun j hj => (yaG.1 hpw).2.2 j hj i (by simp)
  have hik : k ≤ i := hB i (by simp)
  have hbub : ∀ a w, wpI P ops (Q .normal) (pre ++ i :: post) a w → TI P ops i (wpI P ops (Q .normal) (pre ++ post)) a w :=
   zpy ok tk ho pre post (fun j hj => ⟨hB j (by simp [hj]), hpre j hj, hfree j (by simp [hj]) (hpre j hj)⟩)
  have goOn : ∀ a w, zfK P S hs ops (Q .normal) LA (pre ++ post) a w → zei P .any ops (Q .normal) fuel (listed.setIfInBounds i true) a w := fun a w hh =>
   ih LA (pre ++ post) _ a w (by simp at hlen ⊢; omega) (by simp [hsz]) hcl' (hpw.sublist (List.Sublist.append_left (List.Sublist.append_left (List.sublist_cons_self _ _) _) _)) hA (fun j hj => hB j (by rcases yaj.1 hj with h | h <;> simp [h])) (hmem' _ _ fun j => by
    constructor
    ·intro hj
     rcases yaj.1 hj with hj | hj
     ·have := hLA j hj; exact ⟨OM, by simp [hj]⟩
     rcases yaj.1 hj with hj | hj
     ·have := hpre j hj; exact ⟨OM, by simp [hj]⟩
     have := hpost j hj; exact ⟨OM, by simp [hj]⟩
    rintro ⟨hne, hj⟩
    rcases yaj.1 hj with hj | hj
    ·simp [hj]
    rcases yaj.1 hj with hj | hj
    ·simp [hj]
    rcases yah.1 hj with rfl | hj
    ·exact absurd rfl hne
    simp [hj]) hh
  cases LA with
  | nil =>
   have h : wpI P ops (Q .normal) (pre ++ i :: post) a w := h
   exact zeL (zfF (fun a w hh => goOn a w hh) (hbub a w h))
  | cons x LA =>
   obtain ⟨hw, h⟩ : S w ∧ wpIh P S hs ops (fun a w => S w → wpI P ops (Q .normal) (pre ++ i :: post) a w) (x :: LA) a w := h
   have hpure : zau P o = .pure := by
    rcases tk.last i o ho hik with h | h
    ·exact h
    have := hfree x (by simp) (hLA x (by simp))
    rw [h x (hA x (by simp))] at this; cases this
   have h2 : wpIh P S hs ops (TIh P S hs ops i (fun a w => S w → wpI P ops (Q .normal) (pre ++ post) a w)) (x :: LA) a w :=
    zem (x :: LA) hw (fun a w hS hh => zjU ho hpure hS (hbub a w (hh hS))) h
   rw [zeZ] at h2
   have h3 := zfQ (post := []) ok ho (x :: LA) (fun j hj => ⟨hLA j hj, hfree j (yaX _ hj) (hLA j hj)⟩) a w hw h2
   rw [yaA] at h3
   exact zbM (fun a w hh => goOn a w (zfK.of hh)) (zbK h3 hw)
theorem zsS {Q : Act → World → Prop} (l : List Oper) : ∀ k, (∀ j, l[j]? = ops[k + j]?) → wpI P ops Q (List.range' k l.length) = wpT P ops Q l := zgK l
theorem zdM {Q : Exit → Act → World → Prop} {id : Nat} {pre post : List Oper} {a : Act} {w : World} (hm : P.follows .mixedOrders = true) (hs : Option Tmp → Bool) (S : World → Prop) (hw0 : S w.drew)
  (hB : textH P hs (pre ++ post).toArray = true) (hT : tailB P (pre ++ post).toArray pre.length = true)
  (h : wpTh P S hs (pre ++ post).toArray (fun a w => S w → wpT P (pre ++ post).toArray (fun a w => Q .normal a w) post a w) pre a w.drew) : (Code.region id (pre ++ post).toArray true).wpX P Q a w := by
 refine zbm hm ?_
 have ok := zeK hB
 have tk := znb hT
 have hz : ∀ j, (Array.replicate (pre ++ post).toArray.size false).getD j false = false := fun j => by
  simp only [Array.getD_eq_getD_getElem?, Array.getElem?_replicate]; split <;> rfl
 have hsz : (pre ++ post).toArray.size = pre.length + post.length := by simp
 have hr : List.range pre.length ++ List.range' pre.length post.length = List.range (pre.length + post.length) := by
  rw [List.range_eq_range', List.range_eq_range']
  have := List.range'_append (s := 0) (m := pre.length) (n := post.length) (step := 1)
  simpa using this
 have key := znU (S := S) (Q := Q) ok tk (pre.length + post.length) (List.range pre.length) (List.range' pre.length post.length) (Array.replicate (pre ++ post).toArray.size false) a w.drew (by simp) (by simp) ?_ (by rw [hr]; exact List.pairwise_lt_range) (fun j hj => by simpa using hj) (fun j hj => by simp at hj; omega) (fun j => by rw [hr, hz, hsz]; simp) ?_
 ·rw [hsz] at key ⊢; exact key
 ·intro i o _ hl; rw [hz] at hl; cases hl
 refine zfK.of ⟨hw0, ?_⟩
 have e1 := zlj (P := P) (S := S) (hs := hs) (ops := (pre ++ post).toArray) (Q := fun a w => S w → wpI P (pre ++ post).toArray (Q .normal) (List.range' pre.length post.length) a w) pre 0 (fun j hj => by rw [yaU]; simp [List.getElem?_append_left hj])
 rw [show List.range pre.length = List.range' 0 pre.length from by simp [List.range_eq_range'], e1]
 have e2 : wpI P (pre ++ post).toArray (Q .normal) (List.range' pre.length post.length) = wpT P (pre ++ post).toArray (Q .normal) post := zsS (ops := (pre ++ post).toArray) post pre.length (fun j => by
  rw [List.getElem?_toArray, List.getElem?_append_right (ycd _ _), ybw])
 rw [e2]
 exact h
end
end Go.Pw
namespace Go.Vc
open Go Go.Pw
theorem Draw.heldTail {P : Program} {n : Nat} {K : Exit → Fr → World → Prop} {id : Nat} {ops : Array Oper} {t : List It} {f : Fr} {w : World} (k : Nat) (S : World → Prop) (hs : Option Tmp → Bool) (hB : textH P hs ops = true) (hT : (Nat.ble k ops.size && tailB P ops k) = true) (hw : S w.drew)
  (h : Sat P n K .normal (.opsH S hs ops.toList (ops.toList.take k) :: .ops ops.toList (ops.toList.drop k) true :: t) f w.drew) : Draw P n K id ops t f w :=
 ⟨fun hm hf => by
  rw [yaq] at hT
  obtain ⟨hk, hT⟩ := hT
  have hk : k ≤ ops.size := Nat.le_of_ble_eq_true hk
  obtain ⟨pre, post, he, hpl⟩ : ∃ pre post : List Oper, ops = (pre ++ post).toArray ∧ pre.length = k := ⟨ops.toList.take k, ops.toList.drop k, by rw [yaB], by rw [yar, ybK]; omega⟩
  subst he
  have e1 : (pre ++ post).toArray.toList.take k = pre := by rw [← hpl]; simp
  have e2 : (pre ++ post).toArray.toList.drop k = post := by rw [← hpl]; simp
  rw [e1, e2] at h
  rw [← hpl] at hT
  refine zdM hm hs S hw hB hT ?_
  have h1 := h.h hf
  have h1 : S w.drew → wpTh P S hs (pre ++ post).toArray (fun a w => S w → Lift n (after P n (.ops (pre ++ post).toArray.toList post true :: t) K .normal) a w) pre (act n f) w.drew := h1
  have mono : ∀ (l : List Oper) (Q Q' : Act → World → Prop), (∀ a w, Q a w → Q' a w) → ∀ a w, S w → wpTh P S hs (pre ++ post).toArray Q l a w → wpTh P S hs (pre ++ post).toArray Q' l a w := by
   intro l
   induction l with
   | nil => intro Q Q' hq a w _ h; exact hq a w h
   | cons x r ih => intro Q Q' hq a w hw h; exact zhz hw (fun a w hS hh => ih Q Q' hq a w hS hh) h
  refine mono pre _ _ ?_ _ _ hw (h1 hw)
  rintro a w hk hS
  obtain ⟨g, hg, e, hk2⟩ := hk hS
  subst e
  exact hk2⟩
end Go.Vc
namespace Go.Vc
open Go Go.Pw Go.Sort
theorem flat1 {α β : Type} (f : α → β) (l : List α) : (l.flatMap fun x => [f x]) = l.map f := by
 induction l with
 | nil => rfl
 | cons x r ih => rw [yao, ih]; rfl
section
variable {α : Type} [Inhabited α] {enc : α → Value} {w : World} {g q : Nat} {os : Array Obj} {e : TypeId}
theorem heap_put {cur : Array Value} {fr : Nat × Nat} (d : Array α) (hb : w.heap[g]? = some (.cells cur e fr)) :
  (grow (putRow enc (Sort.ahead w q) g 0 d) os).heap[g]? = some (.cells (putCells enc 0 d cur) e fr) := by
 have hg : g < w.heap.size := (Array.getElem?_eq_some_iff.1 hb).1
 rw [heap_grow_old _ _ (by simpa using hg)]
 simp [putRow, mapBlock, Sort.ahead, Array.getElem?_modify, hb, onCells]
theorem zfO (d : Array α) : Kp w (grow (putRow enc (Sort.ahead w q) g 0 d) os) (one_ g) := by
 refine ⟨rfl, rfl, rfl, by simp, fun k hk hne => ?_⟩
 rw [heap_grow_old _ _ (by simpa using hk)]
 have : g ≠ k := fun e => hne e.symm
 simp [putRow, mapBlock, Sort.ahead, Array.getElem?_modify, this]
theorem zfJ {l : List α} {cells : List Value} (h : VarK w g e cells) (ht : cells.take l.length = l.map enc) : Holds enc w g 0 l.toArray := by
 intro j hj
 have hj' : j < l.length := by simpa using hj
 refine ⟨?_, by have := h.frozen (0 + j); exact this⟩
 have h1 : (cells.take l.length)[j]? = (l.map enc)[j]? := by rw [ht]
 rw [List.getElem?_take_of_lt hj'] at h1
 have := h.at j (enc l[j]) (by rw [h1]; simp [hj'])
 rw [this]
 simp [hj']
theorem zky (cur : Array Value) (ts : List α) (h : ts.length ≤ cur.size) : (putCells enc 0 ts.toArray cur).toList.take ts.length = ts.map enc := by
 apply List.ext_getElem?
 intro j
 by_cases hj : j < ts.length
 ·rw [List.getElem?_take_of_lt hj, Array.getElem?_toList]
  simp [putCells, hj, show j < cur.size by omega]
 rw [List.getElem?_take_eq_none OM, List.getElem?_eq_none (by simp; omega)]
theorem zol {B n cap m : Nat} {xs : List Value} (ho : w.ownsRow B e 1 (.slice (some ⟨g, 0, none⟩) n cap) n xs) (d : List α) (hd : d.length = n) (hm : m ≤ n) :
  (grow (putRow enc (Sort.ahead w q) g 0 d.toArray) os).ownsRow B e 1 (.slice (some ⟨g, 0, none⟩) m cap) m ((d.take m).map enc) := by
 rcases ho.2 with ⟨h, _⟩ | ⟨g', cap', cur, h1, h2, h3, h4, h5, h6, h7⟩
 ·cases h
 injection h1 with h1 _ hc
 injection h1 with h1
 injection h1 with h1
 subst h1; subst hc
 refine ⟨by rw [yaf, yar]; omega, .inr ⟨g, cap, _, rfl, h2, heap_put _ h3, OM, h5, by simp [putCells, h6], ?_⟩⟩
 have := zky (enc := enc) cur d OM
 rw [Nat.mul_one, List.map_take, ← this, ybz, yaJ OM]
end
end Go.Vc
