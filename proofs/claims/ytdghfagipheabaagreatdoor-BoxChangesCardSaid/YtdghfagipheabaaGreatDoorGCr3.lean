/- Helper text of this claim: Cr3, Cr4, Cr5: lemmas and contracts that the proved statement rests on; no conditions of its own. -/
import Derived.Test.YtdghfagipheabaaGreatDoorGCw3
import Derived.Test.YtdghfagipheabaaGreatDoorGCt8
import Derived.Test.YtdghfagipheabaaGreatDoorWcz
-- alias Tryz
namespace Go.Proofs.YtdghfagipheabaaGreatDoor
open Go.RowKit Go.Pw Go.Vc Go.Cs Go.Lib
set_option linter.unusedVariables false
set_option maxRecDepth 100000
section
variable {w : World}
/-- The reference's rune, step by step. -/
def runeJ (u : List UInt8) : Nat → Nat
  | 0 => (u.getD 0 0).toNat % (if u.length = 2 then 32 else if u.length = 3 then 16 else 8)
  | j + 1 => runeJ u j * 64 + (u.getD (j + 1) 0).toNat % 64
theorem runeJ_U (u : List UInt8) (h1 : 2 ≤ u.length) (h2 : u.length ≤ 4) : runeJ u (u.length - 1) = runeU u := by
  unfold runeU
  rcases (show u.length = 2 ∨ u.length = 3 ∨ u.length = 4 by omega) with h | h | h
  · rw [h, if_neg (by omega), if_pos rfl]; simp [runeJ, h]
  · rw [h, if_neg (by omega), if_neg (by omega), if_pos rfl]; simp [runeJ, h]; omega
  · rw [h, if_neg (by omega), if_neg (by omega), if_neg (by omega)]; simp [runeJ, h]; omega
theorem runeJ_le (u : List UInt8) : ∀ j, j ≤ 3 → runeJ u j < 32 * 64 ^ j
  | 0, _ => by
    unfold runeJ
    repeat' split
    all_goals omega
  | j + 1, h => by
    have := runeJ_le u j (by omega)
    simp only [runeJ, Nat.pow_succ]
    omega
theorem mask_eq (b n : Nat) (hb : b < 256) (h1 : 2 ≤ n) (h4 : n ≤ 4) : IntKind.i64.wrap ((((IntKind.i64.wrap (b : Int) % 2 ^ IntKind.i64.bits).toNat &&& (Int.fdiv 255 (2 ^ min (IntKind.u64.wrap ((n : Int) + 1)).toNat IntKind.i64.bits) % 2 ^ IntKind.i64.bits).toNat : Nat) : Int)) = ((b % (if n = 2 then 32 else if n = 3 then 16 else 8) : Nat) : Int) := by
  have e : (IntKind.i64.wrap (b : Int) % 2 ^ IntKind.i64.bits).toNat = b := by
    rw [wrap_i64 _ (by omega), show IntKind.i64.bits = 64 from rfl]; omega
  rw [e]
  rcases (show n = 2 ∨ n = 3 ∨ n = 4 by omega) with h | h | h
  · subst h
    rw [show (Int.fdiv 255 (2 ^ min (IntKind.u64.wrap (((2 : Nat) : Int) + 1)).toNat IntKind.i64.bits) % 2 ^ IntKind.i64.bits).toNat = 2 ^ 5 - 1 by decide, Nat.and_two_pow_sub_one_eq_mod]
    rw [wrap_i64 _ (by omega)]; rfl
  · subst h
    rw [show (Int.fdiv 255 (2 ^ min (IntKind.u64.wrap (((3 : Nat) : Int) + 1)).toNat IntKind.i64.bits) % 2 ^ IntKind.i64.bits).toNat = 2 ^ 4 - 1 by decide, Nat.and_two_pow_sub_one_eq_mod]
    rw [wrap_i64 _ (by omega)]; rfl
  · subst h
    rw [show (Int.fdiv 255 (2 ^ min (IntKind.u64.wrap (((4 : Nat) : Int) + 1)).toNat IntKind.i64.bits) % 2 ^ IntKind.i64.bits).toNat = 2 ^ 3 - 1 by decide, Nat.and_two_pow_sub_one_eq_mod]
    rw [wrap_i64 _ (by omega)]; rfl
theorem byte_low (x : UInt8) : IntKind.i64.wrap (IntKind.u8.wrap ((BitVec.ofInt IntKind.u8.bits ((x.toNat : Nat) : Int) &&& BitVec.ofInt IntKind.u8.bits 63).toNat : Nat)) = ((x.toNat % 64 : Nat) : Int) := by
  have h := UInt8.toNat_lt x
  rw [BitVec.toNat_and, BitVec.toNat_ofInt, BitVec.toNat_ofInt]
  rw [show (((x.toNat : Nat) : Int) % ((2 ^ IntKind.u8.bits : Nat) : Int)).toNat = x.toNat by rw [show ((2 ^ IntKind.u8.bits : Nat) : Int) = 256 from rfl]; omega, show ((63 : Int) % ((2 ^ IntKind.u8.bits : Nat) : Int)).toNat = 2 ^ 6 - 1 by decide, Nat.and_two_pow_sub_one_eq_mod, wrap_u8 _ (by omega), wrap_i64 _ (by omega)]
set_option maxHeartbeats 1000000 in
theorem ref_Rune05 (s : ByteArray) (h1 : 1 ≤ s.size) (h4 : s.size ≤ 4) : Calls Tryz.prog 93 #[.string s] w fun e w' => e = .returned (.int .i64 ((runeU (L s) : Nat) : Int)) ∧ w = w' := by
  have hl := L_len s
  refine calls_of_vc (args := [.string s]) Tryz.func93 rfl (Nat.le_of_ble_eq_true rfl) ?_; refine Sat.go hmix ?_; conv => whnf
  have hb0 : (byteAt s 0).toNat < 256 := UInt8.toNat_lt _
  by_cases hs : s.size = 1
  · refine GO ?_
    refine ⟨?_, rfl⟩
    rw [wrap_i64 _ (by omega)]
    unfold runeU
    rw [if_pos (by omega)]
    rfl
  · refine GO ?_
    refine Loop.intro (ι := Nat) (fun i => [(0, .string s), (3, .int .i64 (runeJ (L s) i : Nat)), (4, .int .i64 ((i + 1 : Nat) : Int))]) (fun i wr => w = wr ∧ i + 1 ≤ s.size) (fun i => s.size - i) 0 ⟨rfl, ?_, rfl, trivial⟩ ⟨rfl, h1⟩ ?_
    · exact v_int ((mask_eq _ _ hb0 (by omega) h4).trans (by unfold runeJ; rw [hl]; rfl))
    rintro i g wr ⟨rfl, hi⟩
    have hle := runeJ_le (L s) i (by omega)
    have hle3 : 32 * 64 ^ i ≤ 32 * 64 ^ 3 := Nat.mul_le_mul_left 32 (Nat.pow_le_pow_right (by omega) (by omega))
    rw [show 32 * 64 ^ 3 = 8388608 from rfl] at hle3
    generalize 32 * 64 ^ i = B at *
    (first | refine Then.go hmix ?_ | refine Sat.go hmix ?_ | refine ResK.go ?_ | skip); conv => whnf
    by_cases hlt : i + 1 < s.size
    · refine GO ?_
      have hbl := byte_low (byteAt s (i + 1))
      rw [hbl]
      have hst : runeJ (L s) i * 64 + (byteAt s (i + 1)).toNat % 64 = runeJ (L s) (i + 1) := rfl
      refine GO ?_
      exact ⟨i + 1, ⟨rfl, v_int (by rw [← hst]; omega), rfl, trivial⟩, ⟨rfl, by omega⟩, by dsimp only; omega⟩
    · refine GO ?_
      refine ⟨?_, rfl⟩
      rw [← runeJ_U (L s) (by omega) (by omega), show (L s).length - 1 = i by omega]
end
end Go.Proofs.YtdghfagipheabaaGreatDoor

-- alias Tryz
namespace Go.Proofs.YtdghfagipheabaaGreatDoor
open Go.RowKit Go.Pw Go.Vc Go.Cs Go.Lib
set_option linter.unusedVariables false
set_option maxRecDepth 100000
section
variable {w : World}
theorem drop_getD (l : List UInt8) (a i : Nat) : (l.drop a).getD i 0 = l.getD (a + i) 0 := by
  rw [List.getD_eq_getElem?_getD, List.getElem?_drop, ← List.getD_eq_getElem?_getD]
theorem rl_one {l : List UInt8} (h : need l = 1 ∨ l.length < need l) : ((1 : Int)) = ((refLen l : Nat) : Int) := by unfold refLen; rw [if_pos h]; rfl
theorem rl_bad {l : List UInt8} {n : Nat} (hn : need l = n) (hl : ¬ (n = 1 ∨ l.length < n)) (i : Nat) (h1 : 1 ≤ i) (h2 : i < n) (h4 : n ≤ 4) (h : ¬ contB l i) : ((1 : Int)) = ((refLen l : Nat) : Int) := by
  unfold refLen
  rw [hn, if_neg hl, if_pos]
  · rfl
  · unfold badC
    rcases (show i = 1 ∨ i = 2 ∨ i = 3 by omega) with e | e | e
    · subst e; exact .inl ⟨by omega, h⟩
    · subst e; exact .inr (.inl ⟨by omega, h⟩)
    · subst e; exact .inr (.inr ⟨by omega, h⟩)
theorem rl_low {l : List UInt8} {n : Nat} (hn : need l = n) (hl : ¬ (n = 1 ∨ l.length < n)) (hc : ∀ i, 1 ≤ i → i < n → contB l i) (h : runeU (l.take n) < lowN n ∨ 1114111 < runeU (l.take n) ∨ (55296 ≤ runeU (l.take n) ∧ runeU (l.take n) ≤ 57343)) : ((1 : Int)) = ((refLen l : Nat) : Int) := by
  unfold refLen
  rw [hn, if_neg hl, if_neg, if_pos h]
  · rfl
  · rintro (⟨h1, h2⟩ | ⟨h1, h2⟩ | ⟨h1, h2⟩)
    · exact h2 (hc 1 (by omega) (by omega))
    · exact h2 (hc 2 (by omega) (by omega))
    · exact h2 (hc 3 (by omega) (by omega))
theorem rl_ok {l : List UInt8} {n : Nat} (hn : need l = n) (hl : ¬ (n = 1 ∨ l.length < n)) (hc : ∀ i, 1 ≤ i → i < n → contB l i) (h : ¬ (runeU (l.take n) < lowN n ∨ 1114111 < runeU (l.take n) ∨ (55296 ≤ runeU (l.take n) ∧ runeU (l.take n) ≤ 57343))) : (n : Int) = ((refLen l : Nat) : Int) := by
  unfold refLen
  rw [hn, if_neg hl, if_neg, if_neg h]
  rintro (⟨h1, h2⟩ | ⟨h1, h2⟩ | ⟨h1, h2⟩)
  · exact h2 (hc 1 (by omega) (by omega))
  · exact h2 (hc 2 (by omega) (by omega))
  · exact h2 (hc 3 (by omega) (by omega))
set_option maxHeartbeats 4000000 in
theorem ref_length05 (s : ByteArray) (at_ : Nat) (hat : at_ < s.size) (hs : s.size ≤ 1000000000) : Calls Tryz.prog 99 #[.string s, .int .i64 (at_ : Nat)] w fun e w' => e = .returned (.int .i64 (((decodeL ((L s).drop at_)).2 : Nat) : Int)) ∧ w = w' := by
  have hl := L_len s
  have hne : (L s).drop at_ ≠ [] := fun e => by
    have := congrArg List.length e
    rw [List.length_drop, List.length_nil] at this; omega
  have hfin := (refLen_eq _ hne).1
  generalize hld : (L s).drop at_ = l at *
  have hll : l.length = s.size - at_ := by rw [← hld, List.length_drop, hl]
  have hb : l.getD 0 0 = byteAt s at_ := by rw [← hld]; exact drop_getD (L s) at_ 0
  have hb0 : (byteAt s at_).toNat < 256 := UInt8.toNat_lt _
  have hnd : need l = if 194 ≤ (byteAt s at_).toNat ∧ (byteAt s at_).toNat ≤ 223 then 2 else if 224 ≤ (byteAt s at_).toNat ∧ (byteAt s at_).toNat ≤ 239 then 3 else if 240 ≤ (byteAt s at_).toNat ∧ (byteAt s at_).toNat ≤ 244 then 4 else 1 := by rw [← hb]; rfl
  refine calls_of_vc (args := [.string s, .int .i64 (at_ : Nat)]) Tryz.func99 rfl (Nat.le_of_ble_eq_true rfl) ?_; refine Sat.go hmix ?_; conv => whnf
  refine GO ?_
  rw [wrap_i64 _ (by omega)]
  generalize (byteAt s at_).toNat = b at *
  by_cases hB : 194 ≤ b ∧ b ≤ 223
  · rw [if_pos hB] at hnd
    obtain ⟨hB1, hB2⟩ := hB
    refine GO ?_
    by_cases hlen : s.size < at_ + 2
    · refine GO ?_
      refine ⟨?_, rfl⟩
      rw [← hfin]
      exact ret_int (rl_one (.inr (by rw [hnd]; omega)))
    · have hnl : ¬ (2 = 1 ∨ l.length < 2) := by omega
      refine GO ?_
      refine Loop.intro (ι := Nat) (fun i => [(0, .string s), (1, .int .i64 (at_ : Nat)), (6, .int .i64 2), (7, .int .i64 128), (8, .int .i64 ((i + 1 : Nat) : Int))])
        (fun i wr => w = wr ∧ i + 1 ≤ 2 ∧ ∀ j, 1 ≤ j → j < i + 1 → contB l j) (fun i => 4 - i) 0 ⟨rfl, rfl, rfl, rfl, rfl, trivial⟩ ⟨rfl, by omega, fun j h1 h2 => by omega⟩ ?_
      rintro i g wr ⟨rfl, hi, hj⟩
      (first | refine Then.go hmix ?_ | refine Sat.go hmix ?_ | refine ResK.go ?_ | skip); conv => whnf
      by_cases hlt : i + 1 < 2
      · have hbb : l.getD (i + 1) 0 = byteAt s (at_ + (i + 1)) := by rw [← hld]; exact drop_getD (L s) at_ (i + 1)
        have hb1 := UInt8.toNat_lt (byteAt s (at_ + (i + 1)))
        by_cases hlo : (byteAt s (at_ + (i + 1))).toNat < 128
        · refine GO ?_
          refine ⟨?_, rfl⟩
          rw [← hfin]
          exact ret_int (rl_bad hnd hnl (i + 1) (by omega) hlt (by omega) (by unfold contB; rw [hbb]; omega))
        by_cases hhi : 191 < (byteAt s (at_ + (i + 1))).toNat
        · refine GO ?_
          refine ⟨?_, rfl⟩
          rw [← hfin]
          exact ret_int (rl_bad hnd hnl (i + 1) (by omega) hlt (by omega) (by unfold contB; rw [hbb]; omega))
        · refine GO ?_
          exact ⟨i + 1, ⟨rfl, rfl, rfl, rfl, v_int (by omega), trivial⟩, ⟨rfl, by omega, fun j h1 h2 => by
            rcases (show j < i + 1 ∨ j = i + 1 by omega) with h | h
            · exact hj j h1 h
            · subst h; unfold contB; rw [hbb]; omega⟩, by dsimp only; omega⟩
      · have hji : ∀ j, 1 ≤ j → j < 2 → contB l j := fun j h1 h2 => hj j h1 (by omega)
        refine GO ?_
        refine Cut.bothI (by omega) (by omega) (by omega) ?_
        have hx : L (s.extract at_ (at_ + 2)) = l.take 2 := by rw [L_extract, ← List.take_drop, hld]
        have hxs : (s.extract at_ (at_ + 2)).size = 2 := by rw [← L_len, hx, List.length_take]; omega
        rw [show (((at_ : Nat) : Int)).toNat = at_ by omega, show (((at_ : Nat) : Int) + 2).toNat = at_ + 2 by omega]
        refine GO ?_
        refine CallS.of (Tryz.call93 _ _) (ref_Rune05 (s.extract at_ (at_ + 2)) (by omega) (by omega)) ?_
        rintro e w1 ⟨rfl, rfl⟩
        rw [hx]
        refine ⟨_, rfl, ?_⟩; (first | refine Then.go hmix ?_ | refine Sat.go hmix ?_ | refine ResK.go ?_ | skip); conv => whnf
        have hrl := rl_low (l := l) hnd hnl hji
        have hro := rl_ok (l := l) hnd hnl hji
        generalize runeU (l.take 2) = r at *
        generalize hri : ((r : Nat) : Int) = ri at *
        by_cases q1 : ri < 128
        · refine GO ?_
          refine ⟨?_, rfl⟩
          rw [← hfin]
          exact ret_int (hrl (.inl (by have : lowN 2 = 128 := rfl; omega)))
        by_cases q2 : 1114111 < ri
        · refine GO ?_
          refine ⟨?_, rfl⟩
          rw [← hfin]
          exact ret_int (hrl (.inr (.inl (by omega))))
        by_cases q3 : 55296 ≤ ri
        · by_cases q4 : ri ≤ 57343
          · refine GO ?_
            refine ⟨?_, rfl⟩
            rw [← hfin]
            exact ret_int (hrl (.inr (.inr (by omega))))
          · refine GO ?_
            refine ⟨?_, rfl⟩
            rw [← hfin]
            exact ret_int (by first | exact hro (by have : lowN 2 = 128 := rfl; omega) | (exfalso; omega))
        · refine GO ?_
          refine ⟨?_, rfl⟩
          rw [← hfin]
          exact ret_int (by first | exact hro (by have : lowN 2 = 128 := rfl; omega) | (exfalso; omega))
  by_cases hC : 224 ≤ b ∧ b ≤ 239
  · rw [if_neg hB, if_pos hC] at hnd
    obtain ⟨hC1, hC2⟩ := hC
    refine GO ?_
    by_cases hlen : s.size < at_ + 3
    · refine GO ?_
      refine ⟨?_, rfl⟩
      rw [← hfin]
      exact ret_int (rl_one (.inr (by rw [hnd]; omega)))
    · have hnl : ¬ (3 = 1 ∨ l.length < 3) := by omega
      refine GO ?_
      refine Loop.intro (ι := Nat) (fun i => [(0, .string s), (1, .int .i64 (at_ : Nat)), (6, .int .i64 3), (7, .int .i64 2048), (8, .int .i64 ((i + 1 : Nat) : Int))])
        (fun i wr => w = wr ∧ i + 1 ≤ 3 ∧ ∀ j, 1 ≤ j → j < i + 1 → contB l j) (fun i => 4 - i) 0 ⟨rfl, rfl, rfl, rfl, rfl, trivial⟩ ⟨rfl, by omega, fun j h1 h2 => by omega⟩ ?_
      rintro i g wr ⟨rfl, hi, hj⟩
      (first | refine Then.go hmix ?_ | refine Sat.go hmix ?_ | refine ResK.go ?_ | skip); conv => whnf
      by_cases hlt : i + 1 < 3
      · have hbb : l.getD (i + 1) 0 = byteAt s (at_ + (i + 1)) := by rw [← hld]; exact drop_getD (L s) at_ (i + 1)
        have hb1 := UInt8.toNat_lt (byteAt s (at_ + (i + 1)))
        by_cases hlo : (byteAt s (at_ + (i + 1))).toNat < 128
        · refine GO ?_
          refine ⟨?_, rfl⟩
          rw [← hfin]
          exact ret_int (rl_bad hnd hnl (i + 1) (by omega) hlt (by omega) (by unfold contB; rw [hbb]; omega))
        by_cases hhi : 191 < (byteAt s (at_ + (i + 1))).toNat
        · refine GO ?_
          refine ⟨?_, rfl⟩
          rw [← hfin]
          exact ret_int (rl_bad hnd hnl (i + 1) (by omega) hlt (by omega) (by unfold contB; rw [hbb]; omega))
        · refine GO ?_
          exact ⟨i + 1, ⟨rfl, rfl, rfl, rfl, v_int (by omega), trivial⟩, ⟨rfl, by omega, fun j h1 h2 => by
            rcases (show j < i + 1 ∨ j = i + 1 by omega) with h | h
            · exact hj j h1 h
            · subst h; unfold contB; rw [hbb]; omega⟩, by dsimp only; omega⟩
      · have hji : ∀ j, 1 ≤ j → j < 3 → contB l j := fun j h1 h2 => hj j h1 (by omega)
        refine GO ?_
        refine Cut.bothI (by omega) (by omega) (by omega) ?_
        have hx : L (s.extract at_ (at_ + 3)) = l.take 3 := by rw [L_extract, ← List.take_drop, hld]
        have hxs : (s.extract at_ (at_ + 3)).size = 3 := by rw [← L_len, hx, List.length_take]; omega
        rw [show (((at_ : Nat) : Int)).toNat = at_ by omega, show (((at_ : Nat) : Int) + 3).toNat = at_ + 3 by omega]
        refine GO ?_
        refine CallS.of (Tryz.call93 _ _) (ref_Rune05 (s.extract at_ (at_ + 3)) (by omega) (by omega)) ?_
        rintro e w1 ⟨rfl, rfl⟩
        rw [hx]
        refine ⟨_, rfl, ?_⟩; (first | refine Then.go hmix ?_ | refine Sat.go hmix ?_ | refine ResK.go ?_ | skip); conv => whnf
        have hrl := rl_low (l := l) hnd hnl hji
        have hro := rl_ok (l := l) hnd hnl hji
        generalize runeU (l.take 3) = r at *
        generalize hri : ((r : Nat) : Int) = ri at *
        by_cases q1 : ri < 2048
        · refine GO ?_
          refine ⟨?_, rfl⟩
          rw [← hfin]
          exact ret_int (hrl (.inl (by have : lowN 3 = 2048 := rfl; omega)))
        by_cases q2 : 1114111 < ri
        · refine GO ?_
          refine ⟨?_, rfl⟩
          rw [← hfin]
          exact ret_int (hrl (.inr (.inl (by omega))))
        by_cases q3 : 55296 ≤ ri
        · by_cases q4 : ri ≤ 57343
          · refine GO ?_
            refine ⟨?_, rfl⟩
            rw [← hfin]
            exact ret_int (hrl (.inr (.inr (by omega))))
          · refine GO ?_
            refine ⟨?_, rfl⟩
            rw [← hfin]
            exact ret_int (by first | exact hro (by have : lowN 3 = 2048 := rfl; omega) | (exfalso; omega))
        · refine GO ?_
          refine ⟨?_, rfl⟩
          rw [← hfin]
          exact ret_int (by first | exact hro (by have : lowN 3 = 2048 := rfl; omega) | (exfalso; omega))
  by_cases hD : 240 ≤ b ∧ b ≤ 244
  · rw [if_neg hB, if_neg hC, if_pos hD] at hnd
    obtain ⟨hD1, hD2⟩ := hD
    refine GO ?_
    by_cases hlen : s.size < at_ + 4
    · refine GO ?_
      refine ⟨?_, rfl⟩
      rw [← hfin]
      exact ret_int (rl_one (.inr (by rw [hnd]; omega)))
    · have hnl : ¬ (4 = 1 ∨ l.length < 4) := by omega
      refine GO ?_
      refine Loop.intro (ι := Nat) (fun i => [(0, .string s), (1, .int .i64 (at_ : Nat)), (6, .int .i64 4), (7, .int .i64 65536), (8, .int .i64 ((i + 1 : Nat) : Int))])
        (fun i wr => w = wr ∧ i + 1 ≤ 4 ∧ ∀ j, 1 ≤ j → j < i + 1 → contB l j) (fun i => 4 - i) 0 ⟨rfl, rfl, rfl, rfl, rfl, trivial⟩ ⟨rfl, by omega, fun j h1 h2 => by omega⟩ ?_
      rintro i g wr ⟨rfl, hi, hj⟩
      (first | refine Then.go hmix ?_ | refine Sat.go hmix ?_ | refine ResK.go ?_ | skip); conv => whnf
      by_cases hlt : i + 1 < 4
      · have hbb : l.getD (i + 1) 0 = byteAt s (at_ + (i + 1)) := by rw [← hld]; exact drop_getD (L s) at_ (i + 1)
        have hb1 := UInt8.toNat_lt (byteAt s (at_ + (i + 1)))
        by_cases hlo : (byteAt s (at_ + (i + 1))).toNat < 128
        · refine GO ?_
          refine ⟨?_, rfl⟩
          rw [← hfin]
          exact ret_int (rl_bad hnd hnl (i + 1) (by omega) hlt (by omega) (by unfold contB; rw [hbb]; omega))
        by_cases hhi : 191 < (byteAt s (at_ + (i + 1))).toNat
        · refine GO ?_
          refine ⟨?_, rfl⟩
          rw [← hfin]
          exact ret_int (rl_bad hnd hnl (i + 1) (by omega) hlt (by omega) (by unfold contB; rw [hbb]; omega))
        · refine GO ?_
          exact ⟨i + 1, ⟨rfl, rfl, rfl, rfl, v_int (by omega), trivial⟩, ⟨rfl, by omega, fun j h1 h2 => by
            rcases (show j < i + 1 ∨ j = i + 1 by omega) with h | h
            · exact hj j h1 h
            · subst h; unfold contB; rw [hbb]; omega⟩, by dsimp only; omega⟩
      · have hji : ∀ j, 1 ≤ j → j < 4 → contB l j := fun j h1 h2 => hj j h1 (by omega)
        refine GO ?_
        refine Cut.bothI (by omega) (by omega) (by omega) ?_
        have hx : L (s.extract at_ (at_ + 4)) = l.take 4 := by rw [L_extract, ← List.take_drop, hld]
        have hxs : (s.extract at_ (at_ + 4)).size = 4 := by rw [← L_len, hx, List.length_take]; omega
        rw [show (((at_ : Nat) : Int)).toNat = at_ by omega, show (((at_ : Nat) : Int) + 4).toNat = at_ + 4 by omega]
        refine GO ?_
        refine CallS.of (Tryz.call93 _ _) (ref_Rune05 (s.extract at_ (at_ + 4)) (by omega) (by omega)) ?_
        rintro e w1 ⟨rfl, rfl⟩
        rw [hx]
        refine ⟨_, rfl, ?_⟩; (first | refine Then.go hmix ?_ | refine Sat.go hmix ?_ | refine ResK.go ?_ | skip); conv => whnf
        have hrl := rl_low (l := l) hnd hnl hji
        have hro := rl_ok (l := l) hnd hnl hji
        generalize runeU (l.take 4) = r at *
        generalize hri : ((r : Nat) : Int) = ri at *
        by_cases q1 : ri < 65536
        · refine GO ?_
          refine ⟨?_, rfl⟩
          rw [← hfin]
          exact ret_int (hrl (.inl (by have : lowN 4 = 65536 := rfl; omega)))
        by_cases q2 : 1114111 < ri
        · refine GO ?_
          refine ⟨?_, rfl⟩
          rw [← hfin]
          exact ret_int (hrl (.inr (.inl (by omega))))
        by_cases q3 : 55296 ≤ ri
        · by_cases q4 : ri ≤ 57343
          · refine GO ?_
            refine ⟨?_, rfl⟩
            rw [← hfin]
            exact ret_int (hrl (.inr (.inr (by omega))))
          · refine GO ?_
            refine ⟨?_, rfl⟩
            rw [← hfin]
            exact ret_int (by first | exact hro (by have : lowN 4 = 65536 := rfl; omega) | (exfalso; omega))
        · refine GO ?_
          refine ⟨?_, rfl⟩
          rw [← hfin]
          exact ret_int (by first | exact hro (by have : lowN 4 = 65536 := rfl; omega) | (exfalso; omega))
  · rw [if_neg hB, if_neg hC, if_neg hD] at hnd
    have fin : (Ending.returned (.int .i64 1) = .returned (.int .i64 (((decodeL l).2 : Nat) : Int))) ∧ w = w := by
      refine ⟨?_, rfl⟩
      rw [← hfin]
      exact ret_int (rl_one (.inl hnd))
    by_cases q1 : b < 194
    · refine GO ?_
      exact ⟨fin.1, rfl⟩
    by_cases q2 : 244 < b
    · refine GO ?_
      exact ⟨fin.1, rfl⟩
    exfalso; omega
end
end Go.Proofs.YtdghfagipheabaaGreatDoor

-- alias Tryz
namespace Go.Proofs.YtdghfagipheabaaGreatDoor
open Go.RowKit Go.Pw Go.Vc Go.Cs Go.Lib
set_option linter.unusedVariables false
set_option maxRecDepth 100000
section
variable {w : World}
set_option maxHeartbeats 1000000 in
theorem ref_Units05 (s : ByteArray) (hs : s.size ≤ 100000000) : Calls Tryz.prog 91 #[.string s] w fun e w' => ∃ v, e = .returned v ∧ Txs w' w.heap.size v (units (L s)) ∧ Keeps w w' none_ := by
  have hl := L_len s
  refine calls_of_vc (args := [.string s]) Tryz.func91 rfl (Nat.le_of_ble_eq_true rfl) ?_; refine Sat.go hmix ?_; conv => whnf
  refine Loop.intro (ι := Nat × Option Addr × Nat × List (List UInt8)) (fun i => [(0, .string s), (3, .slice i.2.1 i.2.2.2.length i.2.2.1), (4, .int .i64 (i.1 : Nat))])
    (fun i wr => Keeps w wr none_ ∧ i.1 ≤ s.size ∧ Txs wr w.heap.size (.slice i.2.1 i.2.2.2.length i.2.2.1) i.2.2.2 ∧ units (L s) = i.2.2.2 ++ units ((L s).drop i.1) ∧ i.2.2.2.length ≤ i.1) (fun i => s.size - i.1) (0, none, 0, []) ⟨rfl, rfl, rfl, trivial⟩
    ⟨Keeps.refl _ _, Nat.zero_le _, World.ownsRow_nil _ _ _ _, rfl, Nat.le_refl _⟩ ?_
  rintro ⟨n, a, cap, d⟩ g wr ⟨hK, hn, hv, he, hd⟩
  dsimp only at hn hv he hd ⊢
  (first | refine Then.go hmix ?_ | refine Sat.go hmix ?_ | refine ResK.go ?_ | skip); conv => whnf
  by_cases hlt : n < s.size
  · have hne : (L s).drop n ≠ [] := fun e => by
      have := congrArg List.length e
      rw [List.length_drop, List.length_nil] at this; omega
    have hw := decodeL_width ((L s).drop n)
    have hle := decodeL_le _ hne
    rw [List.length_drop] at hle
    rw [units_step _ hne, List.drop_drop] at he
    refine GO ?_
    refine CallS.of (Tryz.call99 _ _) (ref_length05 (w := wr) s n hlt (by omega)) ?_
    rintro e w1 ⟨rfl, rfl⟩
    generalize (decodeL ((L s).drop n)).2 = k at *
    refine ⟨_, rfl, ?_⟩; (first | refine Then.go hmix ?_ | refine Sat.go hmix ?_ | refine ResK.go ?_ | skip); conv => whnf
    refine GO ?_
    have hx : s.extract n (n + k) = str (((L s).drop n).take k) := by rw [← str_L (s.extract n (n + k)), L_extract, ← List.take_drop]
    rw [hx]
    refine RunV.of (build_text _ _) ?_
    (first | refine Then.go hmix ?_ | refine Sat.go hmix ?_ | refine ResK.go ?_ | skip); conv => whnf
    refine app_text hv hK.size (((L s).drop n).take k) (by omega) fun v' w3 h3 g3 => ?_
    obtain ⟨a3, c3, rfl⟩ : ∃ a c, v' = .slice a (d ++ [((L s).drop n).take k]).length c := own_shape h3
    refine GO ?_
    have K3 : Keeps w w3 none_ := (hK.alloc _).own (own_keep0 hv ((Keeps.refl _ _).alloc _)) (Nat.le_refl _) g3
    exact ⟨(n + k, a3, c3, d ++ [((L s).drop n).take k]), ⟨rfl, rfl, v_int (by simp), trivial⟩, ⟨K3, by dsimp only; omega, h3, by dsimp only; rw [he]; simp, by simp; omega⟩, by dsimp only; omega⟩
  · refine GO ?_
    have hn0 : (L s).drop n = [] := List.drop_eq_nil_of_le (by omega)
    rw [hn0, units_nil, List.append_nil] at he
    refine ⟨_, rfl, ?_, hK⟩
    rw [he]; exact hv
theorem ite_elim {c : Prop} [Decidable c] {a b : Nat} {x : Int} (h1 : c → x = (a : Nat)) (h2 : ¬ c → x = (b : Nat)) : x = ((if c then a else b : Nat) : Int) := by
  by_cases h : c
  · rw [if_pos h]; exact h1 h
  · rw [if_neg h]; exact h2 h
theorem v_low {r : Nat} {k : Int} {w : World} (h : k = (lowC r : Nat)) : Ending.returned (.int .i64 k) = Ending.returned (.int .i64 ((lowC r : Nat) : Int)) ∧ w = w := ⟨by rw [h], rfl⟩
set_option maxHeartbeats 4000000 in
theorem ref_lower05 (r : Nat) (hr : r ≤ 1000000000) : Calls Tryz.prog 92 #[.int .i64 (r : Nat)] w fun e w' => e = .returned (.int .i64 ((lowC r : Nat) : Int)) ∧ w = w' := by
  have htm : (r : Int).tmod 2 = ((r % 2 : Nat) : Int) := by rw [Int.tmod_eq_emod_of_nonneg (by omega)]; rfl
  refine calls_of_vc (args := [.int .i64 (r : Nat)]) Tryz.func92 rfl (Nat.le_of_ble_eq_true rfl) ?_; refine Sat.go hmix ?_; conv => whnf
  refine GO ?_
  refine CallS.of (Tryz.call100 _ _) (ref_in05 (r : Nat) 65 90 w) ?_
  rintro e w' ⟨rfl, rfl⟩
  by_cases h1 : (65 : Int) ≤ (r : Nat) ∧ ((r : Nat) : Int) ≤ 90
  · rw [decide_eq_true h1]
    refine ⟨_, rfl, ?_⟩; (first | refine Then.go hmix ?_ | refine Sat.go hmix ?_ | refine ResK.go ?_ | skip); conv => whnf
    refine GO ?_
    refine ⟨(v_low (r := r) (w := w) ?_).1, rfl⟩
    unfold lowC
    repeat' (first | omega | refine ite_elim (fun _ => ?_) (fun _ => ?_))
  rw [decide_eq_false h1]
  refine ⟨_, rfl, ?_⟩; (first | refine Then.go hmix ?_ | refine Sat.go hmix ?_ | refine ResK.go ?_ | skip); conv => whnf
  refine GO ?_
  refine CallS.of (Tryz.call100 _ _) (ref_in05 (r : Nat) 192 222 w) ?_
  rintro e w' ⟨rfl, rfl⟩
  by_cases h2 : (192 : Int) ≤ (r : Nat) ∧ ((r : Nat) : Int) ≤ 222
  · rw [decide_eq_true h2]
    refine ⟨_, rfl, ?_⟩; (first | refine Then.go hmix ?_ | refine Sat.go hmix ?_ | refine ResK.go ?_ | skip); conv => whnf
    by_cases e2 : r = 215
    · have hev : ¬ r % 2 = 0 := by omega
      refine GO ?_
      refine CallS.of (Tryz.call100 _ _) (ref_in05 (r : Nat) 913 939 w) ?_
      rintro e w' ⟨rfl, rfl⟩
      rw [decide_eq_false (by omega)]
      refine ⟨_, rfl, ?_⟩; (first | refine Then.go hmix ?_ | refine Sat.go hmix ?_ | refine ResK.go ?_ | skip); conv => whnf
      refine GO ?_
      refine CallS.of (Tryz.call100 _ _) (ref_in05 (r : Nat) 1040 1071 w) ?_
      rintro e w' ⟨rfl, rfl⟩
      rw [decide_eq_false (by omega)]
      refine ⟨_, rfl, ?_⟩; (first | refine Then.go hmix ?_ | refine Sat.go hmix ?_ | refine ResK.go ?_ | skip); conv => whnf
      refine GO ?_
      refine CallS.of (Tryz.call100 _ _) (ref_in05 (r : Nat) 1024 1039 w) ?_
      rintro e w' ⟨rfl, rfl⟩
      rw [decide_eq_false (by omega)]
      refine ⟨_, rfl, ?_⟩; (first | refine Then.go hmix ?_ | refine Sat.go hmix ?_ | refine ResK.go ?_ | skip); conv => whnf
      refine GO ?_
      refine CallS.of (Tryz.call100 _ _) (ref_in05 (r : Nat) 313 328 w) ?_
      rintro e w' ⟨rfl, rfl⟩
      rw [decide_eq_false (by omega)]
      refine ⟨_, rfl, ?_⟩; (first | refine Then.go hmix ?_ | refine Sat.go hmix ?_ | refine ResK.go ?_ | skip); conv => whnf
      refine GO ?_
      refine CallS.of (Tryz.call100 _ _) (ref_in05 (r : Nat) 377 382 w) ?_
      rintro e w' ⟨rfl, rfl⟩
      rw [decide_eq_false (by omega)]
      refine ⟨_, rfl, ?_⟩; (first | refine Then.go hmix ?_ | refine Sat.go hmix ?_ | refine ResK.go ?_ | skip); conv => whnf
      refine GO ?_
      refine CallS.of (Tryz.call100 _ _) (ref_in05 (r : Nat) 904 906 w) ?_
      rintro e w' ⟨rfl, rfl⟩
      rw [decide_eq_false (by omega)]
      refine ⟨_, rfl, ?_⟩; (first | refine Then.go hmix ?_ | refine Sat.go hmix ?_ | refine ResK.go ?_ | skip); conv => whnf
      refine GO ?_
      refine ⟨(v_low (r := r) (w := w) ?_).1, rfl⟩
      unfold lowC
      repeat' (first | omega | refine ite_elim (fun _ => ?_) (fun _ => ?_))
    · refine GO ?_
      refine ⟨(v_low (r := r) (w := w) ?_).1, rfl⟩
      unfold lowC
      repeat' (first | omega | refine ite_elim (fun _ => ?_) (fun _ => ?_))
  rw [decide_eq_false h2]
  refine ⟨_, rfl, ?_⟩; (first | refine Then.go hmix ?_ | refine Sat.go hmix ?_ | refine ResK.go ?_ | skip); conv => whnf
  refine GO ?_
  refine CallS.of (Tryz.call100 _ _) (ref_in05 (r : Nat) 913 939 w) ?_
  rintro e w' ⟨rfl, rfl⟩
  by_cases h3 : (913 : Int) ≤ (r : Nat) ∧ ((r : Nat) : Int) ≤ 939
  · rw [decide_eq_true h3]
    refine ⟨_, rfl, ?_⟩; (first | refine Then.go hmix ?_ | refine Sat.go hmix ?_ | refine ResK.go ?_ | skip); conv => whnf
    by_cases e3 : r = 930
    · have hev : r % 2 = 0 := by omega
      refine GO ?_
      refine CallS.of (Tryz.call100 _ _) (ref_in05 (r : Nat) 1040 1071 w) ?_
      rintro e w' ⟨rfl, rfl⟩
      rw [decide_eq_false (by omega)]
      refine ⟨_, rfl, ?_⟩; (first | refine Then.go hmix ?_ | refine Sat.go hmix ?_ | refine ResK.go ?_ | skip); conv => whnf
      refine GO ?_
      refine CallS.of (Tryz.call100 _ _) (ref_in05 (r : Nat) 1024 1039 w) ?_
      rintro e w' ⟨rfl, rfl⟩
      rw [decide_eq_false (by omega)]
      refine ⟨_, rfl, ?_⟩; (first | refine Then.go hmix ?_ | refine Sat.go hmix ?_ | refine ResK.go ?_ | skip); conv => whnf
      refine GO ?_
      refine CallS.of (Tryz.call100 _ _) (ref_in05 (r : Nat) 256 303 w) ?_
      rintro e w' ⟨rfl, rfl⟩
      rw [decide_eq_false (by omega)]
      refine ⟨_, rfl, ?_⟩; (first | refine Then.go hmix ?_ | refine Sat.go hmix ?_ | refine ResK.go ?_ | skip); conv => whnf
      refine GO ?_
      refine CallS.of (Tryz.call100 _ _) (ref_in05 (r : Nat) 306 311 w) ?_
      rintro e w' ⟨rfl, rfl⟩
      rw [decide_eq_false (by omega)]
      refine ⟨_, rfl, ?_⟩; (first | refine Then.go hmix ?_ | refine Sat.go hmix ?_ | refine ResK.go ?_ | skip); conv => whnf
      refine GO ?_
      refine CallS.of (Tryz.call100 _ _) (ref_in05 (r : Nat) 330 375 w) ?_
      rintro e w' ⟨rfl, rfl⟩
      rw [decide_eq_false (by omega)]
      refine ⟨_, rfl, ?_⟩; (first | refine Then.go hmix ?_ | refine Sat.go hmix ?_ | refine ResK.go ?_ | skip); conv => whnf
      refine GO ?_
      refine CallS.of (Tryz.call100 _ _) (ref_in05 (r : Nat) 904 906 w) ?_
      rintro e w' ⟨rfl, rfl⟩
      rw [decide_eq_false (by omega)]
      refine ⟨_, rfl, ?_⟩; (first | refine Then.go hmix ?_ | refine Sat.go hmix ?_ | refine ResK.go ?_ | skip); conv => whnf
      refine GO ?_
      refine ⟨(v_low (r := r) (w := w) ?_).1, rfl⟩
      unfold lowC
      repeat' (first | omega | refine ite_elim (fun _ => ?_) (fun _ => ?_))
    · refine GO ?_
      refine ⟨(v_low (r := r) (w := w) ?_).1, rfl⟩
      unfold lowC
      repeat' (first | omega | refine ite_elim (fun _ => ?_) (fun _ => ?_))
  rw [decide_eq_false h3]
  refine ⟨_, rfl, ?_⟩; (first | refine Then.go hmix ?_ | refine Sat.go hmix ?_ | refine ResK.go ?_ | skip); conv => whnf
  refine GO ?_
  refine CallS.of (Tryz.call100 _ _) (ref_in05 (r : Nat) 1040 1071 w) ?_
  rintro e w' ⟨rfl, rfl⟩
  by_cases h4 : (1040 : Int) ≤ (r : Nat) ∧ ((r : Nat) : Int) ≤ 1071
  · rw [decide_eq_true h4]
    refine ⟨_, rfl, ?_⟩; (first | refine Then.go hmix ?_ | refine Sat.go hmix ?_ | refine ResK.go ?_ | skip); conv => whnf
    refine GO ?_
    refine ⟨(v_low (r := r) (w := w) ?_).1, rfl⟩
    unfold lowC
    repeat' (first | omega | refine ite_elim (fun _ => ?_) (fun _ => ?_))
  rw [decide_eq_false h4]
  refine ⟨_, rfl, ?_⟩; (first | refine Then.go hmix ?_ | refine Sat.go hmix ?_ | refine ResK.go ?_ | skip); conv => whnf
  refine GO ?_
  refine CallS.of (Tryz.call100 _ _) (ref_in05 (r : Nat) 1024 1039 w) ?_
  rintro e w' ⟨rfl, rfl⟩
  by_cases h5 : (1024 : Int) ≤ (r : Nat) ∧ ((r : Nat) : Int) ≤ 1039
  · rw [decide_eq_true h5]
    refine ⟨_, rfl, ?_⟩; (first | refine Then.go hmix ?_ | refine Sat.go hmix ?_ | refine ResK.go ?_ | skip); conv => whnf
    refine GO ?_
    refine ⟨(v_low (r := r) (w := w) ?_).1, rfl⟩
    unfold lowC
    repeat' (first | omega | refine ite_elim (fun _ => ?_) (fun _ => ?_))
  rw [decide_eq_false h5]
  refine ⟨_, rfl, ?_⟩; (first | refine Then.go hmix ?_ | refine Sat.go hmix ?_ | refine ResK.go ?_ | skip); conv => whnf
  refine GO ?_
  by_cases hev : r % 2 = 0
  · refine GO ?_
    refine CallS.of (Tryz.call100 _ _) (ref_in05 (r : Nat) 256 303 w) ?_
    rintro e w' ⟨rfl, rfl⟩
    by_cases h6 : (256 : Int) ≤ (r : Nat) ∧ ((r : Nat) : Int) ≤ 303
    · rw [decide_eq_true h6]
      refine ⟨_, rfl, ?_⟩; (first | refine Then.go hmix ?_ | refine Sat.go hmix ?_ | refine ResK.go ?_ | skip); conv => whnf
      refine GO ?_
      refine ⟨(v_low (r := r) (w := w) ?_).1, rfl⟩
      unfold lowC
      repeat' (first | omega | refine ite_elim (fun _ => ?_) (fun _ => ?_))
    rw [decide_eq_false h6]
    refine ⟨_, rfl, ?_⟩; (first | refine Then.go hmix ?_ | refine Sat.go hmix ?_ | refine ResK.go ?_ | skip); conv => whnf
    refine GO ?_
    refine CallS.of (Tryz.call100 _ _) (ref_in05 (r : Nat) 306 311 w) ?_
    rintro e w' ⟨rfl, rfl⟩
    by_cases h7 : (306 : Int) ≤ (r : Nat) ∧ ((r : Nat) : Int) ≤ 311
    · rw [decide_eq_true h7]
      refine ⟨_, rfl, ?_⟩; (first | refine Then.go hmix ?_ | refine Sat.go hmix ?_ | refine ResK.go ?_ | skip); conv => whnf
      refine GO ?_
      refine ⟨(v_low (r := r) (w := w) ?_).1, rfl⟩
      unfold lowC
      repeat' (first | omega | refine ite_elim (fun _ => ?_) (fun _ => ?_))
    rw [decide_eq_false h7]
    refine ⟨_, rfl, ?_⟩; (first | refine Then.go hmix ?_ | refine Sat.go hmix ?_ | refine ResK.go ?_ | skip); conv => whnf
    refine GO ?_
    refine CallS.of (Tryz.call100 _ _) (ref_in05 (r : Nat) 330 375 w) ?_
    rintro e w' ⟨rfl, rfl⟩
    by_cases h8 : (330 : Int) ≤ (r : Nat) ∧ ((r : Nat) : Int) ≤ 375
    · rw [decide_eq_true h8]
      refine ⟨_, rfl, ?_⟩; (first | refine Then.go hmix ?_ | refine Sat.go hmix ?_ | refine ResK.go ?_ | skip); conv => whnf
      refine GO ?_
      refine ⟨(v_low (r := r) (w := w) ?_).1, rfl⟩
      unfold lowC
      repeat' (first | omega | refine ite_elim (fun _ => ?_) (fun _ => ?_))
    rw [decide_eq_false h8]
    refine ⟨_, rfl, ?_⟩; (first | refine Then.go hmix ?_ | refine Sat.go hmix ?_ | refine ResK.go ?_ | skip); conv => whnf
    refine GO ?_
    by_cases e4 : r = 376
    · refine GO ?_
      refine ⟨(v_low (r := r) (w := w) ?_).1, rfl⟩
      unfold lowC
      repeat' (first | omega | refine ite_elim (fun _ => ?_) (fun _ => ?_))
    by_cases e5 : r = 902
    · refine GO ?_
      refine ⟨(v_low (r := r) (w := w) ?_).1, rfl⟩
      unfold lowC
      repeat' (first | omega | refine ite_elim (fun _ => ?_) (fun _ => ?_))
    refine GO ?_
    refine CallS.of (Tryz.call100 _ _) (ref_in05 (r : Nat) 904 906 w) ?_
    rintro e w' ⟨rfl, rfl⟩
    by_cases h9 : (904 : Int) ≤ (r : Nat) ∧ ((r : Nat) : Int) ≤ 906
    · rw [decide_eq_true h9]
      refine ⟨_, rfl, ?_⟩; (first | refine Then.go hmix ?_ | refine Sat.go hmix ?_ | refine ResK.go ?_ | skip); conv => whnf
      refine GO ?_
      refine ⟨(v_low (r := r) (w := w) ?_).1, rfl⟩
      unfold lowC
      repeat' (first | omega | refine ite_elim (fun _ => ?_) (fun _ => ?_))
    rw [decide_eq_false h9]
    refine ⟨_, rfl, ?_⟩; (first | refine Then.go hmix ?_ | refine Sat.go hmix ?_ | refine ResK.go ?_ | skip); conv => whnf
    refine GO ?_
    by_cases e6 : r = 908
    · refine GO ?_
      refine ⟨(v_low (r := r) (w := w) ?_).1, rfl⟩
      unfold lowC
      repeat' (first | omega | refine ite_elim (fun _ => ?_) (fun _ => ?_))
    by_cases e7 : r = 910
    · refine GO ?_
      refine ⟨(v_low (r := r) (w := w) ?_).1, rfl⟩
      unfold lowC
      repeat' (first | omega | refine ite_elim (fun _ => ?_) (fun _ => ?_))
    · refine GO ?_
      refine ⟨(v_low (r := r) (w := w) ?_).1, rfl⟩
      unfold lowC
      repeat' (first | omega | refine ite_elim (fun _ => ?_) (fun _ => ?_))
  · refine GO ?_
    refine CallS.of (Tryz.call100 _ _) (ref_in05 (r : Nat) 313 328 w) ?_
    rintro e w' ⟨rfl, rfl⟩
    by_cases h6 : (313 : Int) ≤ (r : Nat) ∧ ((r : Nat) : Int) ≤ 328
    · rw [decide_eq_true h6]
      refine ⟨_, rfl, ?_⟩; (first | refine Then.go hmix ?_ | refine Sat.go hmix ?_ | refine ResK.go ?_ | skip); conv => whnf
      refine GO ?_
      refine ⟨(v_low (r := r) (w := w) ?_).1, rfl⟩
      unfold lowC
      repeat' (first | omega | refine ite_elim (fun _ => ?_) (fun _ => ?_))
    rw [decide_eq_false h6]
    refine ⟨_, rfl, ?_⟩; (first | refine Then.go hmix ?_ | refine Sat.go hmix ?_ | refine ResK.go ?_ | skip); conv => whnf
    refine GO ?_
    refine CallS.of (Tryz.call100 _ _) (ref_in05 (r : Nat) 377 382 w) ?_
    rintro e w' ⟨rfl, rfl⟩
    by_cases h7 : (377 : Int) ≤ (r : Nat) ∧ ((r : Nat) : Int) ≤ 382
    · rw [decide_eq_true h7]
      refine ⟨_, rfl, ?_⟩; (first | refine Then.go hmix ?_ | refine Sat.go hmix ?_ | refine ResK.go ?_ | skip); conv => whnf
      refine GO ?_
      refine ⟨(v_low (r := r) (w := w) ?_).1, rfl⟩
      unfold lowC
      repeat' (first | omega | refine ite_elim (fun _ => ?_) (fun _ => ?_))
    rw [decide_eq_false h7]
    refine ⟨_, rfl, ?_⟩; (first | refine Then.go hmix ?_ | refine Sat.go hmix ?_ | refine ResK.go ?_ | skip); conv => whnf
    refine GO ?_
    refine CallS.of (Tryz.call100 _ _) (ref_in05 (r : Nat) 904 906 w) ?_
    rintro e w' ⟨rfl, rfl⟩
    by_cases h9 : (904 : Int) ≤ (r : Nat) ∧ ((r : Nat) : Int) ≤ 906
    · rw [decide_eq_true h9]
      refine ⟨_, rfl, ?_⟩; (first | refine Then.go hmix ?_ | refine Sat.go hmix ?_ | refine ResK.go ?_ | skip); conv => whnf
      refine GO ?_
      refine ⟨(v_low (r := r) (w := w) ?_).1, rfl⟩
      unfold lowC
      repeat' (first | omega | refine ite_elim (fun _ => ?_) (fun _ => ?_))
    rw [decide_eq_false h9]
    refine ⟨_, rfl, ?_⟩; (first | refine Then.go hmix ?_ | refine Sat.go hmix ?_ | refine ResK.go ?_ | skip); conv => whnf
    refine GO ?_
    by_cases e7 : r = 911
    · refine GO ?_
      refine ⟨(v_low (r := r) (w := w) ?_).1, rfl⟩
      unfold lowC
      repeat' (first | omega | refine ite_elim (fun _ => ?_) (fun _ => ?_))
    · refine GO ?_
      refine ⟨(v_low (r := r) (w := w) ?_).1, rfl⟩
      unfold lowC
      repeat' (first | omega | refine ite_elim (fun _ => ?_) (fun _ => ?_))
end
end Go.Proofs.YtdghfagipheabaaGreatDoor
