/- Helper text of this claim: Cr4: lemmas and contracts that the proved statement rests on; no conditions of its own. -/
import Derived.Test.YtmipmlcolaaonaaDoorCr3
import Derived.Test.YtmipmlcolaaonaaDoorWcz
-- alias Tryd
namespace Go.Proofs.YtmipmlcolaaonaaDoor
open Go.RowKit Go.Pw Go.Vc Go.Cs Go.Lib
set_option linter.unusedVariables false
set_option maxRecDepth 100000
section
variable {w : World}
theorem drop_getD (l : List UInt8) (a i : Nat) : (l.drop a).getD i 0 = l.getD (a + i) 0 := by
  rw [List.getD_eq_getElem?_getD, List.getElem?_drop, ← List.getD_eq_getElem?_getD]
theorem rl_one {l : List UInt8} (h : need l = 1 ∨ l.length < need l) : ((1 : Int)) = ((refLen l : Nat) : Int) := by unfold refLen; rw [if_pos h]; rfl
theorem rl_bad {l : List UInt8} {n : Nat} (hn : need l = n) (hl : ¬ (n = 1 ∨ l.length < n)) (i : Nat) (h1 : 1 ≤ i) (h2 : i < n) (h4 : n ≤ 4) (h : ¬ contB l i) : ((1 : Int)) = ((refLen l : Nat) : Int) := by
  unfold refLen
  rw [hn, if_neg hl, if_pos]
  · rfl
  · unfold badC
    rcases (show i = 1 ∨ i = 2 ∨ i = 3 by omega) with e | e | e
    · subst e; exact .inl ⟨by omega, h⟩
    · subst e; exact .inr (.inl ⟨by omega, h⟩)
    · subst e; exact .inr (.inr ⟨by omega, h⟩)
theorem rl_low {l : List UInt8} {n : Nat} (hn : need l = n) (hl : ¬ (n = 1 ∨ l.length < n)) (hc : ∀ i, 1 ≤ i → i < n → contB l i) (h : runeU (l.take n) < lowN n ∨ 1114111 < runeU (l.take n) ∨ (55296 ≤ runeU (l.take n) ∧ runeU (l.take n) ≤ 57343)) : ((1 : Int)) = ((refLen l : Nat) : Int) := by
  unfold refLen
  rw [hn, if_neg hl, if_neg, if_pos h]
  · rfl
  · rintro (⟨h1, h2⟩ | ⟨h1, h2⟩ | ⟨h1, h2⟩)
    · exact h2 (hc 1 (by omega) (by omega))
    · exact h2 (hc 2 (by omega) (by omega))
    · exact h2 (hc 3 (by omega) (by omega))
theorem rl_ok {l : List UInt8} {n : Nat} (hn : need l = n) (hl : ¬ (n = 1 ∨ l.length < n)) (hc : ∀ i, 1 ≤ i → i < n → contB l i) (h : ¬ (runeU (l.take n) < lowN n ∨ 1114111 < runeU (l.take n) ∨ (55296 ≤ runeU (l.take n) ∧ runeU (l.take n) ≤ 57343))) : (n : Int) = ((refLen l : Nat) : Int) := by
  unfold refLen
  rw [hn, if_neg hl, if_neg, if_neg h]
  rintro (⟨h1, h2⟩ | ⟨h1, h2⟩ | ⟨h1, h2⟩)
  · exact h2 (hc 1 (by omega) (by omega))
  · exact h2 (hc 2 (by omega) (by omega))
  · exact h2 (hc 3 (by omega) (by omega))
set_option maxHeartbeats 4000000 in
theorem ref_length05 (s : ByteArray) (at_ : Nat) (hat : at_ < s.size) (hs : s.size ≤ 1000000000) : Calls Tryd.prog 91 #[.string s, .int .i64 (at_ : Nat)] w fun e w' => e = .returned (.int .i64 (((decodeL ((L s).drop at_)).2 : Nat) : Int)) ∧ w = w' := by
  have hl := L_len s
  have hne : (L s).drop at_ ≠ [] := fun e => by
    have := congrArg List.length e
    rw [List.length_drop, List.length_nil] at this; omega
  have hfin := (refLen_eq _ hne).1
  generalize hld : (L s).drop at_ = l at *
  have hll : l.length = s.size - at_ := by rw [← hld, List.length_drop, hl]
  have hb : l.getD 0 0 = byteAt s at_ := by rw [← hld]; exact drop_getD (L s) at_ 0
  have hb0 : (byteAt s at_).toNat < 256 := UInt8.toNat_lt _
  have hnd : need l = if 194 ≤ (byteAt s at_).toNat ∧ (byteAt s at_).toNat ≤ 223 then 2 else if 224 ≤ (byteAt s at_).toNat ∧ (byteAt s at_).toNat ≤ 239 then 3 else if 240 ≤ (byteAt s at_).toNat ∧ (byteAt s at_).toNat ≤ 244 then 4 else 1 := by rw [← hb]; rfl
  refine calls_of_vc (args := [.string s, .int .i64 (at_ : Nat)]) Tryd.func91 rfl (Nat.le_of_ble_eq_true rfl) ?_; refine Sat.go hmix ?_; conv => whnf
  refine GO ?_
  rw [wrap_i64 _ (by omega)]
  generalize (byteAt s at_).toNat = b at *
  by_cases hB : 194 ≤ b ∧ b ≤ 223
  · rw [if_pos hB] at hnd
    obtain ⟨hB1, hB2⟩ := hB
    refine GO ?_
    by_cases hlen : s.size < at_ + 2
    · refine GO ?_
      refine ⟨?_, rfl⟩
      rw [← hfin]
      exact ret_int (rl_one (.inr (by rw [hnd]; omega)))
    · have hnl : ¬ (2 = 1 ∨ l.length < 2) := by omega
      refine GO ?_
      refine Loop.intro (ι := Nat) (fun i => [(0, .string s), (1, .int .i64 (at_ : Nat)), (6, .int .i64 2), (7, .int .i64 128), (8, .int .i64 ((i + 1 : Nat) : Int))])
        (fun i wr => w = wr ∧ i + 1 ≤ 2 ∧ ∀ j, 1 ≤ j → j < i + 1 → contB l j) (fun i => 4 - i) 0 ⟨rfl, rfl, rfl, rfl, rfl, trivial⟩ ⟨rfl, by omega, fun j h1 h2 => by omega⟩ ?_
      rintro i g wr ⟨rfl, hi, hj⟩
      (first | refine Then.go hmix ?_ | refine Sat.go hmix ?_ | refine ResK.go ?_ | skip); conv => whnf
      by_cases hlt : i + 1 < 2
      · have hbb : l.getD (i + 1) 0 = byteAt s (at_ + (i + 1)) := by rw [← hld]; exact drop_getD (L s) at_ (i + 1)
        have hb1 := UInt8.toNat_lt (byteAt s (at_ + (i + 1)))
        by_cases hlo : (byteAt s (at_ + (i + 1))).toNat < 128
        · refine GO ?_
          refine ⟨?_, rfl⟩
          rw [← hfin]
          exact ret_int (rl_bad hnd hnl (i + 1) (by omega) hlt (by omega) (by unfold contB; rw [hbb]; omega))
        by_cases hhi : 191 < (byteAt s (at_ + (i + 1))).toNat
        · refine GO ?_
          refine ⟨?_, rfl⟩
          rw [← hfin]
          exact ret_int (rl_bad hnd hnl (i + 1) (by omega) hlt (by omega) (by unfold contB; rw [hbb]; omega))
        · refine GO ?_
          exact ⟨i + 1, ⟨rfl, rfl, rfl, rfl, v_int (by omega), trivial⟩, ⟨rfl, by omega, fun j h1 h2 => by
            rcases (show j < i + 1 ∨ j = i + 1 by omega) with h | h
            · exact hj j h1 h
            · subst h; unfold contB; rw [hbb]; omega⟩, by dsimp only; omega⟩
      · have hji : ∀ j, 1 ≤ j → j < 2 → contB l j := fun j h1 h2 => hj j h1 (by omega)
        refine GO ?_
        refine Cut.bothI (by omega) (by omega) (by omega) ?_
        have hx : L (s.extract at_ (at_ + 2)) = l.take 2 := by rw [L_extract, ← List.take_drop, hld]
        have hxs : (s.extract at_ (at_ + 2)).size = 2 := by rw [← L_len, hx, List.length_take]; omega
        rw [show (((at_ : Nat) : Int)).toNat = at_ by omega, show (((at_ : Nat) : Int) + 2).toNat = at_ + 2 by omega]
        refine GO ?_
        refine CallS.of (Tryd.call92 _ _) (ref_Rune05 (s.extract at_ (at_ + 2)) (by omega) (by omega)) ?_
        rintro e w1 ⟨rfl, rfl⟩
        rw [hx]
        refine ⟨_, rfl, ?_⟩; (first | refine Then.go hmix ?_ | refine Sat.go hmix ?_ | refine ResK.go ?_ | skip); conv => whnf
        have hrl := rl_low (l := l) hnd hnl hji
        have hro := rl_ok (l := l) hnd hnl hji
        generalize runeU (l.take 2) = r at *
        generalize hri : ((r : Nat) : Int) = ri at *
        by_cases q1 : ri < 128
        · refine GO ?_
          refine ⟨?_, rfl⟩
          rw [← hfin]
          exact ret_int (hrl (.inl (by have : lowN 2 = 128 := rfl; omega)))
        by_cases q2 : 1114111 < ri
        · refine GO ?_
          refine ⟨?_, rfl⟩
          rw [← hfin]
          exact ret_int (hrl (.inr (.inl (by omega))))
        by_cases q3 : 55296 ≤ ri
        · by_cases q4 : ri ≤ 57343
          · refine GO ?_
            refine ⟨?_, rfl⟩
            rw [← hfin]
            exact ret_int (hrl (.inr (.inr (by omega))))
          · refine GO ?_
            refine ⟨?_, rfl⟩
            rw [← hfin]
            exact ret_int (by first | exact hro (by have : lowN 2 = 128 := rfl; omega) | (exfalso; omega))
        · refine GO ?_
          refine ⟨?_, rfl⟩
          rw [← hfin]
          exact ret_int (by first | exact hro (by have : lowN 2 = 128 := rfl; omega) | (exfalso; omega))
  by_cases hC : 224 ≤ b ∧ b ≤ 239
  · rw [if_neg hB, if_pos hC] at hnd
    obtain ⟨hC1, hC2⟩ := hC
    refine GO ?_
    by_cases hlen : s.size < at_ + 3
    · refine GO ?_
      refine ⟨?_, rfl⟩
      rw [← hfin]
      exact ret_int (rl_one (.inr (by rw [hnd]; omega)))
    · have hnl : ¬ (3 = 1 ∨ l.length < 3) := by omega
      refine GO ?_
      refine Loop.intro (ι := Nat) (fun i => [(0, .string s), (1, .int .i64 (at_ : Nat)), (6, .int .i64 3), (7, .int .i64 2048), (8, .int .i64 ((i + 1 : Nat) : Int))])
        (fun i wr => w = wr ∧ i + 1 ≤ 3 ∧ ∀ j, 1 ≤ j → j < i + 1 → contB l j) (fun i => 4 - i) 0 ⟨rfl, rfl, rfl, rfl, rfl, trivial⟩ ⟨rfl, by omega, fun j h1 h2 => by omega⟩ ?_
      rintro i g wr ⟨rfl, hi, hj⟩
      (first | refine Then.go hmix ?_ | refine Sat.go hmix ?_ | refine ResK.go ?_ | skip); conv => whnf
      by_cases hlt : i + 1 < 3
      · have hbb : l.getD (i + 1) 0 = byteAt s (at_ + (i + 1)) := by rw [← hld]; exact drop_getD (L s) at_ (i + 1)
        have hb1 := UInt8.toNat_lt (byteAt s (at_ + (i + 1)))
        by_cases hlo : (byteAt s (at_ + (i + 1))).toNat < 128
        · refine GO ?_
          refine ⟨?_, rfl⟩
          rw [← hfin]
          exact ret_int (rl_bad hnd hnl (i + 1) (by omega) hlt (by omega) (by unfold contB; rw [hbb]; omega))
        by_cases hhi : 191 < (byteAt s (at_ + (i + 1))).toNat
        · refine GO ?_
          refine ⟨?_, rfl⟩
          rw [← hfin]
          exact ret_int (rl_bad hnd hnl (i + 1) (by omega) hlt (by omega) (by unfold contB; rw [hbb]; omega))
        · refine GO ?_
          exact ⟨i + 1, ⟨rfl, rfl, rfl, rfl, v_int (by omega), trivial⟩, ⟨rfl, by omega, fun j h1 h2 => by
            rcases (show j < i + 1 ∨ j = i + 1 by omega) with h | h
            · exact hj j h1 h
            · subst h; unfold contB; rw [hbb]; omega⟩, by dsimp only; omega⟩
      · have hji : ∀ j, 1 ≤ j → j < 3 → contB l j := fun j h1 h2 => hj j h1 (by omega)
        refine GO ?_
        refine Cut.bothI (by omega) (by omega) (by omega) ?_
        have hx : L (s.extract at_ (at_ + 3)) = l.take 3 := by rw [L_extract, ← List.take_drop, hld]
        have hxs : (s.extract at_ (at_ + 3)).size = 3 := by rw [← L_len, hx, List.length_take]; omega
        rw [show (((at_ : Nat) : Int)).toNat = at_ by omega, show (((at_ : Nat) : Int) + 3).toNat = at_ + 3 by omega]
        refine GO ?_
        refine CallS.of (Tryd.call92 _ _) (ref_Rune05 (s.extract at_ (at_ + 3)) (by omega) (by omega)) ?_
        rintro e w1 ⟨rfl, rfl⟩
        rw [hx]
        refine ⟨_, rfl, ?_⟩; (first | refine Then.go hmix ?_ | refine Sat.go hmix ?_ | refine ResK.go ?_ | skip); conv => whnf
        have hrl := rl_low (l := l) hnd hnl hji
        have hro := rl_ok (l := l) hnd hnl hji
        generalize runeU (l.take 3) = r at *
        generalize hri : ((r : Nat) : Int) = ri at *
        by_cases q1 : ri < 2048
        · refine GO ?_
          refine ⟨?_, rfl⟩
          rw [← hfin]
          exact ret_int (hrl (.inl (by have : lowN 3 = 2048 := rfl; omega)))
        by_cases q2 : 1114111 < ri
        · refine GO ?_
          refine ⟨?_, rfl⟩
          rw [← hfin]
          exact ret_int (hrl (.inr (.inl (by omega))))
        by_cases q3 : 55296 ≤ ri
        · by_cases q4 : ri ≤ 57343
          · refine GO ?_
            refine ⟨?_, rfl⟩
            rw [← hfin]
            exact ret_int (hrl (.inr (.inr (by omega))))
          · refine GO ?_
            refine ⟨?_, rfl⟩
            rw [← hfin]
            exact ret_int (by first | exact hro (by have : lowN 3 = 2048 := rfl; omega) | (exfalso; omega))
        · refine GO ?_
          refine ⟨?_, rfl⟩
          rw [← hfin]
          exact ret_int (by first | exact hro (by have : lowN 3 = 2048 := rfl; omega) | (exfalso; omega))
  by_cases hD : 240 ≤ b ∧ b ≤ 244
  · rw [if_neg hB, if_neg hC, if_pos hD] at hnd
    obtain ⟨hD1, hD2⟩ := hD
    refine GO ?_
    by_cases hlen : s.size < at_ + 4
    · refine GO ?_
      refine ⟨?_, rfl⟩
      rw [← hfin]
      exact ret_int (rl_one (.inr (by rw [hnd]; omega)))
    · have hnl : ¬ (4 = 1 ∨ l.length < 4) := by omega
      refine GO ?_
      refine Loop.intro (ι := Nat) (fun i => [(0, .string s), (1, .int .i64 (at_ : Nat)), (6, .int .i64 4), (7, .int .i64 65536), (8, .int .i64 ((i + 1 : Nat) : Int))])
        (fun i wr => w = wr ∧ i + 1 ≤ 4 ∧ ∀ j, 1 ≤ j → j < i + 1 → contB l j) (fun i => 4 - i) 0 ⟨rfl, rfl, rfl, rfl, rfl, trivial⟩ ⟨rfl, by omega, fun j h1 h2 => by omega⟩ ?_
      rintro i g wr ⟨rfl, hi, hj⟩
      (first | refine Then.go hmix ?_ | refine Sat.go hmix ?_ | refine ResK.go ?_ | skip); conv => whnf
      by_cases hlt : i + 1 < 4
      · have hbb : l.getD (i + 1) 0 = byteAt s (at_ + (i + 1)) := by rw [← hld]; exact drop_getD (L s) at_ (i + 1)
        have hb1 := UInt8.toNat_lt (byteAt s (at_ + (i + 1)))
        by_cases hlo : (byteAt s (at_ + (i + 1))).toNat < 128
        · refine GO ?_
          refine ⟨?_, rfl⟩
          rw [← hfin]
          exact ret_int (rl_bad hnd hnl (i + 1) (by omega) hlt (by omega) (by unfold contB; rw [hbb]; omega))
        by_cases hhi : 191 < (byteAt s (at_ + (i + 1))).toNat
        · refine GO ?_
          refine ⟨?_, rfl⟩
          rw [← hfin]
          exact ret_int (rl_bad hnd hnl (i + 1) (by omega) hlt (by omega) (by unfold contB; rw [hbb]; omega))
        · refine GO ?_
          exact ⟨i + 1, ⟨rfl, rfl, rfl, rfl, v_int (by omega), trivial⟩, ⟨rfl, by omega, fun j h1 h2 => by
            rcases (show j < i + 1 ∨ j = i + 1 by omega) with h | h
            · exact hj j h1 h
            · subst h; unfold contB; rw [hbb]; omega⟩, by dsimp only; omega⟩
      · have hji : ∀ j, 1 ≤ j → j < 4 → contB l j := fun j h1 h2 => hj j h1 (by omega)
        refine GO ?_
        refine Cut.bothI (by omega) (by omega) (by omega) ?_
        have hx : L (s.extract at_ (at_ + 4)) = l.take 4 := by rw [L_extract, ← List.take_drop, hld]
        have hxs : (s.extract at_ (at_ + 4)).size = 4 := by rw [← L_len, hx, List.length_take]; omega
        rw [show (((at_ : Nat) : Int)).toNat = at_ by omega, show (((at_ : Nat) : Int) + 4).toNat = at_ + 4 by omega]
        refine GO ?_
        refine CallS.of (Tryd.call92 _ _) (ref_Rune05 (s.extract at_ (at_ + 4)) (by omega) (by omega)) ?_
        rintro e w1 ⟨rfl, rfl⟩
        rw [hx]
        refine ⟨_, rfl, ?_⟩; (first | refine Then.go hmix ?_ | refine Sat.go hmix ?_ | refine ResK.go ?_ | skip); conv => whnf
        have hrl := rl_low (l := l) hnd hnl hji
        have hro := rl_ok (l := l) hnd hnl hji
        generalize runeU (l.take 4) = r at *
        generalize hri : ((r : Nat) : Int) = ri at *
        by_cases q1 : ri < 65536
        · refine GO ?_
          refine ⟨?_, rfl⟩
          rw [← hfin]
          exact ret_int (hrl (.inl (by have : lowN 4 = 65536 := rfl; omega)))
        by_cases q2 : 1114111 < ri
        · refine GO ?_
          refine ⟨?_, rfl⟩
          rw [← hfin]
          exact ret_int (hrl (.inr (.inl (by omega))))
        by_cases q3 : 55296 ≤ ri
        · by_cases q4 : ri ≤ 57343
          · refine GO ?_
            refine ⟨?_, rfl⟩
            rw [← hfin]
            exact ret_int (hrl (.inr (.inr (by omega))))
          · refine GO ?_
            refine ⟨?_, rfl⟩
            rw [← hfin]
            exact ret_int (by first | exact hro (by have : lowN 4 = 65536 := rfl; omega) | (exfalso; omega))
        · refine GO ?_
          refine ⟨?_, rfl⟩
          rw [← hfin]
          exact ret_int (by first | exact hro (by have : lowN 4 = 65536 := rfl; omega) | (exfalso; omega))
  · rw [if_neg hB, if_neg hC, if_neg hD] at hnd
    have fin : (Ending.returned (.int .i64 1) = .returned (.int .i64 (((decodeL l).2 : Nat) : Int))) ∧ w = w := by
      refine ⟨?_, rfl⟩
      rw [← hfin]
      exact ret_int (rl_one (.inl hnd))
    by_cases q1 : b < 194
    · refine GO ?_
      exact ⟨fin.1, rfl⟩
    by_cases q2 : 244 < b
    · refine GO ?_
      exact ⟨fin.1, rfl⟩
    exfalso; omega
end
end Go.Proofs.YtmipmlcolaaonaaDoor
