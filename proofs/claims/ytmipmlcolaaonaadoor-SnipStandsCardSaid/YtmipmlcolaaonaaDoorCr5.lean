/- Helper text of this claim: Cr5: lemmas and contracts that the proved statement rests on; no conditions of its own. -/
import Derived.Test.YtmipmlcolaaonaaDoorCr4
import Derived.Test.YtmipmlcolaaonaaDoorWcz
-- alias Tryd
namespace Go.Proofs.YtmipmlcolaaonaaDoor
open Go.RowKit Go.Pw Go.Vc Go.Cs Go.Lib
set_option linter.unusedVariables false
set_option maxRecDepth 100000
section
variable {w : World}
set_option maxHeartbeats 1000000 in
theorem ref_Units05 (s : ByteArray) (hs : s.size ≤ 100000000) : Calls Tryd.prog 71 #[.string s] w fun e w' => ∃ v, e = .returned v ∧ Txs w' w.heap.size v (units (L s)) ∧ Keeps w w' none_ := by
  have hl := L_len s
  refine calls_of_vc (args := [.string s]) Tryd.func71 rfl (Nat.le_of_ble_eq_true rfl) ?_; refine Sat.go hmix ?_; conv => whnf
  refine Loop.intro (ι := Nat × Option Addr × Nat × List (List UInt8)) (fun i => [(0, .string s), (3, .slice i.2.1 i.2.2.2.length i.2.2.1), (4, .int .i64 (i.1 : Nat))])
    (fun i wr => Keeps w wr none_ ∧ i.1 ≤ s.size ∧ Txs wr w.heap.size (.slice i.2.1 i.2.2.2.length i.2.2.1) i.2.2.2 ∧ units (L s) = i.2.2.2 ++ units ((L s).drop i.1) ∧ i.2.2.2.length ≤ i.1) (fun i => s.size - i.1) (0, none, 0, []) ⟨rfl, rfl, rfl, trivial⟩
    ⟨Keeps.refl _ _, Nat.zero_le _, World.ownsRow_nil _ _ _ _, rfl, Nat.le_refl _⟩ ?_
  rintro ⟨n, a, cap, d⟩ g wr ⟨hK, hn, hv, he, hd⟩
  dsimp only at hn hv he hd ⊢
  (first | refine Then.go hmix ?_ | refine Sat.go hmix ?_ | refine ResK.go ?_ | skip); conv => whnf
  by_cases hlt : n < s.size
  · have hne : (L s).drop n ≠ [] := fun e => by
      have := congrArg List.length e
      rw [List.length_drop, List.length_nil] at this; omega
    have hw := decodeL_width ((L s).drop n)
    have hle := decodeL_le _ hne
    rw [List.length_drop] at hle
    rw [units_step _ hne, List.drop_drop] at he
    refine GO ?_
    refine CallS.of (Tryd.call91 _ _) (ref_length05 (w := wr) s n hlt (by omega)) ?_
    rintro e w1 ⟨rfl, rfl⟩
    generalize (decodeL ((L s).drop n)).2 = k at *
    refine ⟨_, rfl, ?_⟩; (first | refine Then.go hmix ?_ | refine Sat.go hmix ?_ | refine ResK.go ?_ | skip); conv => whnf
    refine GO ?_
    have hx : s.extract n (n + k) = str (((L s).drop n).take k) := by rw [← str_L (s.extract n (n + k)), L_extract, ← List.take_drop]
    rw [hx]
    refine RunV.of (build_text _ _) ?_
    (first | refine Then.go hmix ?_ | refine Sat.go hmix ?_ | refine ResK.go ?_ | skip); conv => whnf
    refine app_text hv hK.size (((L s).drop n).take k) (by omega) fun v' w3 h3 g3 => ?_
    obtain ⟨a3, c3, rfl⟩ : ∃ a c, v' = .slice a (d ++ [((L s).drop n).take k]).length c := own_shape h3
    refine GO ?_
    have K3 : Keeps w w3 none_ := (hK.alloc _).own (own_keep0 hv ((Keeps.refl _ _).alloc _)) (Nat.le_refl _) g3
    exact ⟨(n + k, a3, c3, d ++ [((L s).drop n).take k]), ⟨rfl, rfl, v_int (by simp), trivial⟩, ⟨K3, by dsimp only; omega, h3, by dsimp only; rw [he]; simp, by simp; omega⟩, by dsimp only; omega⟩
  · refine GO ?_
    have hn0 : (L s).drop n = [] := List.drop_eq_nil_of_le (by omega)
    rw [hn0, units_nil, List.append_nil] at he
    refine ⟨_, rfl, ?_, hK⟩
    rw [he]; exact hv
theorem ref_of32 (u : List UInt8) (h : IsUnit u) (h4 : u.length ≤ 4) : Calls Tryd.prog 72 #[.string (str u)] w fun e w' => e = .returned (.int .i64 ((clsN (decodeL u) : Nat) : Int)) ∧ w = w' := by
  have hsz : (str u).size = u.length := str_size u
  have h0 : 0 < u.length := List.length_pos_iff.2 h.1
  have hb : (byteAt (str u) 0).toNat < 256 := UInt8.toNat_lt _
  have hg : u.getD 0 0 = byteAt (str u) 0 := rfl
  rw [← clsU_eq u h]
  unfold clsU
  rw [hg]
  refine calls_of_vc (args := [.string (str u)]) Tryd.func72 rfl (Nat.le_of_ble_eq_true rfl) ?_; refine Sat.go hmix ?_; conv => whnf
  by_cases h1 : u.length = 1
  · by_cases h2 : 128 ≤ (byteAt (str u) 0).toNat
    · refine GO ?_
      rw [if_pos ⟨h1, h2⟩]
      exact ⟨rfl, rfl⟩
    · refine GO ?_
      refine CallS.of (Tryd.call92 _ _) (ref_Rune05 (w := w) (str u) (by omega) (by omega)) ?_
      rintro e w1 ⟨rfl, rfl⟩
      refine ⟨_, rfl, ?_⟩; (first | refine Then.go hmix ?_ | refine Sat.go hmix ?_ | refine ResK.go ?_ | skip); conv => whnf
      refine CallS.of (Tryd.call34 _ _) (ref_Kind32 _ w) ?_
      rintro e w1 ⟨rfl, rfl⟩
      refine ⟨_, rfl, ?_⟩; (first | refine Then.go hmix ?_ | refine Sat.go hmix ?_ | refine ResK.go ?_ | skip); conv => whnf
      rw [if_neg (by omega), L_str]
      exact ⟨rfl, rfl⟩
  · refine GO ?_
    refine CallS.of (Tryd.call92 _ _) (ref_Rune05 (w := w) (str u) (by omega) (by omega)) ?_
    rintro e w1 ⟨rfl, rfl⟩
    refine ⟨_, rfl, ?_⟩; (first | refine Then.go hmix ?_ | refine Sat.go hmix ?_ | refine ResK.go ?_ | skip); conv => whnf
    refine CallS.of (Tryd.call34 _ _) (ref_Kind32 _ w) ?_
    rintro e w1 ⟨rfl, rfl⟩
    refine ⟨_, rfl, ?_⟩; (first | refine Then.go hmix ?_ | refine Sat.go hmix ?_ | refine ResK.go ?_ | skip); conv => whnf
    rw [if_neg (by omega), L_str]
    exact ⟨rfl, rfl⟩
theorem ite_elim {c : Prop} [Decidable c] {a b : Nat} {x : Int} (h1 : c → x = (a : Nat)) (h2 : ¬ c → x = (b : Nat)) : x = ((if c then a else b : Nat) : Int) := by
  by_cases h : c
  · rw [if_pos h]; exact h1 h
  · rw [if_neg h]; exact h2 h
theorem v_low {r : Nat} {k : Int} {w : World} (h : k = (lowC r : Nat)) : Ending.returned (.int .i64 k) = Ending.returned (.int .i64 ((lowC r : Nat) : Int)) ∧ w = w := ⟨by rw [h], rfl⟩
set_option maxHeartbeats 4000000 in
theorem ref_lower05 (r : Nat) (hr : r ≤ 1000000000) : Calls Tryd.prog 93 #[.int .i64 (r : Nat)] w fun e w' => e = .returned (.int .i64 ((lowC r : Nat) : Int)) ∧ w = w' := by
  have htm : (r : Int).tmod 2 = ((r % 2 : Nat) : Int) := by rw [Int.tmod_eq_emod_of_nonneg (by omega)]; rfl
  refine calls_of_vc (args := [.int .i64 (r : Nat)]) Tryd.func93 rfl (Nat.le_of_ble_eq_true rfl) ?_; refine Sat.go hmix ?_; conv => whnf
  refine GO ?_
  refine CallS.of (Tryd.call101 _ _) (ref_in05 (r : Nat) 65 90 w) ?_
  rintro e w' ⟨rfl, rfl⟩
  by_cases h1 : (65 : Int) ≤ (r : Nat) ∧ ((r : Nat) : Int) ≤ 90
  · rw [decide_eq_true h1]
    refine ⟨_, rfl, ?_⟩; (first | refine Then.go hmix ?_ | refine Sat.go hmix ?_ | refine ResK.go ?_ | skip); conv => whnf
    refine GO ?_
    refine ⟨(v_low (r := r) (w := w) ?_).1, rfl⟩
    unfold lowC
    repeat' (first | omega | refine ite_elim (fun _ => ?_) (fun _ => ?_))
  rw [decide_eq_false h1]
  refine ⟨_, rfl, ?_⟩; (first | refine Then.go hmix ?_ | refine Sat.go hmix ?_ | refine ResK.go ?_ | skip); conv => whnf
  refine GO ?_
  refine CallS.of (Tryd.call101 _ _) (ref_in05 (r : Nat) 192 222 w) ?_
  rintro e w' ⟨rfl, rfl⟩
  by_cases h2 : (192 : Int) ≤ (r : Nat) ∧ ((r : Nat) : Int) ≤ 222
  · rw [decide_eq_true h2]
    refine ⟨_, rfl, ?_⟩; (first | refine Then.go hmix ?_ | refine Sat.go hmix ?_ | refine ResK.go ?_ | skip); conv => whnf
    by_cases e2 : r = 215
    · have hev : ¬ r % 2 = 0 := by omega
      refine GO ?_
      refine CallS.of (Tryd.call101 _ _) (ref_in05 (r : Nat) 913 939 w) ?_
      rintro e w' ⟨rfl, rfl⟩
      rw [decide_eq_false (by omega)]
      refine ⟨_, rfl, ?_⟩; (first | refine Then.go hmix ?_ | refine Sat.go hmix ?_ | refine ResK.go ?_ | skip); conv => whnf
      refine GO ?_
      refine CallS.of (Tryd.call101 _ _) (ref_in05 (r : Nat) 1040 1071 w) ?_
      rintro e w' ⟨rfl, rfl⟩
      rw [decide_eq_false (by omega)]
      refine ⟨_, rfl, ?_⟩; (first | refine Then.go hmix ?_ | refine Sat.go hmix ?_ | refine ResK.go ?_ | skip); conv => whnf
      refine GO ?_
      refine CallS.of (Tryd.call101 _ _) (ref_in05 (r : Nat) 1024 1039 w) ?_
      rintro e w' ⟨rfl, rfl⟩
      rw [decide_eq_false (by omega)]
      refine ⟨_, rfl, ?_⟩; (first | refine Then.go hmix ?_ | refine Sat.go hmix ?_ | refine ResK.go ?_ | skip); conv => whnf
      refine GO ?_
      refine CallS.of (Tryd.call101 _ _) (ref_in05 (r : Nat) 313 328 w) ?_
      rintro e w' ⟨rfl, rfl⟩
      rw [decide_eq_false (by omega)]
      refine ⟨_, rfl, ?_⟩; (first | refine Then.go hmix ?_ | refine Sat.go hmix ?_ | refine ResK.go ?_ | skip); conv => whnf
      refine GO ?_
      refine CallS.of (Tryd.call101 _ _) (ref_in05 (r : Nat) 377 382 w) ?_
      rintro e w' ⟨rfl, rfl⟩
      rw [decide_eq_false (by omega)]
      refine ⟨_, rfl, ?_⟩; (first | refine Then.go hmix ?_ | refine Sat.go hmix ?_ | refine ResK.go ?_ | skip); conv => whnf
      refine GO ?_
      refine CallS.of (Tryd.call101 _ _) (ref_in05 (r : Nat) 904 906 w) ?_
      rintro e w' ⟨rfl, rfl⟩
      rw [decide_eq_false (by omega)]
      refine ⟨_, rfl, ?_⟩; (first | refine Then.go hmix ?_ | refine Sat.go hmix ?_ | refine ResK.go ?_ | skip); conv => whnf
      refine GO ?_
      refine ⟨(v_low (r := r) (w := w) ?_).1, rfl⟩
      unfold lowC
      repeat' (first | omega | refine ite_elim (fun _ => ?_) (fun _ => ?_))
    · refine GO ?_
      refine ⟨(v_low (r := r) (w := w) ?_).1, rfl⟩
      unfold lowC
      repeat' (first | omega | refine ite_elim (fun _ => ?_) (fun _ => ?_))
  rw [decide_eq_false h2]
  refine ⟨_, rfl, ?_⟩; (first | refine Then.go hmix ?_ | refine Sat.go hmix ?_ | refine ResK.go ?_ | skip); conv => whnf
  refine GO ?_
  refine CallS.of (Tryd.call101 _ _) (ref_in05 (r : Nat) 913 939 w) ?_
  rintro e w' ⟨rfl, rfl⟩
  by_cases h3 : (913 : Int) ≤ (r : Nat) ∧ ((r : Nat) : Int) ≤ 939
  · rw [decide_eq_true h3]
    refine ⟨_, rfl, ?_⟩; (first | refine Then.go hmix ?_ | refine Sat.go hmix ?_ | refine ResK.go ?_ | skip); conv => whnf
    by_cases e3 : r = 930
    · have hev : r % 2 = 0 := by omega
      refine GO ?_
      refine CallS.of (Tryd.call101 _ _) (ref_in05 (r : Nat) 1040 1071 w) ?_
      rintro e w' ⟨rfl, rfl⟩
      rw [decide_eq_false (by omega)]
      refine ⟨_, rfl, ?_⟩; (first | refine Then.go hmix ?_ | refine Sat.go hmix ?_ | refine ResK.go ?_ | skip); conv => whnf
      refine GO ?_
      refine CallS.of (Tryd.call101 _ _) (ref_in05 (r : Nat) 1024 1039 w) ?_
      rintro e w' ⟨rfl, rfl⟩
      rw [decide_eq_false (by omega)]
      refine ⟨_, rfl, ?_⟩; (first | refine Then.go hmix ?_ | refine Sat.go hmix ?_ | refine ResK.go ?_ | skip); conv => whnf
      refine GO ?_
      refine CallS.of (Tryd.call101 _ _) (ref_in05 (r : Nat) 256 303 w) ?_
      rintro e w' ⟨rfl, rfl⟩
      rw [decide_eq_false (by omega)]
      refine ⟨_, rfl, ?_⟩; (first | refine Then.go hmix ?_ | refine Sat.go hmix ?_ | refine ResK.go ?_ | skip); conv => whnf
      refine GO ?_
      refine CallS.of (Tryd.call101 _ _) (ref_in05 (r : Nat) 306 311 w) ?_
      rintro e w' ⟨rfl, rfl⟩
      rw [decide_eq_false (by omega)]
      refine ⟨_, rfl, ?_⟩; (first | refine Then.go hmix ?_ | refine Sat.go hmix ?_ | refine ResK.go ?_ | skip); conv => whnf
      refine GO ?_
      refine CallS.of (Tryd.call101 _ _) (ref_in05 (r : Nat) 330 375 w) ?_
      rintro e w' ⟨rfl, rfl⟩
      rw [decide_eq_false (by omega)]
      refine ⟨_, rfl, ?_⟩; (first | refine Then.go hmix ?_ | refine Sat.go hmix ?_ | refine ResK.go ?_ | skip); conv => whnf
      refine GO ?_
      refine CallS.of (Tryd.call101 _ _) (ref_in05 (r : Nat) 904 906 w) ?_
      rintro e w' ⟨rfl, rfl⟩
      rw [decide_eq_false (by omega)]
      refine ⟨_, rfl, ?_⟩; (first | refine Then.go hmix ?_ | refine Sat.go hmix ?_ | refine ResK.go ?_ | skip); conv => whnf
      refine GO ?_
      refine ⟨(v_low (r := r) (w := w) ?_).1, rfl⟩
      unfold lowC
      repeat' (first | omega | refine ite_elim (fun _ => ?_) (fun _ => ?_))
    · refine GO ?_
      refine ⟨(v_low (r := r) (w := w) ?_).1, rfl⟩
      unfold lowC
      repeat' (first | omega | refine ite_elim (fun _ => ?_) (fun _ => ?_))
  rw [decide_eq_false h3]
  refine ⟨_, rfl, ?_⟩; (first | refine Then.go hmix ?_ | refine Sat.go hmix ?_ | refine ResK.go ?_ | skip); conv => whnf
  refine GO ?_
  refine CallS.of (Tryd.call101 _ _) (ref_in05 (r : Nat) 1040 1071 w) ?_
  rintro e w' ⟨rfl, rfl⟩
  by_cases h4 : (1040 : Int) ≤ (r : Nat) ∧ ((r : Nat) : Int) ≤ 1071
  · rw [decide_eq_true h4]
    refine ⟨_, rfl, ?_⟩; (first | refine Then.go hmix ?_ | refine Sat.go hmix ?_ | refine ResK.go ?_ | skip); conv => whnf
    refine GO ?_
    refine ⟨(v_low (r := r) (w := w) ?_).1, rfl⟩
    unfold lowC
    repeat' (first | omega | refine ite_elim (fun _ => ?_) (fun _ => ?_))
  rw [decide_eq_false h4]
  refine ⟨_, rfl, ?_⟩; (first | refine Then.go hmix ?_ | refine Sat.go hmix ?_ | refine ResK.go ?_ | skip); conv => whnf
  refine GO ?_
  refine CallS.of (Tryd.call101 _ _) (ref_in05 (r : Nat) 1024 1039 w) ?_
  rintro e w' ⟨rfl, rfl⟩
  by_cases h5 : (1024 : Int) ≤ (r : Nat) ∧ ((r : Nat) : Int) ≤ 1039
  · rw [decide_eq_true h5]
    refine ⟨_, rfl, ?_⟩; (first | refine Then.go hmix ?_ | refine Sat.go hmix ?_ | refine ResK.go ?_ | skip); conv => whnf
    refine GO ?_
    refine ⟨(v_low (r := r) (w := w) ?_).1, rfl⟩
    unfold lowC
    repeat' (first | omega | refine ite_elim (fun _ => ?_) (fun _ => ?_))
  rw [decide_eq_false h5]
  refine ⟨_, rfl, ?_⟩; (first | refine Then.go hmix ?_ | refine Sat.go hmix ?_ | refine ResK.go ?_ | skip); conv => whnf
  refine GO ?_
  by_cases hev : r % 2 = 0
  · refine GO ?_
    refine CallS.of (Tryd.call101 _ _) (ref_in05 (r : Nat) 256 303 w) ?_
    rintro e w' ⟨rfl, rfl⟩
    by_cases h6 : (256 : Int) ≤ (r : Nat) ∧ ((r : Nat) : Int) ≤ 303
    · rw [decide_eq_true h6]
      refine ⟨_, rfl, ?_⟩; (first | refine Then.go hmix ?_ | refine Sat.go hmix ?_ | refine ResK.go ?_ | skip); conv => whnf
      refine GO ?_
      refine ⟨(v_low (r := r) (w := w) ?_).1, rfl⟩
      unfold lowC
      repeat' (first | omega | refine ite_elim (fun _ => ?_) (fun _ => ?_))
    rw [decide_eq_false h6]
    refine ⟨_, rfl, ?_⟩; (first | refine Then.go hmix ?_ | refine Sat.go hmix ?_ | refine ResK.go ?_ | skip); conv => whnf
    refine GO ?_
    refine CallS.of (Tryd.call101 _ _) (ref_in05 (r : Nat) 306 311 w) ?_
    rintro e w' ⟨rfl, rfl⟩
    by_cases h7 : (306 : Int) ≤ (r : Nat) ∧ ((r : Nat) : Int) ≤ 311
    · rw [decide_eq_true h7]
      refine ⟨_, rfl, ?_⟩; (first | refine Then.go hmix ?_ | refine Sat.go hmix ?_ | refine ResK.go ?_ | skip); conv => whnf
      refine GO ?_
      refine ⟨(v_low (r := r) (w := w) ?_).1, rfl⟩
      unfold lowC
      repeat' (first | omega | refine ite_elim (fun _ => ?_) (fun _ => ?_))
    rw [decide_eq_false h7]
    refine ⟨_, rfl, ?_⟩; (first | refine Then.go hmix ?_ | refine Sat.go hmix ?_ | refine ResK.go ?_ | skip); conv => whnf
    refine GO ?_
    refine CallS.of (Tryd.call101 _ _) (ref_in05 (r : Nat) 330 375 w) ?_
    rintro e w' ⟨rfl, rfl⟩
    by_cases h8 : (330 : Int) ≤ (r : Nat) ∧ ((r : Nat) : Int) ≤ 375
    · rw [decide_eq_true h8]
      refine ⟨_, rfl, ?_⟩; (first | refine Then.go hmix ?_ | refine Sat.go hmix ?_ | refine ResK.go ?_ | skip); conv => whnf
      refine GO ?_
      refine ⟨(v_low (r := r) (w := w) ?_).1, rfl⟩
      unfold lowC
      repeat' (first | omega | refine ite_elim (fun _ => ?_) (fun _ => ?_))
    rw [decide_eq_false h8]
    refine ⟨_, rfl, ?_⟩; (first | refine Then.go hmix ?_ | refine Sat.go hmix ?_ | refine ResK.go ?_ | skip); conv => whnf
    refine GO ?_
    by_cases e4 : r = 376
    · refine GO ?_
      refine ⟨(v_low (r := r) (w := w) ?_).1, rfl⟩
      unfold lowC
      repeat' (first | omega | refine ite_elim (fun _ => ?_) (fun _ => ?_))
    by_cases e5 : r = 902
    · refine GO ?_
      refine ⟨(v_low (r := r) (w := w) ?_).1, rfl⟩
      unfold lowC
      repeat' (first | omega | refine ite_elim (fun _ => ?_) (fun _ => ?_))
    refine GO ?_
    refine CallS.of (Tryd.call101 _ _) (ref_in05 (r : Nat) 904 906 w) ?_
    rintro e w' ⟨rfl, rfl⟩
    by_cases h9 : (904 : Int) ≤ (r : Nat) ∧ ((r : Nat) : Int) ≤ 906
    · rw [decide_eq_true h9]
      refine ⟨_, rfl, ?_⟩; (first | refine Then.go hmix ?_ | refine Sat.go hmix ?_ | refine ResK.go ?_ | skip); conv => whnf
      refine GO ?_
      refine ⟨(v_low (r := r) (w := w) ?_).1, rfl⟩
      unfold lowC
      repeat' (first | omega | refine ite_elim (fun _ => ?_) (fun _ => ?_))
    rw [decide_eq_false h9]
    refine ⟨_, rfl, ?_⟩; (first | refine Then.go hmix ?_ | refine Sat.go hmix ?_ | refine ResK.go ?_ | skip); conv => whnf
    refine GO ?_
    by_cases e6 : r = 908
    · refine GO ?_
      refine ⟨(v_low (r := r) (w := w) ?_).1, rfl⟩
      unfold lowC
      repeat' (first | omega | refine ite_elim (fun _ => ?_) (fun _ => ?_))
    by_cases e7 : r = 910
    · refine GO ?_
      refine ⟨(v_low (r := r) (w := w) ?_).1, rfl⟩
      unfold lowC
      repeat' (first | omega | refine ite_elim (fun _ => ?_) (fun _ => ?_))
    · refine GO ?_
      refine ⟨(v_low (r := r) (w := w) ?_).1, rfl⟩
      unfold lowC
      repeat' (first | omega | refine ite_elim (fun _ => ?_) (fun _ => ?_))
  · refine GO ?_
    refine CallS.of (Tryd.call101 _ _) (ref_in05 (r : Nat) 313 328 w) ?_
    rintro e w' ⟨rfl, rfl⟩
    by_cases h6 : (313 : Int) ≤ (r : Nat) ∧ ((r : Nat) : Int) ≤ 328
    · rw [decide_eq_true h6]
      refine ⟨_, rfl, ?_⟩; (first | refine Then.go hmix ?_ | refine Sat.go hmix ?_ | refine ResK.go ?_ | skip); conv => whnf
      refine GO ?_
      refine ⟨(v_low (r := r) (w := w) ?_).1, rfl⟩
      unfold lowC
      repeat' (first | omega | refine ite_elim (fun _ => ?_) (fun _ => ?_))
    rw [decide_eq_false h6]
    refine ⟨_, rfl, ?_⟩; (first | refine Then.go hmix ?_ | refine Sat.go hmix ?_ | refine ResK.go ?_ | skip); conv => whnf
    refine GO ?_
    refine CallS.of (Tryd.call101 _ _) (ref_in05 (r : Nat) 377 382 w) ?_
    rintro e w' ⟨rfl, rfl⟩
    by_cases h7 : (377 : Int) ≤ (r : Nat) ∧ ((r : Nat) : Int) ≤ 382
    · rw [decide_eq_true h7]
      refine ⟨_, rfl, ?_⟩; (first | refine Then.go hmix ?_ | refine Sat.go hmix ?_ | refine ResK.go ?_ | skip); conv => whnf
      refine GO ?_
      refine ⟨(v_low (r := r) (w := w) ?_).1, rfl⟩
      unfold lowC
      repeat' (first | omega | refine ite_elim (fun _ => ?_) (fun _ => ?_))
    rw [decide_eq_false h7]
    refine ⟨_, rfl, ?_⟩; (first | refine Then.go hmix ?_ | refine Sat.go hmix ?_ | refine ResK.go ?_ | skip); conv => whnf
    refine GO ?_
    refine CallS.of (Tryd.call101 _ _) (ref_in05 (r : Nat) 904 906 w) ?_
    rintro e w' ⟨rfl, rfl⟩
    by_cases h9 : (904 : Int) ≤ (r : Nat) ∧ ((r : Nat) : Int) ≤ 906
    · rw [decide_eq_true h9]
      refine ⟨_, rfl, ?_⟩; (first | refine Then.go hmix ?_ | refine Sat.go hmix ?_ | refine ResK.go ?_ | skip); conv => whnf
      refine GO ?_
      refine ⟨(v_low (r := r) (w := w) ?_).1, rfl⟩
      unfold lowC
      repeat' (first | omega | refine ite_elim (fun _ => ?_) (fun _ => ?_))
    rw [decide_eq_false h9]
    refine ⟨_, rfl, ?_⟩; (first | refine Then.go hmix ?_ | refine Sat.go hmix ?_ | refine ResK.go ?_ | skip); conv => whnf
    refine GO ?_
    by_cases e7 : r = 911
    · refine GO ?_
      refine ⟨(v_low (r := r) (w := w) ?_).1, rfl⟩
      unfold lowC
      repeat' (first | omega | refine ite_elim (fun _ => ?_) (fun _ => ?_))
    · refine GO ?_
      refine ⟨(v_low (r := r) (w := w) ?_).1, rfl⟩
      unfold lowC
      repeat' (first | omega | refine ite_elim (fun _ => ?_) (fun _ => ?_))
end
end Go.Proofs.YtmipmlcolaaonaaDoor
