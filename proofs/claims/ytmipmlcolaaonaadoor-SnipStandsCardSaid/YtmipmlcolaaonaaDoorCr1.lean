/- Helper text of this claim: Cr1: lemmas and contracts that the proved statement rests on; no conditions of its own. -/
import Derived.Test.YtmipmlcolaaonaaDoorCw2
import Derived.Test.YtmipmlcolaaonaaDoorWcz
-- alias Tryd
namespace Go.Proofs.YtmipmlcolaaonaaDoor
open Go.RowKit Go.Pw Go.Vc Go.Cs Go.Lib
set_option linter.unusedVariables false
set_option maxRecDepth 100000
section
variable {w : World}
theorem ref_in32 (r lo hi : Int) (w : World) : Calls Tryd.prog 68 #[.int .i64 r, .int .i64 lo, .int .i64 hi] w fun e w' => e = .returned (.bool (decide (lo ≤ r ∧ r ≤ hi))) ∧ w = w' := by
  refine calls_of_vc (args := [.int .i64 r, .int .i64 lo, .int .i64 hi]) Tryd.func68 rfl (Nat.le_of_ble_eq_true rfl) ?_; refine Sat.go hmix ?_; conv => whnf
  by_cases h1 : lo ≤ r
  · by_cases h2 : r ≤ hi
    · refine GO ?_
      exact ⟨by simp [h1, h2], rfl⟩
    · refine GO ?_
      exact ⟨by simp [h2], rfl⟩
  · refine GO ?_
    exact ⟨by simp [h1], rfl⟩
theorem v_kind {r : Int} {k : Nat} {w : World} (h : kindI r = k) : Ending.returned (.int .i64 (k : Int)) = Ending.returned (.int .i64 ((kindI r : Nat) : Int)) ∧ w = w := ⟨by rw [h], rfl⟩
set_option maxHeartbeats 400000 in
theorem ref_Kind32 (r : Int) (w : World) : Calls Tryd.prog 34 #[.int .i64 r] w fun e w' => e = .returned (.int .i64 ((kindI r : Nat) : Int)) ∧ w = w' := by
  refine calls_of_vc (args := [.int .i64 r]) Tryd.func34 rfl (Nat.le_of_ble_eq_true rfl) ?_; refine Sat.go hmix ?_; conv => whnf
  refine CallS.of (Tryd.call68 _ _) (ref_in32 r 11904 12255 w) ?_
  rintro e w' ⟨rfl, rfl⟩
  refine ⟨_, rfl, ?_⟩; (first | refine Then.go hmix ?_ | refine Sat.go hmix ?_ | refine ResK.go ?_ | skip); conv => whnf
  by_cases h1 : 11904 ≤ r ∧ r ≤ 12255
  · rw [decide_eq_true h1]
    refine GO ?_
    refine ⟨v_kind (k := 2) ?_⟩
    first | (unfold kindI kindN; repeat (first | rfl | rw [if_neg (by omega)] | rw [if_pos (by omega)])) | skip
  rw [decide_eq_false h1]
  refine GO ?_
  refine CallS.of (Tryd.call68 _ _) (ref_in32 r 12353 12543 w) ?_
  rintro e w' ⟨rfl, rfl⟩
  refine ⟨_, rfl, ?_⟩; (first | refine Then.go hmix ?_ | refine Sat.go hmix ?_ | refine ResK.go ?_ | skip); conv => whnf
  by_cases h2 : 12353 ≤ r ∧ r ≤ 12543
  · rw [decide_eq_true h2]
    refine GO ?_
    refine ⟨v_kind (k := 2) ?_⟩
    first | (unfold kindI kindN; repeat (first | rfl | rw [if_neg (by omega)] | rw [if_pos (by omega)])) | skip
  rw [decide_eq_false h2]
  refine GO ?_
  refine CallS.of (Tryd.call68 _ _) (ref_in32 r 12549 12591 w) ?_
  rintro e w' ⟨rfl, rfl⟩
  refine ⟨_, rfl, ?_⟩; (first | refine Then.go hmix ?_ | refine Sat.go hmix ?_ | refine ResK.go ?_ | skip); conv => whnf
  by_cases h3 : 12549 ≤ r ∧ r ≤ 12591
  · rw [decide_eq_true h3]
    refine GO ?_
    refine ⟨v_kind (k := 2) ?_⟩
    first | (unfold kindI kindN; repeat (first | rfl | rw [if_neg (by omega)] | rw [if_pos (by omega)])) | skip
  rw [decide_eq_false h3]
  refine GO ?_
  refine CallS.of (Tryd.call68 _ _) (ref_in32 r 12593 12686 w) ?_
  rintro e w' ⟨rfl, rfl⟩
  refine ⟨_, rfl, ?_⟩; (first | refine Then.go hmix ?_ | refine Sat.go hmix ?_ | refine ResK.go ?_ | skip); conv => whnf
  by_cases h4 : 12593 ≤ r ∧ r ≤ 12686
  · rw [decide_eq_true h4]
    refine GO ?_
    refine ⟨v_kind (k := 2) ?_⟩
    first | (unfold kindI kindN; repeat (first | rfl | rw [if_neg (by omega)] | rw [if_pos (by omega)])) | skip
  rw [decide_eq_false h4]
  refine GO ?_
  refine CallS.of (Tryd.call68 _ _) (ref_in32 r 13312 19903 w) ?_
  rintro e w' ⟨rfl, rfl⟩
  refine ⟨_, rfl, ?_⟩; (first | refine Then.go hmix ?_ | refine Sat.go hmix ?_ | refine ResK.go ?_ | skip); conv => whnf
  by_cases h5 : 13312 ≤ r ∧ r ≤ 19903
  · rw [decide_eq_true h5]
    refine GO ?_
    refine ⟨v_kind (k := 2) ?_⟩
    first | (unfold kindI kindN; repeat (first | rfl | rw [if_neg (by omega)] | rw [if_pos (by omega)])) | skip
  rw [decide_eq_false h5]
  refine GO ?_
  refine CallS.of (Tryd.call68 _ _) (ref_in32 r 19968 40959 w) ?_
  rintro e w' ⟨rfl, rfl⟩
  refine ⟨_, rfl, ?_⟩; (first | refine Then.go hmix ?_ | refine Sat.go hmix ?_ | refine ResK.go ?_ | skip); conv => whnf
  by_cases h6 : 19968 ≤ r ∧ r ≤ 40959
  · rw [decide_eq_true h6]
    refine GO ?_
    refine ⟨v_kind (k := 2) ?_⟩
    first | (unfold kindI kindN; repeat (first | rfl | rw [if_neg (by omega)] | rw [if_pos (by omega)])) | skip
  rw [decide_eq_false h6]
  refine GO ?_
  refine CallS.of (Tryd.call68 _ _) (ref_in32 r 44032 55203 w) ?_
  rintro e w' ⟨rfl, rfl⟩
  refine ⟨_, rfl, ?_⟩; (first | refine Then.go hmix ?_ | refine Sat.go hmix ?_ | refine ResK.go ?_ | skip); conv => whnf
  by_cases h7 : 44032 ≤ r ∧ r ≤ 55203
  · rw [decide_eq_true h7]
    refine GO ?_
    refine ⟨v_kind (k := 2) ?_⟩
    first | (unfold kindI kindN; repeat (first | rfl | rw [if_neg (by omega)] | rw [if_pos (by omega)])) | skip
  rw [decide_eq_false h7]
  refine GO ?_
  refine CallS.of (Tryd.call68 _ _) (ref_in32 r 63744 64255 w) ?_
  rintro e w' ⟨rfl, rfl⟩
  refine ⟨_, rfl, ?_⟩; (first | refine Then.go hmix ?_ | refine Sat.go hmix ?_ | refine ResK.go ?_ | skip); conv => whnf
  by_cases h8 : 63744 ≤ r ∧ r ≤ 64255
  · rw [decide_eq_true h8]
    refine GO ?_
    refine ⟨v_kind (k := 2) ?_⟩
    first | (unfold kindI kindN; repeat (first | rfl | rw [if_neg (by omega)] | rw [if_pos (by omega)])) | skip
  rw [decide_eq_false h8]
  refine GO ?_
  refine CallS.of (Tryd.call68 _ _) (ref_in32 r 131072 262143 w) ?_
  rintro e w' ⟨rfl, rfl⟩
  refine ⟨_, rfl, ?_⟩; (first | refine Then.go hmix ?_ | refine Sat.go hmix ?_ | refine ResK.go ?_ | skip); conv => whnf
  by_cases h9 : 131072 ≤ r ∧ r ≤ 262143
  · rw [decide_eq_true h9]
    refine GO ?_
    refine ⟨v_kind (k := 2) ?_⟩
    first | (unfold kindI kindN; repeat (first | rfl | rw [if_neg (by omega)] | rw [if_pos (by omega)])) | skip
  rw [decide_eq_false h9]
  refine GO ?_
  refine CallS.of (Tryd.call68 _ _) (ref_in32 r 48 57 w) ?_
  rintro e w' ⟨rfl, rfl⟩
  refine ⟨_, rfl, ?_⟩; (first | refine Then.go hmix ?_ | refine Sat.go hmix ?_ | refine ResK.go ?_ | skip); conv => whnf
  by_cases h10 : 48 ≤ r ∧ r ≤ 57
  · rw [decide_eq_true h10]
    refine GO ?_
    refine ⟨v_kind (k := 1) ?_⟩
    first | (unfold kindI kindN; repeat (first | rfl | rw [if_neg (by omega)] | rw [if_pos (by omega)])) | skip
  rw [decide_eq_false h10]
  refine GO ?_
  refine CallS.of (Tryd.call68 _ _) (ref_in32 r 65 90 w) ?_
  rintro e w' ⟨rfl, rfl⟩
  refine ⟨_, rfl, ?_⟩; (first | refine Then.go hmix ?_ | refine Sat.go hmix ?_ | refine ResK.go ?_ | skip); conv => whnf
  by_cases h11 : 65 ≤ r ∧ r ≤ 90
  · rw [decide_eq_true h11]
    refine GO ?_
    refine ⟨v_kind (k := 1) ?_⟩
    first | (unfold kindI kindN; repeat (first | rfl | rw [if_neg (by omega)] | rw [if_pos (by omega)])) | skip
  rw [decide_eq_false h11]
  refine GO ?_
  refine CallS.of (Tryd.call68 _ _) (ref_in32 r 97 122 w) ?_
  rintro e w' ⟨rfl, rfl⟩
  refine ⟨_, rfl, ?_⟩; (first | refine Then.go hmix ?_ | refine Sat.go hmix ?_ | refine ResK.go ?_ | skip); conv => whnf
  by_cases h12 : 97 ≤ r ∧ r ≤ 122
  · rw [decide_eq_true h12]
    refine GO ?_
    refine ⟨v_kind (k := 1) ?_⟩
    first | (unfold kindI kindN; repeat (first | rfl | rw [if_neg (by omega)] | rw [if_pos (by omega)])) | skip
  rw [decide_eq_false h12]
  refine GO ?_
  by_cases e1 : r = 215
  · refine GO ?_
    refine ⟨v_kind (k := 0) ?_⟩
    first | (unfold kindI kindN; repeat (first | rfl | rw [if_neg (by omega)] | rw [if_pos (by omega)])) | skip
  by_cases e2 : r = 247
  · refine GO ?_
    refine ⟨v_kind (k := 0) ?_⟩
    first | (unfold kindI kindN; repeat (first | rfl | rw [if_neg (by omega)] | rw [if_pos (by omega)])) | skip
  refine GO ?_
  refine CallS.of (Tryd.call68 _ _) (ref_in32 r 8192 11263 w) ?_
  rintro e w' ⟨rfl, rfl⟩
  refine ⟨_, rfl, ?_⟩; (first | refine Then.go hmix ?_ | refine Sat.go hmix ?_ | refine ResK.go ?_ | skip); conv => whnf
  by_cases h13 : 8192 ≤ r ∧ r ≤ 11263
  · rw [decide_eq_true h13]
    refine GO ?_
    refine ⟨v_kind (k := 0) ?_⟩
    first | (unfold kindI kindN; repeat (first | rfl | rw [if_neg (by omega)] | rw [if_pos (by omega)])) | skip
  rw [decide_eq_false h13]
  refine GO ?_
  refine CallS.of (Tryd.call68 _ _) (ref_in32 r 12288 12351 w) ?_
  rintro e w' ⟨rfl, rfl⟩
  refine ⟨_, rfl, ?_⟩; (first | refine Then.go hmix ?_ | refine Sat.go hmix ?_ | refine ResK.go ?_ | skip); conv => whnf
  by_cases h14 : 12288 ≤ r ∧ r ≤ 12351
  · rw [decide_eq_true h14]
    refine GO ?_
    refine ⟨v_kind (k := 0) ?_⟩
    first | (unfold kindI kindN; repeat (first | rfl | rw [if_neg (by omega)] | rw [if_pos (by omega)])) | skip
  rw [decide_eq_false h14]
  refine GO ?_
  refine CallS.of (Tryd.call68 _ _) (ref_in32 r 55296 63743 w) ?_
  rintro e w' ⟨rfl, rfl⟩
  refine ⟨_, rfl, ?_⟩; (first | refine Then.go hmix ?_ | refine Sat.go hmix ?_ | refine ResK.go ?_ | skip); conv => whnf
  by_cases h15 : 55296 ≤ r ∧ r ≤ 63743
  · rw [decide_eq_true h15]
    refine GO ?_
    refine ⟨v_kind (k := 0) ?_⟩
    first | (unfold kindI kindN; repeat (first | rfl | rw [if_neg (by omega)] | rw [if_pos (by omega)])) | skip
  rw [decide_eq_false h15]
  refine GO ?_
  refine CallS.of (Tryd.call68 _ _) (ref_in32 r 65024 65039 w) ?_
  rintro e w' ⟨rfl, rfl⟩
  refine ⟨_, rfl, ?_⟩; (first | refine Then.go hmix ?_ | refine Sat.go hmix ?_ | refine ResK.go ?_ | skip); conv => whnf
  by_cases h16 : 65024 ≤ r ∧ r ≤ 65039
  · rw [decide_eq_true h16]
    refine GO ?_
    refine ⟨v_kind (k := 0) ?_⟩
    first | (unfold kindI kindN; repeat (first | rfl | rw [if_neg (by omega)] | rw [if_pos (by omega)])) | skip
  rw [decide_eq_false h16]
  refine GO ?_
  refine CallS.of (Tryd.call68 _ _) (ref_in32 r 65072 65135 w) ?_
  rintro e w' ⟨rfl, rfl⟩
  refine ⟨_, rfl, ?_⟩; (first | refine Then.go hmix ?_ | refine Sat.go hmix ?_ | refine ResK.go ?_ | skip); conv => whnf
  by_cases h17 : 65072 ≤ r ∧ r ≤ 65135
  · rw [decide_eq_true h17]
    refine GO ?_
    refine ⟨v_kind (k := 0) ?_⟩
    first | (unfold kindI kindN; repeat (first | rfl | rw [if_neg (by omega)] | rw [if_pos (by omega)])) | skip
  rw [decide_eq_false h17]
  refine GO ?_
  refine CallS.of (Tryd.call68 _ _) (ref_in32 r 65280 65295 w) ?_
  rintro e w' ⟨rfl, rfl⟩
  refine ⟨_, rfl, ?_⟩; (first | refine Then.go hmix ?_ | refine Sat.go hmix ?_ | refine ResK.go ?_ | skip); conv => whnf
  by_cases h18 : 65280 ≤ r ∧ r ≤ 65295
  · rw [decide_eq_true h18]
    refine GO ?_
    refine ⟨v_kind (k := 0) ?_⟩
    first | (unfold kindI kindN; repeat (first | rfl | rw [if_neg (by omega)] | rw [if_pos (by omega)])) | skip
  rw [decide_eq_false h18]
  refine GO ?_
  refine CallS.of (Tryd.call68 _ _) (ref_in32 r 65520 65535 w) ?_
  rintro e w' ⟨rfl, rfl⟩
  refine ⟨_, rfl, ?_⟩; (first | refine Then.go hmix ?_ | refine Sat.go hmix ?_ | refine ResK.go ?_ | skip); conv => whnf
  by_cases h19 : 65520 ≤ r ∧ r ≤ 65535
  · rw [decide_eq_true h19]
    refine GO ?_
    refine ⟨v_kind (k := 0) ?_⟩
    first | (unfold kindI kindN; repeat (first | rfl | rw [if_neg (by omega)] | rw [if_pos (by omega)])) | skip
  rw [decide_eq_false h19]
  refine GO ?_
  refine CallS.of (Tryd.call68 _ _) (ref_in32 r 126976 129791 w) ?_
  rintro e w' ⟨rfl, rfl⟩
  refine ⟨_, rfl, ?_⟩; (first | refine Then.go hmix ?_ | refine Sat.go hmix ?_ | refine ResK.go ?_ | skip); conv => whnf
  by_cases h20 : 126976 ≤ r ∧ r ≤ 129791
  · rw [decide_eq_true h20]
    refine GO ?_
    refine ⟨v_kind (k := 0) ?_⟩
    first | (unfold kindI kindN; repeat (first | rfl | rw [if_neg (by omega)] | rw [if_pos (by omega)])) | skip
  rw [decide_eq_false h20]
  refine GO ?_
  by_cases e3 : r < 192
  · refine GO ?_
    refine ⟨v_kind (k := 0) ?_⟩
    by_cases e0 : r < 0
    rotate_left
    all_goals
      first | (unfold kindI kindN; repeat (first | rfl | rw [if_neg (by omega)] | rw [if_pos (by omega)])) | skip
  by_cases e4 : 1114111 < r
  · refine GO ?_
    refine ⟨v_kind (k := 0) ?_⟩
    first | (unfold kindI kindN; repeat (first | rfl | rw [if_neg (by omega)] | rw [if_pos (by omega)])) | skip
  refine GO ?_
  refine ⟨v_kind (k := 1) ?_⟩
  first | (unfold kindI kindN; repeat (first | rfl | rw [if_neg (by omega)] | rw [if_pos (by omega)])) | skip
end
end Go.Proofs.YtmipmlcolaaonaaDoor
