/- Helper text of this claim: Cw1: lemmas and contracts that the proved statement rests on; no conditions of its own. -/
import Derived.Test.YtmipmlcolaaonaaDoorShf
import Derived.Test.YtmipmlcolaaonaaDoorGws
import Derived.Test.YtmipmlcolaaonaaDoorGct
import Derived.Test.YtmipmlcolaaonaaDoorWcz
-- alias Tryd
namespace Go.Proofs.YtmipmlcolaaonaaDoor
open Go.RowKit Go.Pw Go.Vc Go.Cs Go.Lib
set_option linter.unusedVariables false
set_option maxRecDepth 100000
def spV (x : Int × Int × Int) : List Value := [.int .i64 x.1, .int .i64 x.2.1, .int .i64 x.2.2]
def CutTab (w : World) : Prop := ∃ b o c, w.cell? ⟨0, 0, none⟩ = some (.slice (some ⟨b, o, none⟩) 19 c) ∧ ∀ i, i < 19 → At w b (o + i * 3) (spV (cutSp i))
theorem at_keep {w w' : World} {b o : Nat} {vs : List Value} (h : At w b o vs) (k : Keeps w w' none_) : At w' b o vs := fun i v hi => by
  have := h i v hi
  rw [k.cell (cell_lt this) id]; exact this
theorem CutTab.keep {w w' : World} (h : CutTab w) (k : Keeps w w' none_) : CutTab w' := by
  obtain ⟨b, o, c, h1, h2⟩ := h
  exact ⟨b, o, c, by rw [k.cell (cell_lt h1) id]; exact h1, fun i hi => at_keep (h2 i hi) k⟩
section
variable {w : World}
theorem cmp_int (a b : Int) : Calls Tryd.prog 67 #[.int .i64 a, .int .i64 b] w fun e w' => e = .returned (.int .i64 (cmp3 a b)) ∧ w = w' := by
  have hn : ∀ (x : Int) (w : World), Calls Tryd.prog 90 #[.int .i64 x] w fun e w' => e = .returned (.bool false) ∧ w = w' := by
    intro x w
    refine calls_of_vc (args := [.int .i64 x]) Tryd.func90 rfl (Nat.le_of_ble_eq_true rfl) ?_; refine Sat.go hmix ?_; conv => whnf
    exact ⟨ret_bool (by simp), rfl⟩
  refine calls_of_vc (args := [.int .i64 a, .int .i64 b]) Tryd.func67 rfl (Nat.le_of_ble_eq_true rfl) ?_; refine Sat.go hmix ?_; conv => whnf
  refine CallS.of (Tryd.call90 _ _) (hn a w) ?_
  rintro e w1 ⟨rfl, rfl⟩
  refine ⟨_, rfl, ?_⟩; (first | refine Then.go hmix ?_ | refine Sat.go hmix ?_ | refine ResK.go ?_ | skip); conv => whnf
  refine CallS.of (Tryd.call90 _ _) (hn b w) ?_
  rintro e w1 ⟨rfl, rfl⟩
  refine ⟨_, rfl, ?_⟩; (first | refine Then.go hmix ?_ | refine Sat.go hmix ?_ | refine ResK.go ?_ | skip); conv => whnf
  unfold cmp3
  by_cases h1 : a < b
  · refine GO ?_
    exact ⟨by rw [if_pos h1], rfl⟩
  · by_cases h2 : b < a
    · refine GO ?_
      exact ⟨by rw [if_neg h1, if_pos h2], rfl⟩
    · refine GO ?_
      exact ⟨by rw [if_neg h1, if_neg h2], rfl⟩
theorem kind_cmp (i : Nat) (hi : i < 19) (r : Int) : Calls Tryd.prog 66 #[.agg (spV (cutSp i)).toArray, .int .i64 r] w fun e w' => e = .returned (.int .i64 (cmpC i r)) ∧ Keeps w w' none_ := by
  unfold cmpC spV
  generalize cutSp i = x
  obtain ⟨lo, hi', kd⟩ := x
  dsimp only
  refine calls_of_vc (args := [.agg #[.int .i64 lo, .int .i64 hi', .int .i64 kd], .int .i64 r]) Tryd.func66 rfl (Nat.le_of_ble_eq_true rfl) ?_; refine Sat.go hmix ?_; conv => whnf
  have k0 : Keeps w (w.alloc (.cells #[.int .i64 lo, .int .i64 hi', .int .i64 kd] 74)) none_ := (Keeps.refl _ _).alloc _
  have hA := at_cells (heap_alloc_new w (.cells #[.int .i64 lo, .int .i64 hi', .int .i64 kd] 74))
  have c0 : (w.alloc (.cells #[.int .i64 lo, .int .i64 hi', .int .i64 kd] 74)).cell? ⟨w.heap.size, 0, none⟩ = some (.int .i64 lo) := hA 0 _ rfl
  have c1 : (w.alloc (.cells #[.int .i64 lo, .int .i64 hi', .int .i64 kd] 74)).cell? ⟨w.heap.size, 0 + 1, none⟩ = some (.int .i64 hi') := hA 1 _ rfl
  generalize w.alloc (.cells #[.int .i64 lo, .int .i64 hi', .int .i64 kd] 74) = w1 at *
  by_cases h1 : lo ≤ r
  · by_cases h2 : r ≤ hi'
    · refine GO ?_
      exact ⟨by rw [if_pos ⟨h1, h2⟩], k0⟩
    · refine GO ?_
      refine CallS.of (Tryd.call67 _ _) (cmp_int lo r) ?_
      rintro e w2 ⟨rfl, rfl⟩
      refine ⟨_, rfl, ?_⟩; (first | refine Then.go hmix ?_ | refine Sat.go hmix ?_ | refine ResK.go ?_ | skip); conv => whnf
      exact ⟨by rw [if_neg (by omega)], k0⟩
  · refine GO ?_
    refine CallS.of (Tryd.call67 _ _) (cmp_int lo r) ?_
    rintro e w2 ⟨rfl, rfl⟩
    refine ⟨_, rfl, ?_⟩; (first | refine Then.go hmix ?_ | refine Sat.go hmix ?_ | refine ResK.go ?_ | skip); conv => whnf
    exact ⟨by rw [if_neg (by omega)], k0⟩
set_option maxHeartbeats 1000000 in
theorem bs_cut (b o c : Nat) (hT : ∀ i, i < 19 → At w b (o + i * 3) (spV (cutSp i))) (r : Int) : Calls Tryd.prog 65 #[.slice (some ⟨b, o, none⟩) 19 c, .int .i64 r, .func (.func 66) #[] #[]] w fun e w' =>
    ∃ k, e = .returned (.tuple #[.int .i64 (k : Nat), .bool (decide (k < 19 ∧ cmpC k r = 0))]) ∧ Pos (fun i => cmpC i r) 19 k ∧ Keeps w w' none_ := by
  refine calls_of_vc (args := [.slice (some ⟨b, o, none⟩) 19 c, .int .i64 r, .func (.func 66) #[] #[]]) Tryd.func65 rfl (Nat.le_of_ble_eq_true rfl) ?_; refine Sat.go hmix ?_; conv => whnf
  refine Loop.intro (ι := Nat × Nat) (fun p => [(0, .slice (some ⟨b, o, none⟩) 19 c), (1, .int .i64 r), (2, .func (.func 66) #[] #[]), (8, .int .i64 19), (9, .int .i64 p.1), (10, .int .i64 p.2)])
    (fun p wr => Keeps w wr none_ ∧ p.1 ≤ p.2 ∧ p.2 ≤ 19 ∧ (∀ m, m < p.1 → cmpC m r < 0) ∧ ∀ m, p.2 ≤ m → m < 19 → 0 ≤ cmpC m r) (fun p => p.2 - p.1) (0, 19) ⟨rfl, rfl, rfl, rfl, rfl, rfl, trivial⟩
    ⟨Keeps.refl _ _, by omega, Nat.le_refl _, fun m hm => by omega, fun m h1 h2 => by omega⟩ ?_
  rintro ⟨i, j⟩ g wr ⟨hK, hij, hj, hlo, hhi⟩
  dsimp only at hij hj hlo hhi ⊢
  (first | refine Then.go hmix ?_ | refine Sat.go hmix ?_ | refine ResK.go ?_ | skip); conv => whnf
  by_cases hlt : i < j
  · refine GO ?_
    rw [half_eq i j (by omega)]
    have hm1 : i ≤ (i + j) / 2 := by omega
    have hm2 : (i + j) / 2 < j := by omega
    generalize (i + j) / 2 = h at *
    refine GO ?_
    refine Load.agg (spV (cutSp h)) (by rfl) (by rfl) (by rfl) (at_keep (hT h (by omega)) hK) ?_
    refine GO ?_
    refine CallS.of (Tryd.call66 _ _) (kind_cmp h (by omega) r) ?_
    rintro e w1 ⟨rfl, k1⟩
    refine ⟨_, rfl, ?_⟩; (first | refine Then.go hmix ?_ | refine Sat.go hmix ?_ | refine ResK.go ?_ | skip); conv => whnf
    by_cases hc : cmpC h r < 0
    · refine GO ?_
      refine ⟨(h + 1, j), ⟨rfl, rfl, rfl, rfl, v_int (by simp), rfl, trivial⟩, ⟨hK.trans0 k1, by dsimp only; omega, hj, fun m hm => ?_, hhi⟩, by dsimp only; omega⟩
      by_cases e : m = h
      · rw [e]; exact hc
      · exact cmpC_mono m h (by dsimp only at hm; omega) (by omega) r hc
    · refine GO ?_
      refine ⟨(i, h), ⟨rfl, rfl, rfl, rfl, rfl, rfl, trivial⟩, ⟨hK.trans0 k1, by dsimp only; omega, by dsimp only; omega, hlo, fun m m1 m2 => ?_⟩, by dsimp only; omega⟩
      dsimp only at m1
      by_cases e : m = h
      · rw [e]; omega
      · have hx : ¬ cmpC m r < 0 := fun hn => hc (cmpC_mono h m (by omega) m2 r hn)
        omega
  · have hji : j = i := by omega
    subst hji
    have hpos : Pos (fun i => cmpC i r) 19 j := ⟨hj, hlo, hhi⟩
    by_cases h19 : j < 19
    · refine GO ?_
      refine Load.agg (spV (cutSp j)) (by rfl) (by rfl) (by rfl) (at_keep (hT j h19) hK) ?_
      refine GO ?_
      refine CallS.of (Tryd.call66 _ _) (kind_cmp j h19 r) ?_
      rintro e w1 ⟨rfl, k1⟩
      refine ⟨_, rfl, ?_⟩; (first | refine Then.go hmix ?_ | refine Sat.go hmix ?_ | refine ResK.go ?_ | skip); conv => whnf
      refine GO ?_
      exact ⟨j, by rw [show decide (j < 19 ∧ cmpC j r = 0) = (cmpC j r == 0) by by_cases h0 : cmpC j r = 0 <;> simp [h0, h19]], hpos, hK.trans0 k1⟩
    · refine GO ?_
      exact ⟨j, by rw [show decide (j < 19 ∧ cmpC j r = 0) = false by simp [h19]], hpos, hK⟩
end
end Go.Proofs.YtmipmlcolaaonaaDoor
