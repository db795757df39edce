/- Helper text of this claim: Ag2, Ag1: lemmas and contracts that the proved statement rests on; no conditions of its own. -/
import Derived.Test.YtohhkegmbgancaaGreatDoorGKit10
-- alias Tryz
namespace Go.Proofs.YtohhkegmbgancaaGreatDoor
open Go.RowKit Go.Pw Go.Vc Go.Cs Go.Lib
set_option linter.unusedVariables false
set_option maxRecDepth 100000
set_option maxHeartbeats 1000000 in
theorem ixf_Ml1 {w : World} {v : Value} (l : List Mr) (g : Nat) (c0 : Value) (p : Mr → Bool) (hv : RowO w v mrC l) (hl : l.length ≤ 1000000) (hg : ∀ (args : Array Value) (w : World), (callFunc g args).run Tryz.prog w = .ok (.enter g args) w)
    (hp : ∀ x ∈ l, ∀ w', Keeps w w' none_ → Calls Tryz.prog g #[.agg (mrC x).toArray, c0] w' fun e w'' => e = .returned (.bool (p x)) ∧ Keeps w' w'' none_) :
    Calls Tryz.prog 94 #[v, .func (.func g) #[] #[c0]] w fun e w' => e = .returned (.int .i64 (idxP p l)) ∧ Keeps w w' none_ := by
  obtain ⟨a, cap, rfl, hr⟩ := hv
  refine calls_of_vc (args := [.slice a l.length cap, .func (.func g) #[] #[c0]]) Tryz.func94 rfl (Nat.le_of_ble_eq_true rfl) ?_; refine Sat.go hmix ?_; conv => whnf
  refine Loop.intro (ι := Nat) (fun i => [(0, .slice a l.length cap), (1, .func (.func g) #[] #[c0]), (7, .int .i64 (l.length : Nat)), (8, .int .i64 (i : Nat))])
    (fun i wr => Keeps w wr none_ ∧ i ≤ l.length ∧ ∀ j (h : j < l.length), j < i → p l[j] = false) (fun i => l.length - i) 0 ⟨rfl, rfl, rfl, rfl, trivial⟩ ⟨Keeps.refl _ _, Nat.zero_le _, fun _ _ h => by omega⟩ ?_
  rintro i gg wr ⟨hK, hi, he⟩
  (first | refine Then.go hmix ?_ | refine Sat.go hmix ?_ | refine ResK.go ?_ | skip); conv => whnf
  by_cases hlt : i < l.length
  · obtain ⟨gb, o, rfl, hgb, hat⟩ := hr (by omega)
    have hpc := hp l[i] (List.getElem_mem hlt) wr hK
    obtain ⟨q, hq⟩ : ∃ q, p l[i] = q := ⟨_, rfl⟩
    rw [hq] at hpc

    refine KGO ?_
    refine CallS.of (hg _ _) hpc ?_
    rintro e w1 ⟨rfl, k1⟩
    refine ⟨_, rfl, ?_⟩; (first | refine Then.go hmix ?_ | refine Sat.go hmix ?_ | refine ResK.go ?_ | skip); conv => whnf
    cases q with
    | true =>
      refine KGO ?_
      exact ⟨by rw [idxP_some hlt hq he], hK.trans0 k1⟩
    | false =>
      refine KGO ?_
      exact ⟨i + 1, ⟨rfl, rfl, rfl, v_int (by simp), trivial⟩, ⟨hK.trans0 k1, by omega, fun j h hj => by
        rcases Nat.lt_or_ge j i with h' | h'
        · exact he j h h'
        · obtain rfl : j = i := by omega
          exact hq⟩, by dsimp only; omega⟩
  · refine KGO ?_
    exact ⟨by rw [idxP_none fun j h => he j h (by omega)], hK⟩
theorem cnf_Ml1 {w : World} {v : Value} (l : List Mr) (g : Nat) (c0 : Value) (p : Mr → Bool) (hv : RowO w v mrC l) (hl : l.length ≤ 1000000) (hg : ∀ (args : Array Value) (w : World), (callFunc g args).run Tryz.prog w = .ok (.enter g args) w)
    (hp : ∀ x ∈ l, ∀ w', Keeps w w' none_ → Calls Tryz.prog g #[.agg (mrC x).toArray, c0] w' fun e w'' => e = .returned (.bool (p x)) ∧ Keeps w' w'' none_) :
    Calls Tryz.prog 58 #[v, .func (.func g) #[] #[c0]] w fun e w' => e = .returned (.bool (l.any p)) ∧ Keeps w w' none_ := by
  have hv0 := hv
  obtain ⟨a, cap, rfl, hr⟩ := hv
  refine calls_of_vc (args := [.slice a l.length cap, .func (.func g) #[] #[c0]]) Tryz.func58 rfl (Nat.le_of_ble_eq_true rfl) ?_; refine Sat.go hmix ?_; conv => whnf
  refine CallS.of (Tryz.call94 _ _) (ixf_Ml1 l g c0 p hv0 hl hg hp) ?_
  rintro e w1 ⟨rfl, k1⟩
  refine ⟨_, rfl, ?_⟩; (first | refine Then.go hmix ?_ | refine Sat.go hmix ?_ | refine ResK.go ?_ | skip); conv => whnf
  refine ⟨ret_bool ?_, k1⟩
  rw [Bool.eq_iff_iff, decide_eq_true_eq]
  exact idxP_any p l
set_option maxHeartbeats 1000000 in
theorem ixf_T0 {w : World} {v : Value} (l : List (List UInt8)) (g : Nat) (p : (List UInt8) → Bool) (hv : RowO w v txC l) (hl : l.length ≤ 8796093022208) (hg : ∀ (args : Array Value) (w : World), (callFunc g args).run Tryz.prog w = .ok (.enter g args) w)
    (hp : ∀ x ∈ l, ∀ w', Keeps w w' none_ → Calls Tryz.prog g #[.string (str x)] w' fun e w'' => e = .returned (.bool (p x)) ∧ Keeps w' w'' none_) :
    Calls Tryz.prog 142 #[v, .func (.func g) #[] #[]] w fun e w' => e = .returned (.int .i64 (idxP p l)) ∧ Keeps w w' none_ := by
  obtain ⟨a, cap, rfl, hr⟩ := hv
  refine calls_of_vc (args := [.slice a l.length cap, .func (.func g) #[] #[]]) Tryz.func142 rfl (Nat.le_of_ble_eq_true rfl) ?_; refine Sat.go hmix ?_; conv => whnf
  refine Loop.intro (ι := Nat) (fun i => [(0, .slice a l.length cap), (1, .func (.func g) #[] #[]), (7, .int .i64 (l.length : Nat)), (8, .int .i64 (i : Nat))])
    (fun i wr => Keeps w wr none_ ∧ i ≤ l.length ∧ ∀ j (h : j < l.length), j < i → p l[j] = false) (fun i => l.length - i) 0 ⟨rfl, rfl, rfl, rfl, trivial⟩ ⟨Keeps.refl _ _, Nat.zero_le _, fun _ _ h => by omega⟩ ?_
  rintro i gg wr ⟨hK, hi, he⟩
  (first | refine Then.go hmix ?_ | refine Sat.go hmix ?_ | refine ResK.go ?_ | skip); conv => whnf
  by_cases hlt : i < l.length
  · obtain ⟨gb, o, rfl, hgb, hat⟩ := hr (by omega)
    have hpc := hp l[i] (List.getElem_mem hlt) wr hK
    obtain ⟨q, hq⟩ : ∃ q, p l[i] = q := ⟨_, rfl⟩
    rw [hq] at hpc
    have hc := at_txt hat hlt
    refine KGO ?_
    refine CallS.of (hg _ _) hpc ?_
    rintro e w1 ⟨rfl, k1⟩
    refine ⟨_, rfl, ?_⟩; (first | refine Then.go hmix ?_ | refine Sat.go hmix ?_ | refine ResK.go ?_ | skip); conv => whnf
    cases q with
    | true =>
      refine KGO ?_
      exact ⟨by rw [idxP_some hlt hq he], hK.trans0 k1⟩
    | false =>
      refine KGO ?_
      exact ⟨i + 1, ⟨rfl, rfl, rfl, v_int (by simp), trivial⟩, ⟨hK.trans0 k1, by omega, fun j h hj => by
        rcases Nat.lt_or_ge j i with h' | h'
        · exact he j h h'
        · obtain rfl : j = i := by omega
          exact hq⟩, by dsimp only; omega⟩
  · refine KGO ?_
    exact ⟨by rw [idxP_none fun j h => he j h (by omega)], hK⟩
theorem cnf_T0 {w : World} {v : Value} (l : List (List UInt8)) (g : Nat) (p : (List UInt8) → Bool) (hv : RowO w v txC l) (hl : l.length ≤ 8796093022208) (hg : ∀ (args : Array Value) (w : World), (callFunc g args).run Tryz.prog w = .ok (.enter g args) w)
    (hp : ∀ x ∈ l, ∀ w', Keeps w w' none_ → Calls Tryz.prog g #[.string (str x)] w' fun e w'' => e = .returned (.bool (p x)) ∧ Keeps w' w'' none_) :
    Calls Tryz.prog 136 #[v, .func (.func g) #[] #[]] w fun e w' => e = .returned (.bool (l.any p)) ∧ Keeps w w' none_ := by
  have hv0 := hv
  obtain ⟨a, cap, rfl, hr⟩ := hv
  refine calls_of_vc (args := [.slice a l.length cap, .func (.func g) #[] #[]]) Tryz.func136 rfl (Nat.le_of_ble_eq_true rfl) ?_; refine Sat.go hmix ?_; conv => whnf
  refine CallS.of (Tryz.call142 _ _) (ixf_T0 l g p hv0 hl hg hp) ?_
  rintro e w1 ⟨rfl, k1⟩
  refine ⟨_, rfl, ?_⟩; (first | refine Then.go hmix ?_ | refine Sat.go hmix ?_ | refine ResK.go ?_ | skip); conv => whnf
  refine ⟨ret_bool ?_, k1⟩
  rw [Bool.eq_iff_iff, decide_eq_true_eq]
  exact idxP_any p l
set_option maxHeartbeats 1000000 in
theorem ixf_T1 {w : World} {v : Value} (l : List (List UInt8)) (g : Nat) (c0 : Value) (p : (List UInt8) → Bool) (hv : RowO w v txC l) (hl : l.length ≤ 8796093022208) (hg : ∀ (args : Array Value) (w : World), (callFunc g args).run Tryz.prog w = .ok (.enter g args) w)
    (hp : ∀ x ∈ l, ∀ w', Keeps w w' none_ → Calls Tryz.prog g #[.string (str x), c0] w' fun e w'' => e = .returned (.bool (p x)) ∧ Keeps w' w'' none_) :
    Calls Tryz.prog 142 #[v, .func (.func g) #[] #[c0]] w fun e w' => e = .returned (.int .i64 (idxP p l)) ∧ Keeps w w' none_ := by
  obtain ⟨a, cap, rfl, hr⟩ := hv
  refine calls_of_vc (args := [.slice a l.length cap, .func (.func g) #[] #[c0]]) Tryz.func142 rfl (Nat.le_of_ble_eq_true rfl) ?_; refine Sat.go hmix ?_; conv => whnf
  refine Loop.intro (ι := Nat) (fun i => [(0, .slice a l.length cap), (1, .func (.func g) #[] #[c0]), (7, .int .i64 (l.length : Nat)), (8, .int .i64 (i : Nat))])
    (fun i wr => Keeps w wr none_ ∧ i ≤ l.length ∧ ∀ j (h : j < l.length), j < i → p l[j] = false) (fun i => l.length - i) 0 ⟨rfl, rfl, rfl, rfl, trivial⟩ ⟨Keeps.refl _ _, Nat.zero_le _, fun _ _ h => by omega⟩ ?_
  rintro i gg wr ⟨hK, hi, he⟩
  (first | refine Then.go hmix ?_ | refine Sat.go hmix ?_ | refine ResK.go ?_ | skip); conv => whnf
  by_cases hlt : i < l.length
  · obtain ⟨gb, o, rfl, hgb, hat⟩ := hr (by omega)
    have hpc := hp l[i] (List.getElem_mem hlt) wr hK
    obtain ⟨q, hq⟩ : ∃ q, p l[i] = q := ⟨_, rfl⟩
    rw [hq] at hpc
    have hc := at_txt hat hlt
    refine KGO ?_
    refine CallS.of (hg _ _) hpc ?_
    rintro e w1 ⟨rfl, k1⟩
    refine ⟨_, rfl, ?_⟩; (first | refine Then.go hmix ?_ | refine Sat.go hmix ?_ | refine ResK.go ?_ | skip); conv => whnf
    cases q with
    | true =>
      refine KGO ?_
      exact ⟨by rw [idxP_some hlt hq he], hK.trans0 k1⟩
    | false =>
      refine KGO ?_
      exact ⟨i + 1, ⟨rfl, rfl, rfl, v_int (by simp), trivial⟩, ⟨hK.trans0 k1, by omega, fun j h hj => by
        rcases Nat.lt_or_ge j i with h' | h'
        · exact he j h h'
        · obtain rfl : j = i := by omega
          exact hq⟩, by dsimp only; omega⟩
  · refine KGO ?_
    exact ⟨by rw [idxP_none fun j h => he j h (by omega)], hK⟩
set_option maxHeartbeats 1000000 in
theorem ixf_I1 {w : World} {v : Value} (l : List Int) (g : Nat) (c0 : Value) (p : Int → Bool) (hv : RowO w v inC l) (hl : l.length ≤ 17592186044416) (hg : ∀ (args : Array Value) (w : World), (callFunc g args).run Tryz.prog w = .ok (.enter g args) w)
    (hp : ∀ x ∈ l, ∀ w', Keeps w w' none_ → Calls Tryz.prog g #[.int .i64 x, c0] w' fun e w'' => e = .returned (.bool (p x)) ∧ Keeps w' w'' none_) :
    Calls Tryz.prog 179 #[v, .func (.func g) #[] #[c0]] w fun e w' => e = .returned (.int .i64 (idxP p l)) ∧ Keeps w w' none_ := by
  obtain ⟨a, cap, rfl, hr⟩ := hv
  refine calls_of_vc (args := [.slice a l.length cap, .func (.func g) #[] #[c0]]) Tryz.func179 rfl (Nat.le_of_ble_eq_true rfl) ?_; refine Sat.go hmix ?_; conv => whnf
  refine Loop.intro (ι := Nat) (fun i => [(0, .slice a l.length cap), (1, .func (.func g) #[] #[c0]), (7, .int .i64 (l.length : Nat)), (8, .int .i64 (i : Nat))])
    (fun i wr => Keeps w wr none_ ∧ i ≤ l.length ∧ ∀ j (h : j < l.length), j < i → p l[j] = false) (fun i => l.length - i) 0 ⟨rfl, rfl, rfl, rfl, trivial⟩ ⟨Keeps.refl _ _, Nat.zero_le _, fun _ _ h => by omega⟩ ?_
  rintro i gg wr ⟨hK, hi, he⟩
  (first | refine Then.go hmix ?_ | refine Sat.go hmix ?_ | refine ResK.go ?_ | skip); conv => whnf
  by_cases hlt : i < l.length
  · obtain ⟨gb, o, rfl, hgb, hat⟩ := hr (by omega)
    have hpc := hp l[i] (List.getElem_mem hlt) wr hK
    obtain ⟨q, hq⟩ : ∃ q, p l[i] = q := ⟨_, rfl⟩
    rw [hq] at hpc
    have hc := at_int hat hlt
    refine KGO ?_
    refine CallS.of (hg _ _) hpc ?_
    rintro e w1 ⟨rfl, k1⟩
    refine ⟨_, rfl, ?_⟩; (first | refine Then.go hmix ?_ | refine Sat.go hmix ?_ | refine ResK.go ?_ | skip); conv => whnf
    cases q with
    | true =>
      refine KGO ?_
      exact ⟨by rw [idxP_some hlt hq he], hK.trans0 k1⟩
    | false =>
      refine KGO ?_
      exact ⟨i + 1, ⟨rfl, rfl, rfl, v_int (by simp), trivial⟩, ⟨hK.trans0 k1, by omega, fun j h hj => by
        rcases Nat.lt_or_ge j i with h' | h'
        · exact he j h h'
        · obtain rfl : j = i := by omega
          exact hq⟩, by dsimp only; omega⟩
  · refine KGO ?_
    exact ⟨by rw [idxP_none fun j h => he j h (by omega)], hK⟩
theorem cnf_I1 {w : World} {v : Value} (l : List Int) (g : Nat) (c0 : Value) (p : Int → Bool) (hv : RowO w v inC l) (hl : l.length ≤ 17592186044416) (hg : ∀ (args : Array Value) (w : World), (callFunc g args).run Tryz.prog w = .ok (.enter g args) w)
    (hp : ∀ x ∈ l, ∀ w', Keeps w w' none_ → Calls Tryz.prog g #[.int .i64 x, c0] w' fun e w'' => e = .returned (.bool (p x)) ∧ Keeps w' w'' none_) :
    Calls Tryz.prog 139 #[v, .func (.func g) #[] #[c0]] w fun e w' => e = .returned (.bool (l.any p)) ∧ Keeps w w' none_ := by
  have hv0 := hv
  obtain ⟨a, cap, rfl, hr⟩ := hv
  refine calls_of_vc (args := [.slice a l.length cap, .func (.func g) #[] #[c0]]) Tryz.func139 rfl (Nat.le_of_ble_eq_true rfl) ?_; refine Sat.go hmix ?_; conv => whnf
  refine CallS.of (Tryz.call179 _ _) (ixf_I1 l g c0 p hv0 hl hg hp) ?_
  rintro e w1 ⟨rfl, k1⟩
  refine ⟨_, rfl, ?_⟩; (first | refine Then.go hmix ?_ | refine Sat.go hmix ?_ | refine ResK.go ?_ | skip); conv => whnf
  refine ⟨ret_bool ?_, k1⟩
  rw [Bool.eq_iff_iff, decide_eq_true_eq]
  exact idxP_any p l
set_option maxHeartbeats 1000000 in
theorem ixf_Sn1 {w : World} {v : Value} (l : List Sn) (g : Nat) (c0 : Value) (p : Sn → Bool) (hv : RowO w v snC l) (hl : l.length ≤ 1000000) (hg : ∀ (args : Array Value) (w : World), (callFunc g args).run Tryz.prog w = .ok (.enter g args) w)
    (hp : ∀ x ∈ l, ∀ w', Keeps w w' none_ → Calls Tryz.prog g #[.agg (snC x).toArray, c0] w' fun e w'' => e = .returned (.bool (p x)) ∧ Keeps w' w'' none_) :
    Calls Tryz.prog 152 #[v, .func (.func g) #[] #[c0]] w fun e w' => e = .returned (.int .i64 (idxP p l)) ∧ Keeps w w' none_ := by
  obtain ⟨a, cap, rfl, hr⟩ := hv
  refine calls_of_vc (args := [.slice a l.length cap, .func (.func g) #[] #[c0]]) Tryz.func152 rfl (Nat.le_of_ble_eq_true rfl) ?_; refine Sat.go hmix ?_; conv => whnf
  refine Loop.intro (ι := Nat) (fun i => [(0, .slice a l.length cap), (1, .func (.func g) #[] #[c0]), (7, .int .i64 (l.length : Nat)), (8, .int .i64 (i : Nat))])
    (fun i wr => Keeps w wr none_ ∧ i ≤ l.length ∧ ∀ j (h : j < l.length), j < i → p l[j] = false) (fun i => l.length - i) 0 ⟨rfl, rfl, rfl, rfl, trivial⟩ ⟨Keeps.refl _ _, Nat.zero_le _, fun _ _ h => by omega⟩ ?_
  rintro i gg wr ⟨hK, hi, he⟩
  (first | refine Then.go hmix ?_ | refine Sat.go hmix ?_ | refine ResK.go ?_ | skip); conv => whnf
  by_cases hlt : i < l.length
  · obtain ⟨gb, o, rfl, hgb, hat⟩ := hr (by omega)
    have hpc := hp l[i] (List.getElem_mem hlt) wr hK
    obtain ⟨q, hq⟩ : ∃ q, p l[i] = q := ⟨_, rfl⟩
    rw [hq] at hpc

    refine KGO ?_
    refine CallS.of (hg _ _) hpc ?_
    rintro e w1 ⟨rfl, k1⟩
    refine ⟨_, rfl, ?_⟩; (first | refine Then.go hmix ?_ | refine Sat.go hmix ?_ | refine ResK.go ?_ | skip); conv => whnf
    cases q with
    | true =>
      refine KGO ?_
      exact ⟨by rw [idxP_some hlt hq he], hK.trans0 k1⟩
    | false =>
      refine KGO ?_
      exact ⟨i + 1, ⟨rfl, rfl, rfl, v_int (by simp), trivial⟩, ⟨hK.trans0 k1, by omega, fun j h hj => by
        rcases Nat.lt_or_ge j i with h' | h'
        · exact he j h h'
        · obtain rfl : j = i := by omega
          exact hq⟩, by dsimp only; omega⟩
  · refine KGO ?_
    exact ⟨by rw [idxP_none fun j h => he j h (by omega)], hK⟩
set_option maxHeartbeats 1000000 in
theorem ix_I {w : World} {v : Value} (l : List Int) (z : Int) (hv : RowI w v l) (hl : l.length ≤ 17592186044416) : Calls Tryz.prog 84 #[v, .int .i64 z] w fun e w' => e = .returned (.int .i64 (idxP (fun x => decide (x = z)) l)) ∧ Keeps w w' none_ := by
  obtain ⟨a, cap, rfl, hr⟩ := hv
  refine calls_of_vc (args := [.slice a l.length cap, .int .i64 z]) Tryz.func84 rfl (Nat.le_of_ble_eq_true rfl) ?_; refine Sat.go hmix ?_; conv => whnf
  refine Loop.intro (ι := Nat) (fun i => [(0, .slice a l.length cap), (1, .int .i64 z), (7, .int .i64 (l.length : Nat)), (8, .int .i64 (i : Nat))])
    (fun i wr => Keeps w wr none_ ∧ i ≤ l.length ∧ ∀ j (h : j < l.length), j < i → decide (l[j] = z) = false) (fun i => l.length - i) 0 ⟨rfl, rfl, rfl, rfl, trivial⟩ ⟨Keeps.refl _ _, Nat.zero_le _, fun _ _ h => by omega⟩ ?_
  rintro i gg wr ⟨hK, hi, he⟩
  (first | refine Then.go hmix ?_ | refine Sat.go hmix ?_ | refine ResK.go ?_ | skip); conv => whnf
  by_cases hlt : i < l.length
  · obtain ⟨gb, o, rfl, hgb, hat⟩ := hr (by omega)
    have hc := at_int hat hlt
    by_cases hq : z = l[i]
    · refine KGO ?_
      exact ⟨by rw [idxP_some hlt (by simp [hq]) he], hK⟩
    · refine KGO ?_
      exact ⟨i + 1, ⟨rfl, rfl, rfl, v_int (by simp), trivial⟩, ⟨hK, by omega, fun j h hj => by
        rcases Nat.lt_or_ge j i with h' | h'
        · exact he j h h'
        · obtain rfl : j = i := by omega
          exact decide_eq_false fun e => hq e.symm⟩, by dsimp only; omega⟩
  · refine KGO ?_
    exact ⟨by rw [idxP_none fun j h => he j h (by omega)], hK⟩
theorem cn_I {w : World} {v : Value} (l : List Int) (z : Int) (hv : RowI w v l) (hl : l.length ≤ 17592186044416) : Calls Tryz.prog 45 #[v, .int .i64 z] w fun e w' => e = .returned (.bool (decide (z ∈ l))) ∧ Keeps w w' none_ := by
  have hv0 := hv
  obtain ⟨a, cap, rfl, hr⟩ := hv
  refine calls_of_vc (args := [.slice a l.length cap, .int .i64 z]) Tryz.func45 rfl (Nat.le_of_ble_eq_true rfl) ?_; refine Sat.go hmix ?_; conv => whnf
  refine CallS.of (Tryz.call84 _ _) (ix_I l z hv0 hl) ?_
  rintro e w1 ⟨rfl, k1⟩
  refine ⟨_, rfl, ?_⟩; (first | refine Then.go hmix ?_ | refine Sat.go hmix ?_ | refine ResK.go ?_ | skip); conv => whnf
  refine ⟨ret_bool ?_, k1⟩
  rw [Bool.eq_iff_iff, decide_eq_true_eq, decide_eq_true_eq, ge_iff_le, idxP_any, List.any_eq_true]
  exact ⟨fun ⟨x, hx, e⟩ => by rw [← of_decide_eq_true e]; exact hx, fun h => ⟨z, h, by simp⟩⟩
end Go.Proofs.YtohhkegmbgancaaGreatDoor

-- alias Tryz
namespace Go.Proofs.YtohhkegmbgancaaGreatDoor
open Go.RowKit Go.Pw Go.Vc Go.Cs Go.Lib
set_option linter.unusedVariables false
set_option maxRecDepth 100000
set_option maxHeartbeats 2000000 in
theorem cl_Src {w : World} {v : Value} (l : List Sc) (hv : RowO w v srcC l) (hl : l.length ≤ 1000000) : Calls Tryz.prog 91 #[v] w fun e w' => ∃ v', e = .returned v' ∧ OwnSrc w' w.heap.size v' l ∧ Keeps w w' none_ := by
  obtain ⟨a, cap, rfl, hr⟩ := hv
  have hnil : l.length = 0 → l = [] := List.eq_nil_of_length_eq_zero
  rcases a with _ | ⟨gb, o, sp⟩
  · obtain rfl : l = [] := hnil (by
      rcases Nat.eq_zero_or_pos l.length with h | h
      · exact h
      · obtain ⟨g, o, h1, _⟩ := hr h; cases h1)
    refine calls_of_vc (args := [.slice none 0 cap]) Tryz.func91 rfl (Nat.le_of_ble_eq_true rfl) ?_; refine Sat.go hmix ?_; conv => whnf
    refine KGO ?_
    exact ⟨_, rfl, World.ownsRow_nil _ _ _ _, Keeps.refl _ _⟩
  · refine calls_of_vc (args := [.slice (some ⟨gb, o, sp⟩) l.length cap]) Tryz.func91 rfl (Nat.le_of_ble_eq_true rfl) ?_; refine Sat.go hmix ?_; conv => whnf
    refine KGO ?_
    refine RunV.of (build0Src _) ?_
    have o1 : (w.alloc (.cells #[] 76)).ownsRow w.heap.size 76 2 (.slice (some ⟨w.heap.size, 0, none⟩) 0 0) 0 [] := World.ownsRow_made w #[] 0 (Nat.le_refl _) (by decide) (by simp)
    have k1 : Keeps w (w.alloc (.cells #[] 76)) none_ := (Keeps.refl _ _).alloc _
    have hB : w.heap.size ≤ (w.alloc (.cells #[] 76)).heap.size := k1.size
    generalize w.alloc (.cells #[] 76) = w1 at *
    refine KGO ?_
    have hnews : ∀ j u, (l.flatMap srcC)[j]? = some u → w1.cell? ((⟨gb, o, sp⟩ : Addr).add j) = some u := fun j u hj => by
      rcases Nat.eq_zero_or_pos l.length with h | h
      · rw [hnil h] at hj; simp at hj
      · obtain ⟨g', o', h1, _, h3⟩ := hr h
        injection h1 with h1
        injection h1 with h4 h5 h6
        subst h4; subst h5; subst h6
        rw [add_none]
        exact cell_mono (h3 j u hj) k1
    refine RunN.app Tryz.underlying33 infoSrc rfl (by decide) o1 hB ⟨gb, o, sp⟩ l.length cap (l.flatMap srcC) (flatK_len srcC 2 lenSrc l) hnews (oneSrc l) (by omega) (by omega) fun v' w' h2 h3 => ?_
    obtain ⟨a', c', rfl⟩ : ∃ a c, v' = .slice a (0 + l.length) c := own_shape h2
    refine KGO ?_
    refine ⟨_, rfl, ?_, k1.own o1 (Nat.le_refl _) h3⟩
    rw [List.nil_append, Nat.zero_add] at h2
    rw [Nat.zero_add]
    exact h2
set_option maxHeartbeats 2000000 in
theorem cl_Sn {w : World} {v : Value} (l : List Sn) (hv : RowO w v snC l) (hl : l.length ≤ 1000000) : Calls Tryz.prog 92 #[v] w fun e w' => ∃ v', e = .returned v' ∧ OwnSn w' w.heap.size v' l ∧ Keeps w w' none_ := by
  obtain ⟨a, cap, rfl, hr⟩ := hv
  have hnil : l.length = 0 → l = [] := List.eq_nil_of_length_eq_zero
  rcases a with _ | ⟨gb, o, sp⟩
  · obtain rfl : l = [] := hnil (by
      rcases Nat.eq_zero_or_pos l.length with h | h
      · exact h
      · obtain ⟨g, o, h1, _⟩ := hr h; cases h1)
    refine calls_of_vc (args := [.slice none 0 cap]) Tryz.func92 rfl (Nat.le_of_ble_eq_true rfl) ?_; refine Sat.go hmix ?_; conv => whnf
    refine KGO ?_
    exact ⟨_, rfl, World.ownsRow_nil _ _ _ _, Keeps.refl _ _⟩
  · refine calls_of_vc (args := [.slice (some ⟨gb, o, sp⟩) l.length cap]) Tryz.func92 rfl (Nat.le_of_ble_eq_true rfl) ?_; refine Sat.go hmix ?_; conv => whnf
    refine KGO ?_
    refine RunV.of (build0Sn _) ?_
    have o1 : (w.alloc (.cells #[] 78)).ownsRow w.heap.size 78 2 (.slice (some ⟨w.heap.size, 0, none⟩) 0 0) 0 [] := World.ownsRow_made w #[] 0 (Nat.le_refl _) (by decide) (by simp)
    have k1 : Keeps w (w.alloc (.cells #[] 78)) none_ := (Keeps.refl _ _).alloc _
    have hB : w.heap.size ≤ (w.alloc (.cells #[] 78)).heap.size := k1.size
    generalize w.alloc (.cells #[] 78) = w1 at *
    refine KGO ?_
    have hnews : ∀ j u, (l.flatMap snC)[j]? = some u → w1.cell? ((⟨gb, o, sp⟩ : Addr).add j) = some u := fun j u hj => by
      rcases Nat.eq_zero_or_pos l.length with h | h
      · rw [hnil h] at hj; simp at hj
      · obtain ⟨g', o', h1, _, h3⟩ := hr h
        injection h1 with h1
        injection h1 with h4 h5 h6
        subst h4; subst h5; subst h6
        rw [add_none]
        exact cell_mono (h3 j u hj) k1
    refine RunN.app Tryz.underlying34 infoSn rfl (by decide) o1 hB ⟨gb, o, sp⟩ l.length cap (l.flatMap snC) (flatK_len snC 2 lenSn l) hnews (oneSn l) (by omega) (by omega) fun v' w' h2 h3 => ?_
    obtain ⟨a', c', rfl⟩ : ∃ a c, v' = .slice a (0 + l.length) c := own_shape h2
    refine KGO ?_
    refine ⟨_, rfl, ?_, k1.own o1 (Nat.le_refl _) h3⟩
    rw [List.nil_append, Nat.zero_add] at h2
    rw [Nat.zero_add]
    exact h2
set_option maxHeartbeats 2000000 in
theorem cl_Ml {w : World} {v : Value} (l : List Mr) (hv : RowO w v mrC l) (hl : l.length ≤ 1000000) : Calls Tryz.prog 93 #[v] w fun e w' => ∃ v', e = .returned v' ∧ OwnMl w' w.heap.size v' l ∧ Keeps w w' none_ := by
  obtain ⟨a, cap, rfl, hr⟩ := hv
  have hnil : l.length = 0 → l = [] := List.eq_nil_of_length_eq_zero
  rcases a with _ | ⟨gb, o, sp⟩
  · obtain rfl : l = [] := hnil (by
      rcases Nat.eq_zero_or_pos l.length with h | h
      · exact h
      · obtain ⟨g, o, h1, _⟩ := hr h; cases h1)
    refine calls_of_vc (args := [.slice none 0 cap]) Tryz.func93 rfl (Nat.le_of_ble_eq_true rfl) ?_; refine Sat.go hmix ?_; conv => whnf
    refine KGO ?_
    exact ⟨_, rfl, World.ownsRow_nil _ _ _ _, Keeps.refl _ _⟩
  · refine calls_of_vc (args := [.slice (some ⟨gb, o, sp⟩) l.length cap]) Tryz.func93 rfl (Nat.le_of_ble_eq_true rfl) ?_; refine Sat.go hmix ?_; conv => whnf
    refine KGO ?_
    refine RunV.of (build0Ml _) ?_
    have o1 : (w.alloc (.cells #[] 42)).ownsRow w.heap.size 42 38 (.slice (some ⟨w.heap.size, 0, none⟩) 0 0) 0 [] := World.ownsRow_made w #[] 0 (Nat.le_refl _) (by decide) (by simp)
    have k1 : Keeps w (w.alloc (.cells #[] 42)) none_ := (Keeps.refl _ _).alloc _
    have hB : w.heap.size ≤ (w.alloc (.cells #[] 42)).heap.size := k1.size
    generalize w.alloc (.cells #[] 42) = w1 at *
    refine KGO ?_
    have hnews : ∀ j u, (l.flatMap mrC)[j]? = some u → w1.cell? ((⟨gb, o, sp⟩ : Addr).add j) = some u := fun j u hj => by
      rcases Nat.eq_zero_or_pos l.length with h | h
      · rw [hnil h] at hj; simp at hj
      · obtain ⟨g', o', h1, _, h3⟩ := hr h
        injection h1 with h1
        injection h1 with h4 h5 h6
        subst h4; subst h5; subst h6
        rw [add_none]
        exact cell_mono (h3 j u hj) k1
    refine RunN.app Tryz.underlying32 infoMl rfl (by decide) o1 hB ⟨gb, o, sp⟩ l.length cap (l.flatMap mrC) (flatK_len mrC 38 lenMl l) hnews (oneMl l) (by omega) (by omega) fun v' w' h2 h3 => ?_
    obtain ⟨a', c', rfl⟩ : ∃ a c, v' = .slice a (0 + l.length) c := own_shape h2
    refine KGO ?_
    refine ⟨_, rfl, ?_, k1.own o1 (Nat.le_refl _) h3⟩
    rw [List.nil_append, Nat.zero_add] at h2
    rw [Nat.zero_add]
    exact h2
set_option maxHeartbeats 2000000 in
theorem cl_I {w : World} {v : Value} (l : List Int) (hv : RowO w v inC l) (hl : l.length ≤ 17592186044416) : Calls Tryz.prog 96 #[v] w fun e w' => ∃ v', e = .returned v' ∧ OwnI w' w.heap.size v' l ∧ Keeps w w' none_ := by
  obtain ⟨a, cap, rfl, hr⟩ := hv
  have hnil : l.length = 0 → l = [] := List.eq_nil_of_length_eq_zero
  rcases a with _ | ⟨gb, o, sp⟩
  · obtain rfl : l = [] := hnil (by
      rcases Nat.eq_zero_or_pos l.length with h | h
      · exact h
      · obtain ⟨g, o, h1, _⟩ := hr h; cases h1)
    refine calls_of_vc (args := [.slice none 0 cap]) Tryz.func96 rfl (Nat.le_of_ble_eq_true rfl) ?_; refine Sat.go hmix ?_; conv => whnf
    refine KGO ?_
    exact ⟨_, rfl, World.ownsRow_nil _ _ _ _, Keeps.refl _ _⟩
  · refine calls_of_vc (args := [.slice (some ⟨gb, o, sp⟩) l.length cap]) Tryz.func96 rfl (Nat.le_of_ble_eq_true rfl) ?_; refine Sat.go hmix ?_; conv => whnf
    refine KGO ?_
    refine RunV.of (build0I _) ?_
    have o1 : (w.alloc (.cells #[] 3)).ownsRow w.heap.size 3 1 (.slice (some ⟨w.heap.size, 0, none⟩) 0 0) 0 [] := World.ownsRow_made w #[] 0 (Nat.le_refl _) (by decide) (by simp)
    have k1 : Keeps w (w.alloc (.cells #[] 3)) none_ := (Keeps.refl _ _).alloc _
    have hB : w.heap.size ≤ (w.alloc (.cells #[] 3)).heap.size := k1.size
    generalize w.alloc (.cells #[] 3) = w1 at *
    refine KGO ?_
    have hnews : ∀ j u, (l.flatMap inC)[j]? = some u → w1.cell? ((⟨gb, o, sp⟩ : Addr).add j) = some u := fun j u hj => by
      rcases Nat.eq_zero_or_pos l.length with h | h
      · rw [hnil h] at hj; simp at hj
      · obtain ⟨g', o', h1, _, h3⟩ := hr h
        injection h1 with h1
        injection h1 with h4 h5 h6
        subst h4; subst h5; subst h6
        rw [add_none]
        exact cell_mono (h3 j u hj) k1
    refine RunN.app Tryz.underlying25 infoI rfl (by decide) o1 hB ⟨gb, o, sp⟩ l.length cap (l.flatMap inC) (flatK_len inC 1 lenI l) hnews (oneI l) (by omega) (by omega) fun v' w' h2 h3 => ?_
    obtain ⟨a', c', rfl⟩ : ∃ a c, v' = .slice a (0 + l.length) c := own_shape h2
    refine KGO ?_
    refine ⟨_, rfl, ?_, k1.own o1 (Nat.le_refl _) h3⟩
    rw [List.nil_append, Nat.zero_add] at h2
    rw [Nat.zero_add]
    exact h2
set_option maxHeartbeats 2000000 in
theorem cl_T {w : World} {v : Value} (l : List (List UInt8)) (hv : RowO w v txC l) (hl : l.length ≤ 8796093022208) : Calls Tryz.prog 97 #[v] w fun e w' => ∃ v', e = .returned v' ∧ OwnT w' w.heap.size v' l ∧ Keeps w w' none_ := by
  obtain ⟨a, cap, rfl, hr⟩ := hv
  have hnil : l.length = 0 → l = [] := List.eq_nil_of_length_eq_zero
  rcases a with _ | ⟨gb, o, sp⟩
  · obtain rfl : l = [] := hnil (by
      rcases Nat.eq_zero_or_pos l.length with h | h
      · exact h
      · obtain ⟨g, o, h1, _⟩ := hr h; cases h1)
    refine calls_of_vc (args := [.slice none 0 cap]) Tryz.func97 rfl (Nat.le_of_ble_eq_true rfl) ?_; refine Sat.go hmix ?_; conv => whnf
    refine KGO ?_
    exact ⟨_, rfl, World.ownsRow_nil _ _ _ _, Keeps.refl _ _⟩
  · refine calls_of_vc (args := [.slice (some ⟨gb, o, sp⟩) l.length cap]) Tryz.func97 rfl (Nat.le_of_ble_eq_true rfl) ?_; refine Sat.go hmix ?_; conv => whnf
    refine KGO ?_
    refine RunV.of (build0T _) ?_
    have o1 : (w.alloc (.cells #[] 9)).ownsRow w.heap.size 9 1 (.slice (some ⟨w.heap.size, 0, none⟩) 0 0) 0 [] := World.ownsRow_made w #[] 0 (Nat.le_refl _) (by decide) (by simp)
    have k1 : Keeps w (w.alloc (.cells #[] 9)) none_ := (Keeps.refl _ _).alloc _
    have hB : w.heap.size ≤ (w.alloc (.cells #[] 9)).heap.size := k1.size
    generalize w.alloc (.cells #[] 9) = w1 at *
    refine KGO ?_
    have hnews : ∀ j u, (l.flatMap txC)[j]? = some u → w1.cell? ((⟨gb, o, sp⟩ : Addr).add j) = some u := fun j u hj => by
      rcases Nat.eq_zero_or_pos l.length with h | h
      · rw [hnil h] at hj; simp at hj
      · obtain ⟨g', o', h1, _, h3⟩ := hr h
        injection h1 with h1
        injection h1 with h4 h5 h6
        subst h4; subst h5; subst h6
        rw [add_none]
        exact cell_mono (h3 j u hj) k1
    refine RunN.app Tryz.underlying26 textInfo rfl (by decide) o1 hB ⟨gb, o, sp⟩ l.length cap (l.flatMap txC) (flatK_len txC 1 lenT l) hnews (oneT l) (by omega) (by omega) fun v' w' h2 h3 => ?_
    obtain ⟨a', c', rfl⟩ : ∃ a c, v' = .slice a (0 + l.length) c := own_shape h2
    refine KGO ?_
    refine ⟨_, rfl, ?_, k1.own o1 (Nat.le_refl _) h3⟩
    rw [List.nil_append, Nat.zero_add] at h2
    rw [Nat.zero_add]
    exact h2
end Go.Proofs.YtohhkegmbgancaaGreatDoor
