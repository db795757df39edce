/- Helper text of this claim: Mn4, Mn5: lemmas and contracts that the proved statement rests on; no conditions of its own. -/
import Derived.Test.YtcdpocffoapbeaaGreatDoorMn2
import Derived.Test.YtcdpocffoapbeaaGreatDoorGMh4
-- alias Tryz
namespace Go.Proofs.YtcdpocffoapbeaaGreatDoor
set_option linter.unusedVariables false
open Go.Shelf Go.RowKit Go.Pw Go.Vc Go.Cs Go.Lib Go.Cd Go.Mg
set_option linter.unusedVariables false
set_option maxRecDepth 100000
/-! MergePicks. -/
theorem sumI_take {l : List Int} {i : Nat} (h : i < l.length) : sumI (l.take (i + 1)) = sumI (l.take i) + l[i] := by
  rw [List.take_succ_eq_append_getElem h, sumI_app]
  show _ + (l[i] + 0) = _
  omega
theorem sumI_drop {l : List Int} {i : Nat} (h : i < l.length) : sumI (l.drop i) = l[i] + sumI (l.drop (i + 1)) := by
  rw [List.drop_eq_getElem_cons h]; rfl
theorem sumI_le (m : Int) : ∀ l : List Int, (∀ x ∈ l, x ≤ m) → sumI l ≤ l.length * m
  | [], _ => by simp [sumI]
  | x :: l, h => by
    have h1 := h x List.mem_cons_self
    have h2 := sumI_le m l fun y hy => h y (List.mem_cons_of_mem _ hy)
    have e : sumI (x :: l) = x + sumI l := rfl
    rw [e, List.length_cons]
    have : ((l.length + 1 : Nat) : Int) * m = l.length * m + m := by rw [Int.natCast_add, Int.add_mul]; simp
    omega
/-- The next row while it is built. -/
def nextJ (L : List Int) (i j : Nat) : List Int := if j ≤ i + 1 then L.take j else (mergeAt L i).take (j - 1)
theorem nextJ_len {L : List Int} {i j : Nat} (hi : i + 1 < L.length) (hj : j ≤ L.length) : (nextJ L i j).length = if j ≤ i + 1 then j else j - 1 := by
  unfold nextJ
  split
  · rw [List.length_take]; omega
  · have := mergeAt_len hi
    rw [List.length_take]; omega
theorem nextJ_small {L : List Int} {i j : Nat} (hi : i + 1 < L.length) (hj : j < i + 1) : nextJ L i (j + 1) = nextJ L i j ++ [L[j]'(by omega)] := by
  unfold nextJ
  rw [if_pos (by omega), if_pos (by omega), List.take_succ_eq_append_getElem (by omega)]
theorem nextJ_at {L : List Int} {i : Nat} (hi : i + 1 < L.length) : nextJ L i (i + 1 + 1) = (nextJ L i (i + 1)).set i (L[i] + L[i + 1]) := by
  unfold nextJ
  rw [if_neg (by omega), if_pos (by omega), Nat.add_sub_cancel]
  unfold mergeAt
  have hl : (L.take i).length = i := by rw [List.length_take]; omega
  rw [getD_at _ _ (by omega), getD_at _ _ hi, List.take_append, hl, Nat.add_sub_cancel_left, List.take_of_length_le (by omega), List.take_succ_eq_append_getElem (show i < L.length by omega)]
  rw [List.set_append_right _ _ (by omega), hl, Nat.sub_self]
  rfl
theorem nextJ_big {L : List Int} {i j : Nat} (hi : i + 1 < L.length) (h1 : i + 1 < j) (hj : j < L.length) : nextJ L i (j + 1) = nextJ L i j ++ [L[j]] := by
  unfold nextJ
  have hm := mergeAt_len hi
  rw [if_neg (by omega), if_neg (by omega), show j + 1 - 1 = (j - 1) + 1 by omega, List.take_succ_eq_append_getElem (by omega)]
  congr 2
  have hl : (L.take i).length = i := by rw [List.length_take]; omega
  have e : (mergeAt L i)[j - 1]? = some L[j] := by
    unfold mergeAt
    rw [List.getElem?_append_right (by omega), hl, show j - 1 - i = (j - 2 - i) + 1 by omega, List.getElem?_cons_succ, List.getElem?_drop, show i + 2 + (j - 2 - i) = j by omega, List.getElem?_eq_getElem hj]
  rw [List.getElem?_eq_getElem (by omega)] at e
  injection e
theorem nextJ_end {L : List Int} {i : Nat} (hi : i + 1 < L.length) : nextJ L i L.length = mergeAt L i := by
  unfold nextJ
  have hm := mergeAt_len hi
  split
  · rename_i h
    omega
  · rw [List.take_of_length_le (by omega)]
end Go.Proofs.YtcdpocffoapbeaaGreatDoor

-- alias Tryz
namespace Go.Proofs.YtcdpocffoapbeaaGreatDoor
set_option linter.unusedVariables false
open Go.Shelf Go.RowKit Go.Pw Go.Vc Go.Cs Go.Lib Go.Cd Go.Mg
set_option linter.unusedVariables false
set_option maxRecDepth 100000
/-! MergePicks, its body. -/
section
variable {w : World}
set_option maxHeartbeats 8000000 in
theorem lw_Picks {v : Value} (l : List Int) (hr : RowI w v l) (hll : l.length ≤ 17592186044416) (hE : CEnv w) : Calls Tryz.prog 4 #[v] w fun e w' => e = .returned (.bool true) ∧ Keeps w w' none_ := by
  obtain ⟨a, c, rfl, hra⟩ := hr
  refine calls_of_vc (args := [.slice a l.length c]) Tryz.func4 rfl (Nat.le_of_ble_eq_true rfl) ?_; refine Sat.go hmix ?_; conv => whnf
  refine KGO ?_
  refine CallS.of (Tryz.call8 _ _) (lw_small35 (w := w) hE) ?_
  rintro e w0 ⟨rfl, k0⟩
  refine ⟨_, rfl, ?_⟩; (first | refine Then.go hmix ?_ | refine Sat.go hmix ?_ | refine ResK.go ?_ | skip); conv => whnf
  by_cases h100 : 100 < l.length
  · refine KGO ?_
    exact ⟨rfl, k0⟩
  refine KGO ?_
  refine RunV.of (bs0I _) ?_
  have on := own_new 3 inC 1 (by decide) w0
  have k1 : Keeps w0 (w0.alloc (.cells #[] 3)) none_ := (Keeps.refl _ _).alloc _
  have hz1 : (w0.alloc (.cells #[] 3)).heap.size = w0.heap.size + 1 := by simp
  generalize w0.alloc (.cells #[] 3) = w1 at *
  refine KGO ?_
  refine tyI.app l on (by omega) rfl (fun h => ?_) (by simp; omega) (by simp; omega) fun v2 w2 o2 k2 => ?_
  · obtain ⟨g, o, e, _, hat⟩ := hra h
    exact ⟨g, o, e, at_mono hat (k0.trans0 k1)⟩
  rw [List.nil_append] at o2
  have K2 : Keeps w w2 none_ := own_leC on k2 (k0.trans0 k1) (by have := k0.size; omega)
  obtain ⟨a2, c2, rfl⟩ := own_shape o2
  have z02 : w.heap.size ≤ w0.heap.size := k0.size
  have o2 := own_base o2 z02
  clear hra on k1 k2 hz1
  refine KGO ?_
  refine Loop.intro (ι := Nat × Int) (fun i => [(0, .slice a l.length c), (3, .bool true), (4, .slice a2 l.length c2), (5, .int .i64 i.2), (6, .int .i64 (i.1 : Nat))])
    (fun i wr => wr = w2 ∧ i.1 ≤ l.length ∧ i.2 = sumI (l.take i.1) ∧ (∀ x ∈ l.take i.1, 0 ≤ x) ∧ ∀ x ∈ l.take i.1, x ≤ 1073741824) (fun i => l.length - i.1) (0, 0) ⟨rfl, rfl, rfl, rfl, rfl, trivial⟩ ⟨rfl, Nat.zero_le _, rfl, by simp, by simp⟩ ?_
  rintro ⟨i, S⟩ gg wr ⟨hW, hi, hS, hnn, hle⟩
  dsimp only at hi hS hnn hle ⊢
  subst hW
  have hSn := (sum_nn hnn).1
  have hSl := sumI_le _ _ hle
  rw [List.length_take] at hSl
  rw [← hS] at hSn hSl
  (first | refine Then.go hmix ?_ | refine Sat.go hmix ?_ | refine ResK.go ?_ | skip); conv => whnf
  by_cases hlt : i < l.length
  · obtain ⟨g, eg, _, _, hat⟩ := own_at o2 (by omega)
    obtain rfl := eg
    have ci := at_int hat hlt
    by_cases h1 : l[i] < 0
    · refine KGO ?_
      exact ⟨rfl, K2⟩
    by_cases h2 : 1073741824 < l[i]
    · refine KGO ?_
      exact ⟨rfl, K2⟩
    · refine KGO ?_
      refine ⟨(i + 1, S + l[i]), ⟨rfl, rfl, rfl, rfl, v_int (by simp), trivial⟩, ⟨rfl, by dsimp only; omega, by dsimp only; rw [sumI_take hlt, hS], fun x hx => ?_, fun x hx => ?_⟩, by dsimp only; omega⟩
      · rw [List.take_succ_eq_append_getElem hlt, List.mem_append, List.mem_singleton] at hx
        rcases hx with hx | rfl
        · exact hnn x hx
        · omega
      · rw [List.take_succ_eq_append_getElem hlt, List.mem_append, List.mem_singleton] at hx
        rcases hx with hx | rfl
        · exact hle x hx
        · omega
  rw [List.take_of_length_le (by omega)] at hS hnn hle
  have hSmax : S ≤ 1099511627776 := by omega
  obtain ⟨n, hn⟩ : ∃ n, l.length = n := ⟨_, rfl⟩
  have hn100 : n ≤ 100 := by omega
  refine KGO ?_
  refine Loop.intro (ι := List Int × Option Addr × Nat) (fun i => [(0, .slice a l.length c), (3, .bool true), (4, .slice i.2.1 i.1.length i.2.2), (5, .int .i64 S), (7, .int .i64 ((n - i.1.length : Nat) : Int))])
    (fun i wr => Keeps w wr none_ ∧ OwnI wr w.heap.size (.slice i.2.1 i.1.length i.2.2) i.1 ∧ i.1.length ≤ n ∧ (0 < n → 0 < i.1.length) ∧ sumI i.1 = S ∧ ∀ x ∈ i.1, 0 ≤ x) (fun i => i.1.length) (l, a2, c2) ⟨rfl, rfl, rfl, rfl, v_int (by dsimp only; omega), trivial⟩ ⟨K2, o2, by dsimp only; omega, fun h => by dsimp only; omega, hS.symm, hnn⟩ ?_
  clear hnn hle hS hlt hi hSl o2 K2 gg
  rintro ⟨L, aL, cL⟩ gg wr ⟨hK, ho, hLn, hLp, hLs, hnn⟩
  dsimp only at ho hLn hLp hLs hnn ⊢
  (first | refine Then.go hmix ?_ | refine Sat.go hmix ?_ | refine ResK.go ?_ | skip); conv => whnf
  refine KGO ?_
  refine CallS.of (Tryz.call10 _ _) (mg_Pick (w := wr) L (own_rowO ho) (by omega)) ?_
  rintro e w3 ⟨rfl, k3⟩
  have K3 := hK.trans0 k3
  have o3 := own_keep0 ho k3
  have hLL : L.length ≤ 100 := by omega
  cases hp : pickL L with
  | none =>
    obtain ⟨f1, f2⟩ := pick_fin hp hnn (by omega)
    refine ⟨_, rfl, ?_⟩; (first | refine Then.go hmix ?_ | refine Sat.go hmix ?_ | refine ResK.go ?_ | skip); conv => whnf
    refine KGO ?_
    refine Loop.intro (ι := Nat) (fun j => [(0, .slice a l.length c), (3, .bool true), (4, .slice aL L.length cL), (5, .int .i64 (sumI (L.drop j))), (13, .int .i64 (j : Nat))])
      (fun j wq => Keeps w3 wq none_ ∧ j ≤ L.length) (fun j => L.length - j) 0 ⟨rfl, rfl, rfl, v_int (by rw [List.drop_zero]; exact hLs.symm), rfl, trivial⟩ ⟨Keeps.refl _ _, Nat.zero_le _⟩ ?_
    rintro j g4 wq ⟨hKq, hj⟩
    have o3 := own_keep0 o3 hKq
    have hdn : ∀ x ∈ L.drop j, 0 ≤ x := fun x hx => hnn x (List.mem_of_mem_drop hx)
    have hd0 := (sum_nn hdn).1
    have hdle : sumI (L.drop j) ≤ S := by
      have h1 := sumI_app (L.take j) (L.drop j)
      rw [List.take_append_drop] at h1
      have h2 := (sum_nn (l := L.take j) fun x hx => hnn x (List.mem_of_mem_take hx)).1
      omega
    (first | refine Then.go hmix ?_ | refine Sat.go hmix ?_ | refine ResK.go ?_ | skip); conv => whnf
    by_cases hjt : j < L.length
    · obtain ⟨g5, e5, _, _, hat5⟩ := own_at o3 (by omega)
      obtain rfl := e5
      have cj := at_int hat5 hjt
      have hsd := sumI_drop hjt
      have hj0 := hnn _ (List.getElem_mem hjt)
      have hsd1 := (sum_nn (l := L.drop (j + 1)) fun x hx => hnn x (List.mem_of_mem_drop hx)).1
      by_cases hj2 : j + 1 < L.length
      · have cj2 := at_int hat5 hj2
        have hf := f2 j hj2
        rw [getD_at L j hjt, getD_at L (j + 1) hj2] at hf
        have hj3 := hnn _ (List.getElem_mem hj2)
        have hm : ¬ L[j] ≤ 2 * L[j + 1] := by omega
        have e1 : ((j : Nat) : Int) + 1 = ((j + 1 : Nat) : Int) := by omega
        clear f2 hnn hdn
        refine KGO ?_
        exact ⟨j + 1, ⟨rfl, rfl, rfl, v_int (by rw [hsd]; omega), v_int (by simp), trivial⟩, ⟨hKq.drew, by omega⟩, by dsimp only; omega⟩
      · clear f2 hnn hdn
        refine KGO ?_
        exact ⟨j + 1, ⟨rfl, rfl, rfl, v_int (by rw [hsd]; omega), v_int (by simp), trivial⟩, ⟨hKq.drew, by omega⟩, by dsimp only; omega⟩
    · have hz : sumI (L.drop j) = 0 := by rw [List.drop_eq_nil_of_le (by omega)]; rfl
      clear f2 hnn hdn
      rw [hz]
      by_cases hn0 : n = 0
      · have hL0 : L.length = 0 := by omega
        have e : (((l.length : Nat) : Int) == 0) = (((L.length : Nat) : Int) == 0) := by rw [hL0, hn, hn0]
        refine KGO ?_
        rw [e, beq_self_eq_true]
        exact ⟨rfl, K3.trans0 hKq⟩
      · have hL0 : 0 < L.length := hLp (by omega)
        have h1 : ((l.length : Nat) : Int) ≠ 0 := by omega
        have h2 : ((L.length : Nat) : Int) ≠ 0 := by omega
        have e : (((l.length : Nat) : Int) == 0) = (((L.length : Nat) : Int) == 0) := by rw [beq_eq_false_iff_ne.2 h1, beq_eq_false_iff_ne.2 h2]
        refine KGO ?_
        rw [e, beq_self_eq_true]
        exact ⟨rfl, K3.trans0 hKq⟩
  | some i =>
    have hi := pick_some hp
    refine ⟨_, rfl, ?_⟩; (first | refine Then.go hmix ?_ | refine Sat.go hmix ?_ | refine ResK.go ?_ | skip); conv => whnf
    refine KGO ?_
    have h0 : nextJ L i 0 = [] := by unfold nextJ; rw [if_pos (Nat.zero_le _)]; rfl
    refine Loop.intro (ι := Nat × Option Addr × Nat) (fun p => [(0, .slice a l.length c), (3, .bool true), (4, .slice aL L.length cL), (5, .int .i64 S), (7, .int .i64 ((n - L.length : Nat) : Int)), (8, .int .i64 (i : Nat)), (9, .int .i64 ((i + 1 : Nat) : Int)), (11, .slice p.2.1 (nextJ L i p.1).length p.2.2), (12, .int .i64 (p.1 : Nat))])
      (fun p wq => Keeps w3 wq none_ ∧ p.1 ≤ L.length ∧ OwnI wq w3.heap.size (.slice p.2.1 (nextJ L i p.1).length p.2.2) (nextJ L i p.1)) (fun p => L.length - p.1) (0, none, 0) ⟨rfl, rfl, rfl, rfl, rfl, rfl, rfl, (by dsimp only; rw [h0]; rfl), rfl, trivial⟩ ⟨Keeps.refl _ _, Nat.zero_le _, by dsimp only; rw [h0]; exact World.ownsRow_nil _ _ _ _⟩ ?_
    rintro ⟨j, an, cn⟩ g4 wq ⟨hKq, hj, on⟩
    dsimp only at hj on ⊢
    have o3q := own_keep0 o3 hKq
    have hnl := nextJ_len hi hj
    have hmn : ∀ x ∈ mergeAt L i, 0 ≤ x := mergeAt_nn hi hnn
    have hms : sumI (mergeAt L i) = S := (mergeAt_sum hi).trans hLs
    have hml := mergeAt_len hi
    have hzq := hKq.size
    have hnn0 := hnn
    clear hnn
    (first | refine Then.go hmix ?_ | refine Sat.go hmix ?_ | refine ResK.go ?_ | skip); conv => whnf
    by_cases hjt : j < L.length
    rotate_left
    · clear hnn0
      obtain rfl : j = L.length := by omega
      rw [nextJ_end hi] at on ⊢
      refine KGO ?_
      exact ⟨(mergeAt L i, an, cn), ⟨rfl, rfl, rfl, rfl, v_int (by dsimp only; omega), trivial⟩, ⟨K3.trans0 hKq, own_base on (by have := K3.size; omega), by dsimp only; omega, fun h => by dsimp only; omega, hms, hmn⟩, by dsimp only; omega⟩
    obtain ⟨gL, eL, _, _, hatL⟩ := own_at o3q (by omega)
    obtain rfl := eL
    by_cases hj1 : j = i + 1
    · subst hj1
      have cj := at_int hatL hjt
      rw [if_pos (Nat.le_refl _)] at hnl
      obtain ⟨gn, en, _, _, hatn⟩ := own_at on (by omega)
      obtain rfl := en
      have hni : (nextJ L i (i + 1))[i]'(by omega) = L[i] := by
        have e : nextJ L i (i + 1) = L.take (i + 1) := by unfold nextJ; rw [if_pos (Nat.le_refl _)]
        simp [e]
      have cn1 := at_int hatn (show i < (nextJ L i (i + 1)).length by omega)
      rw [hni] at cn1
      have hst := nextJ_at hi
      have hll2 : (nextJ L i (i + 1 + 1)).length = (nextJ L i (i + 1)).length := by rw [hst, List.length_set]
      rcases own_blockK on with ⟨e, _⟩ | ⟨g, cap, cells, e, hBg, hv, hnc, hcm, hcl, htk⟩
      · injection e with e; cases e
      injection e with e _ ec
      injection e with e
      injection e with e
      subst e ec
      have hb1 := (sum_nn (l := mergeAt L i) hmn).2
      have hs1 : 0 ≤ L[i] ∧ 0 ≤ L[i + 1] ∧ L[i] + L[i + 1] ≤ S := by
        have h1 := split2 L i hi
        rw [getD_at L i (by omega), getD_at L (i + 1) hi] at h1
        have h2 : L[i] + L[i + 1] ∈ mergeAt L i := by unfold mergeAt; rw [getD_at L i (by omega), getD_at L (i + 1) hi]; simp
        have h3 := hb1 _ h2
        exact ⟨hnn0 _ (List.getElem_mem _), hnn0 _ (List.getElem_mem _), by omega⟩
      clear hb1 hmn hnn0
      refine KGO ?_
      refine Store.atK (i := 0 + i) hv (by rw [hcl]; omega) (by rfl) ⟨rfl, by simp, by simp⟩ fun w5 v5 k5 => ?_
      have o5 := own_setK (w := wq) (f := inC) (s := 1) (fun _ => rfl) (l := nextJ L i (i + 1)) (k := i) (j := 0) (by omega) (by decide) (v := .int .i64 (L[i] + L[i + 1])) (x := L[i] + L[i + 1]) rfl hBg hnc hcm hcl htk (by simpa using v5)
      rw [← hst] at o5
      refine KGO ?_
      exact ⟨(i + 1 + 1, some ⟨gn, 0, none⟩, cn), ⟨rfl, rfl, rfl, rfl, rfl, rfl, rfl, (by dsimp only; rw [hll2]; rfl), v_int (by simp), trivial⟩, ⟨(hKq.drew).trans k5 (fun q hq e => by have e : q = gn := e; omega), by dsimp only; omega, by dsimp only; unfold OwnI; rw [hll2]; exact o5⟩, by dsimp only; omega⟩
    · have cj := at_int hatL hjt
      clear hmn hnn0
      have hsn : nextJ L i (j + 1) = nextJ L i j ++ [L[j]] := by
        rcases Nat.lt_or_ge j (i + 1) with h | h
        · exact nextJ_small hi h
        · exact nextJ_big hi (by omega) hjt
      have hnl2 : (nextJ L i j).length ≤ 100 := by rw [hnl]; split <;> omega
      clear hnl
      refine KGO ?_
      refine RunV.of (bs1I L[j] _) ?_
      have a_b5 := at_fresh wq 3 (inC L[j])
      have v_b5 := VarK.new wq 3 (inC L[j])
      have k_w5 : Keeps wq (wq.alloc (.cells (List.toArray (inC L[j])) 3)) none_ := (Keeps.refl _ _).alloc _
      have z_w5 : (wq.alloc (.cells (List.toArray (inC L[j])) 3)).heap.size = wq.heap.size + 1 := by simp
      generalize wq.alloc (.cells (List.toArray (inC L[j])) 3) = w5 at *
      generalize hs_b5 : wq.heap.size = b5 at *
      have r_w5 : Keeps w5 w5 none_ := Keeps.refl _ _
      have on5 := own_keep0 on k_w5
      refine KGO ?_
      refine tyI.app1 L[j] on5 (by omega) a_b5 (by omega) (by omega) fun v6 w6 o6 k6 => ?_
      have K6 := own_leC on5 k6 (hKq.trans0 k_w5) (Nat.le_refl _)
      rw [← hsn] at o6
      obtain ⟨a6, c6, rfl⟩ := own_shape o6
      refine KGO ?_
      exact ⟨(j + 1, a6, c6), ⟨rfl, rfl, rfl, rfl, rfl, rfl, rfl, rfl, v_int (by simp), trivial⟩, ⟨K6, by dsimp only; omega, o6⟩, by dsimp only; omega⟩
end
end Go.Proofs.YtcdpocffoapbeaaGreatDoor
