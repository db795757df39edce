/- Helper text of this claim: Sb3: lemmas and contracts that the proved statement rests on; no conditions of its own. -/
import Derived.Test.YtmipmlcolaaonaaDoorSb1
import Derived.Test.YtmipmlcolaaonaaDoorGso
import Derived.Test.YtmipmlcolaaonaaDoorCh6
import Derived.Test.YtmipmlcolaaonaaDoorWcz
-- alias Tryd
namespace Go.Proofs.YtmipmlcolaaonaaDoor
open Go.RowKit Go.Pw Go.Vc Go.Cs Go.Lib
set_option linter.unusedVariables false
set_option maxRecDepth 100000
def anyB (l T : List UInt8) (i : Nat) : Bool := (List.range i).any fun j => decide (cutL l (j, j + T.length) = T)
theorem anyB_succ (l T : List UInt8) (i : Nat) : anyB l T (i + 1) = (anyB l T i || decide (cutL l (i, i + T.length) = T)) := by
  unfold anyB; rw [List.range_succ, List.any_append]; simp
theorem anyB_of (l T : List UInt8) (i j : Nat) (h : j < i) (he : cutL l (j, j + T.length) = T) : anyB l T i = true :=
  List.any_eq_true.2 ⟨j, List.mem_range.2 h, decide_eq_true he⟩
section
variable {w : World}
set_option maxHeartbeats 8000000 in
theorem stands39_walk {v : Value} (s : ByteArray) (ws : List (List UInt8)) (width : Int) (hw : -9223372036854775808 ≤ width ∧ width ≤ 9223372036854775807)
    (hv : RdO w v ws.length (ws.map sv)) (hwl : ws.length ≤ 140737488351232) (hws : ∀ x ∈ ws, x.length ≤ 140737488355328) (hss : s.size ≤ 140737488355328) (hC : CutTab w) (hF : FoldTab w) (hT : Tabs w) :
    Calls Tryd.prog 17 #[.string s, v, .int .i64 width] w fun e w' => e = .returned (.bool true) ∧ Keeps w w' none_ := by
  have hv0 := hv
  obtain ⟨a, cap, rfl, _⟩ := hv
  refine calls_of_vc (args := [.string s, .slice a ws.length cap, .int .i64 width]) Tryd.func17 rfl (Nat.le_of_ble_eq_true rfl) ?_; refine Sat.go hmix ?_; conv => whnf
  refine CallS.of (Tryd.call45 _ _) (law39_small hC hF) ?_
  rintro e w1 ⟨rfl, k1⟩
  refine ⟨_, rfl, ?_⟩; (first | refine Then.go hmix ?_ | refine Sat.go hmix ?_ | refine ResK.go ?_ | skip); conv => whnf
  refine GO ?_
  refine CallS.of (Tryd.call46 _ _) (law39_few (w := w1) s ws (hv0.keep k1) (by omega) hws hss) ?_
  rintro e w2 ⟨rfl, k2⟩
  have K2 := k1.trans0 k2
  refine ⟨_, rfl, ?_⟩; (first | refine Then.go hmix ?_ | refine Sat.go hmix ?_ | refine ResK.go ?_ | skip); conv => whnf
  by_cases hf : allLen s.size ws ≤ 800 ∧ ws.length ≤ 20
  rotate_left
  · rw [decide_eq_false hf]
    refine LGO ?_
    exact ⟨rfl, K2⟩
  rw [decide_eq_true hf]
  have hx : ∀ x ∈ ws, x.length ≤ 800 := fun x hx => by have := allLen_mem s.size ws x hx; omega
  have hs8 : s.size ≤ 800 := by have := hf.1; unfold allLen at this; omega
  have hx1 : ∀ x ∈ ws, x.length ≤ 10000 := fun x h => by have := hx x h; omega
  have hkl := sought_len ws 800 hx
  have hm : ws.length * (2 * 800 + 1) ≤ 20 * (2 * 800 + 1) := Nat.mul_le_mul_right _ hf.2
  have hkl2 : (soughtL ws).length ≤ 100000 := by omega
  have hw20 : ws.length ≤ 1000 := by omega
  clear hkl hm hws hss hwl
  refine LGO ?_
  have hLs := L_len s
  have hsnl := snip_len (soughtL ws) (L s) width
  have hsw := snip_width (soughtL ws) (L s) width
  have hsv := snip_valid (soughtL ws) (L s) width
  have hsp := snip_piece (soughtL ws) (L s) width
  have hsm := snip_marksOk (soughtL ws) (L s) width
  have hml : (snipL (soughtL ws) (L s) width).2.length ≤ 100000 := by
    have hwd := wordsL_len (L s)
    rw [L_len] at hwd
    have h1 : (snipL (soughtL ws) (L s) width).2.length ≤ (wordsL (L s)).length := by
      unfold snipL
      split
      · simp
      · refine Nat.le_trans (marksL_len _ _ _) ?_
        unfold winW
        rw [List.length_drop, List.length_take]; omega
    omega
  rw [hLs] at hsnl hsp
  refine CallS.of (Tryd.call48 _ _) (sn_Make (w := w2) s ws width hw (hv0.keep K2) (hC.keep K2) (hF.keep K2) hw20 hx1 (by omega)) ?_
  rintro e w4 ⟨m1, rfl, hM1, k4⟩
  have K4 := K2.trans0 k4
  have RM := own_rd hM1
  obtain ⟨a1, c1, rfl⟩ := own_shape hM1
  generalize (snipL (soughtL ws) (L s) width).2 = ml at *
  generalize (snipL (soughtL ws) (L s) width).1 = T at *
  have hTs : (str T).size = T.length := str_size T
  refine ⟨_, rfl, ?_⟩; (first | refine Then.go hmix ?_ | refine Sat.go hmix ?_ | refine ResK.go ?_ | skip); conv => whnf
  refine Store.fresh (vs := [.string (str T), .slice a1 ml.length c1]) (by rfl) rfl (by simp [Flat]) ?_
  have v8 := VarC.new w4 50 [.string (str T), .slice a1 ml.length c1]
  have k5 : Keeps w4 (w4.alloc (.cells [Value.string (str T), .slice a1 ml.length c1].toArray 50)) none_ := (Keeps.refl _ _).alloc _
  have K5 := K4.trans0 k5
  have RM := RM.keep k5
  generalize w4.alloc (.cells [Value.string (str T), .slice a1 ml.length c1].toArray 50) = w5 at *
  generalize w4.heap.size = b8 at *
  have e0 : w5.cell? ⟨b8, 0, none⟩ = some (.string (str T)) := v8.at 0 _ rfl
  refine LGO ?_
  refine CallS.of (Tryd.call24 _ _) (cs_Valid (w := w5) s (hT.keep K5) (by omega)) ?_
  rintro e w6 ⟨rfl, k6⟩
  have K6 := K5.trans0 k6
  have v8 := v8.keep k6 id
  have RM := RM.keep k6
  have e0 := (k6.cell (cell_lt e0) id).trans e0
  refine ⟨_, rfl, ?_⟩; (first | refine Then.go hmix ?_ | refine Sat.go hmix ?_ | refine ResK.go ?_ | skip); conv => whnf
  by_cases hvs : validD (L s) = true
  · rw [hvs]
    refine LGO ?_
    refine CallS.of (Tryd.call24 _ _) (cs_Valid (w := w6) (str T) (hT.keep K6) (by rw [str_size]; omega)) ?_
    rintro e w7 ⟨rfl, k7⟩
    rw [L_str, hsv hvs]
    have K7 := K6.trans0 k7
    have v8 := v8.keep k7 id
    have RM := RM.keep k7
    refine ⟨_, rfl, ?_⟩; (first | refine Then.go hmix ?_ | refine Sat.go hmix ?_ | refine ResK.go ?_ | skip); conv => whnf
    refine LGO ?_
    refine Loop.intro (ι := Nat × Bool) (fun i => [(0, .string s), (1, .slice a ws.length cap), (7, .bool true), (8, .pointer (some ⟨b8, 0, none⟩)), (9, .bool i.2), (10, .int .i64 (i.1 : Nat))])
      (fun i wr => Keeps w7 wr none_ ∧ i.1 ≤ s.size + 1 ∧ i.2 = anyB (L s) T i.1) (fun i => s.size + 1 - i.1) (0, false) ⟨rfl, rfl, rfl, rfl, rfl, rfl, trivial⟩ ⟨Keeps.refl _ _, Nat.zero_le _, rfl⟩ ?_
    rintro ⟨i, st⟩ gg wr ⟨hK, hi, hst⟩
    dsimp only at hi hst ⊢
    have v8 := v8.keep hK id
    have e0 : wr.cell? ⟨b8, 0, none⟩ = some (.string (str T)) := v8.at 0 _ rfl
    have e1 : wr.drew.cell? ⟨b8, 0, none⟩ = some (.string (str T)) := e0
    (first | refine Then.go hmix ?_ | refine Sat.go hmix ?_ | refine ResK.go ?_ | skip); conv => whnf
    by_cases hlt : i + T.length ≤ s.size
    · have hx : s.extract i (i + T.length) = str (cutL (L s) (i, i + T.length)) := by rw [← str_L (s.extract _ _)]; exact congrArg str (L_extract s _ _)
      have hsc := anyB_succ (L s) T i
      cases st with
      | true =>
        rw [← hst, Bool.true_or] at hsc
        refine LGO ?_
        exact ⟨(i + 1, true), ⟨rfl, rfl, rfl, rfl, rfl, v_int (by simp), trivial⟩, ⟨hK.drew, by dsimp only; omega, hsc.symm⟩, by dsimp only; omega⟩
      | false =>
        rw [← hst, Bool.false_or] at hsc
        refine LGO ?_
        refine ⟨(i + 1, decide (cutL (L s) (i, i + T.length) = T)), ⟨rfl, rfl, rfl, rfl, v_bool ?_, v_int (by simp), trivial⟩, ⟨hK.drew, by dsimp only; omega, hsc.symm⟩, by dsimp only; omega⟩
        show decide (s.extract i (i + T.length) = str T) = _
        rw [hx, decide_eq_decide, str_eq]
    · obtain ⟨j0, hj1, hj2⟩ := hsp
      have hst1 : st = true := by rw [hst]; exact anyB_of (L s) T i j0 (by omega) hj2
      subst hst1
      have Kw := (K7).trans0 hK
      refine LGO ?_
      refine CallS.of (Tryd.call50 _ _) (ref_Sought (w := wr) ws (hv0.keep Kw) hw20 hx1) ?_
      rintro e w8 ⟨vK, rfl, hKs, k8⟩
      have K8 := Kw.trans0 k8
      have v8 := v8.keep k8 id
      generalize soughtL ws = ks at *
      have RK := (own_rd hKs).toO
      obtain ⟨aK, cK, rfl⟩ := own_shape hKs
      have RM := (RM.keep hK).keep k8
      obtain ⟨aM, cM, heM, hrM⟩ := RM
      injection heM with heM _ heM2
      subst heM; subst heM2
      refine ⟨_, rfl, ?_⟩; (first | refine Then.go hmix ?_ | refine Sat.go hmix ?_ | refine ResK.go ?_ | skip); conv => whnf
      refine LGO ?_
      refine Loop.intro (ι := Nat) (fun i => [(7, .bool true), (8, .pointer (some ⟨b8, 0, none⟩)), (9, .bool true), (11, .slice aK ks.length cK), (12, .int .i64 ((if i = 0 then 0 else (ml.getD (i - 1) (0, 0)).2 : Nat) : Int)), (13, .int .i64 (i : Nat))])
        (fun i wr => Keeps w8 wr none_ ∧ i ≤ ml.length) (fun i => ml.length - i) 0 ⟨rfl, rfl, rfl, rfl, rfl, rfl, trivial⟩ ⟨Keeps.refl _ _, Nat.zero_le _⟩ ?_
      rintro q gg wq ⟨hKq, hq⟩
      have v8 := v8.keep hKq id
      have e1 : wq.cell? ⟨b8, 0 + 1, none⟩ = some (.slice a1 ml.length c1) := v8.at 1 _ rfl
      (first | refine Then.go hmix ?_ | refine Sat.go hmix ?_ | refine ResK.go ?_ | skip); conv => whnf
      by_cases hlt2 : q < ml.length
      · obtain ⟨gM, rfl, _, hatM⟩ := hrM (by omega)
        have cm := at_mark (at_keep hatM hKq) hlt2
        obtain ⟨o1, o2, o3, o4⟩ := marksOk_drop ks T ml 0 q hlt2 hsm
        have hnx : (if q + 1 = 0 then 0 else (ml.getD (q + 1 - 1) (0, 0)).2) = ml[q].2 := by
          rw [if_neg (by omega), Nat.add_sub_cancel, List.getD_eq_getElem?_getD, List.getElem?_eq_getElem hlt2]; rfl
        generalize (if q = 0 then 0 else (ml.getD (q - 1) (0, 0)).2) = at_ at *
        generalize ml[q] = x at *
        refine LGO ?_
        refine Load.agg (markCells x) (by rfl) (by rfl) (by rfl) cm ?_
        refine LGO ?_
        refine Store.fresh (vs := markCells x) (by rfl) rfl (by simp [Flat, markCells]) ?_
        have vm := VarC.new wq 56 (markCells x)
        have km : Keeps wq (wq.alloc (.cells (markCells x).toArray 56)) none_ := (Keeps.refl _ _).alloc _
        have v8 := v8.keep km id
        have hKm := hKq.trans0 km
        generalize wq.alloc (.cells (markCells x).toArray 56) = wm at *
        generalize wq.heap.size = bm at *
        have m0 : wm.cell? ⟨bm, 0 + 0, none⟩ = some (.int .i64 (x.1 : Nat)) := vm.at 0 _ rfl
        have m1 : wm.cell? ⟨bm, 0 + 1, none⟩ = some (.int .i64 (x.2 : Nat)) := vm.at 1 _ rfl
        have e0 : wm.cell? ⟨b8, 0, none⟩ = some (.string (str T)) := v8.at 0 _ rfl
        refine LGO ?_
        have hxx : L ((str T).extract x.1 x.2) = cutL T x := by rw [L_extract, L_str]; rfl
        refine CallS.of (Tryd.call41 _ _) (fold_Fold (w := wm) ((str T).extract x.1 x.2) (hF.keep (K8.trans0 hKm)) (by rw [ByteArray.size_extract]; omega)) ?_
        rintro e wf ⟨rfl, kf⟩
        rw [hxx]
        have hKf := hKm.trans0 kf
        refine ⟨_, rfl, ?_⟩; (first | refine Then.go hmix ?_ | refine Sat.go hmix ?_ | refine ResK.go ?_ | skip); conv => whnf
        refine LGO ?_
        refine CallS.of (Tryd.call53 _ _) (ref_Has (w := wf) ks (foldL (cutL T x)) (RK.keep hKf) (by omega)) ?_
        rintro e wg ⟨rfl, kg⟩
        rw [decide_eq_true o4]
        have hKg := hKf.trans0 kg
        have m2 : wg.cell? ⟨bm, 0 + 1, none⟩ = some (.int .i64 (x.2 : Nat)) := (kg.cell (cell_lt ((kf.cell (cell_lt m1) id).trans m1)) id).trans ((kf.cell (cell_lt m1) id).trans m1)
        refine ⟨_, rfl, ?_⟩; (first | refine Then.go hmix ?_ | refine Sat.go hmix ?_ | refine ResK.go ?_ | skip); conv => whnf
        refine LGO ?_
        exact ⟨q + 1, ⟨rfl, rfl, rfl, rfl, v_int (by rw [hnx]), v_int (by simp), trivial⟩, ⟨hKg, by omega⟩, by dsimp only; omega⟩
      · refine LGO ?_
        exact ⟨rfl, K8.trans0 hKq⟩
  · have hvf : validD (L s) = false := by simpa using hvs
    rw [hvf]
    refine LGO ?_
    refine Loop.intro (ι := Nat × Bool) (fun i => [(0, .string s), (1, .slice a ws.length cap), (7, .bool true), (8, .pointer (some ⟨b8, 0, none⟩)), (9, .bool i.2), (10, .int .i64 (i.1 : Nat))])
      (fun i wr => Keeps w6 wr none_ ∧ i.1 ≤ s.size + 1 ∧ i.2 = anyB (L s) T i.1) (fun i => s.size + 1 - i.1) (0, false) ⟨rfl, rfl, rfl, rfl, rfl, rfl, trivial⟩ ⟨Keeps.refl _ _, Nat.zero_le _, rfl⟩ ?_
    rintro ⟨i, st⟩ gg wr ⟨hK, hi, hst⟩
    dsimp only at hi hst ⊢
    have v8 := v8.keep hK id
    have e0 : wr.cell? ⟨b8, 0, none⟩ = some (.string (str T)) := v8.at 0 _ rfl
    have e1 : wr.drew.cell? ⟨b8, 0, none⟩ = some (.string (str T)) := e0
    (first | refine Then.go hmix ?_ | refine Sat.go hmix ?_ | refine ResK.go ?_ | skip); conv => whnf
    by_cases hlt : i + T.length ≤ s.size
    · have hx : s.extract i (i + T.length) = str (cutL (L s) (i, i + T.length)) := by rw [← str_L (s.extract _ _)]; exact congrArg str (L_extract s _ _)
      have hsc := anyB_succ (L s) T i
      cases st with
      | true =>
        rw [← hst, Bool.true_or] at hsc
        refine LGO ?_
        exact ⟨(i + 1, true), ⟨rfl, rfl, rfl, rfl, rfl, v_int (by simp), trivial⟩, ⟨hK.drew, by dsimp only; omega, hsc.symm⟩, by dsimp only; omega⟩
      | false =>
        rw [← hst, Bool.false_or] at hsc
        refine LGO ?_
        refine ⟨(i + 1, decide (cutL (L s) (i, i + T.length) = T)), ⟨rfl, rfl, rfl, rfl, v_bool ?_, v_int (by simp), trivial⟩, ⟨hK.drew, by dsimp only; omega, hsc.symm⟩, by dsimp only; omega⟩
        show decide (s.extract i (i + T.length) = str T) = _
        rw [hx, decide_eq_decide, str_eq]
    · obtain ⟨j0, hj1, hj2⟩ := hsp
      have hst1 : st = true := by rw [hst]; exact anyB_of (L s) T i j0 (by omega) hj2
      subst hst1
      have Kw := (K6).trans0 hK
      refine LGO ?_
      refine CallS.of (Tryd.call50 _ _) (ref_Sought (w := wr) ws (hv0.keep Kw) hw20 hx1) ?_
      rintro e w8 ⟨vK, rfl, hKs, k8⟩
      have K8 := Kw.trans0 k8
      have v8 := v8.keep k8 id
      generalize soughtL ws = ks at *
      have RK := (own_rd hKs).toO
      obtain ⟨aK, cK, rfl⟩ := own_shape hKs
      have RM := (RM.keep hK).keep k8
      obtain ⟨aM, cM, heM, hrM⟩ := RM
      injection heM with heM _ heM2
      subst heM; subst heM2
      refine ⟨_, rfl, ?_⟩; (first | refine Then.go hmix ?_ | refine Sat.go hmix ?_ | refine ResK.go ?_ | skip); conv => whnf
      refine LGO ?_
      refine Loop.intro (ι := Nat) (fun i => [(7, .bool true), (8, .pointer (some ⟨b8, 0, none⟩)), (9, .bool true), (11, .slice aK ks.length cK), (12, .int .i64 ((if i = 0 then 0 else (ml.getD (i - 1) (0, 0)).2 : Nat) : Int)), (13, .int .i64 (i : Nat))])
        (fun i wr => Keeps w8 wr none_ ∧ i ≤ ml.length) (fun i => ml.length - i) 0 ⟨rfl, rfl, rfl, rfl, rfl, rfl, trivial⟩ ⟨Keeps.refl _ _, Nat.zero_le _⟩ ?_
      rintro q gg wq ⟨hKq, hq⟩
      have v8 := v8.keep hKq id
      have e1 : wq.cell? ⟨b8, 0 + 1, none⟩ = some (.slice a1 ml.length c1) := v8.at 1 _ rfl
      (first | refine Then.go hmix ?_ | refine Sat.go hmix ?_ | refine ResK.go ?_ | skip); conv => whnf
      by_cases hlt2 : q < ml.length
      · obtain ⟨gM, rfl, _, hatM⟩ := hrM (by omega)
        have cm := at_mark (at_keep hatM hKq) hlt2
        obtain ⟨o1, o2, o3, o4⟩ := marksOk_drop ks T ml 0 q hlt2 hsm
        have hnx : (if q + 1 = 0 then 0 else (ml.getD (q + 1 - 1) (0, 0)).2) = ml[q].2 := by
          rw [if_neg (by omega), Nat.add_sub_cancel, List.getD_eq_getElem?_getD, List.getElem?_eq_getElem hlt2]; rfl
        generalize (if q = 0 then 0 else (ml.getD (q - 1) (0, 0)).2) = at_ at *
        generalize ml[q] = x at *
        refine LGO ?_
        refine Load.agg (markCells x) (by rfl) (by rfl) (by rfl) cm ?_
        refine LGO ?_
        refine Store.fresh (vs := markCells x) (by rfl) rfl (by simp [Flat, markCells]) ?_
        have vm := VarC.new wq 56 (markCells x)
        have km : Keeps wq (wq.alloc (.cells (markCells x).toArray 56)) none_ := (Keeps.refl _ _).alloc _
        have v8 := v8.keep km id
        have hKm := hKq.trans0 km
        generalize wq.alloc (.cells (markCells x).toArray 56) = wm at *
        generalize wq.heap.size = bm at *
        have m0 : wm.cell? ⟨bm, 0 + 0, none⟩ = some (.int .i64 (x.1 : Nat)) := vm.at 0 _ rfl
        have m1 : wm.cell? ⟨bm, 0 + 1, none⟩ = some (.int .i64 (x.2 : Nat)) := vm.at 1 _ rfl
        have e0 : wm.cell? ⟨b8, 0, none⟩ = some (.string (str T)) := v8.at 0 _ rfl
        refine LGO ?_
        have hxx : L ((str T).extract x.1 x.2) = cutL T x := by rw [L_extract, L_str]; rfl
        refine CallS.of (Tryd.call41 _ _) (fold_Fold (w := wm) ((str T).extract x.1 x.2) (hF.keep (K8.trans0 hKm)) (by rw [ByteArray.size_extract]; omega)) ?_
        rintro e wf ⟨rfl, kf⟩
        rw [hxx]
        have hKf := hKm.trans0 kf
        refine ⟨_, rfl, ?_⟩; (first | refine Then.go hmix ?_ | refine Sat.go hmix ?_ | refine ResK.go ?_ | skip); conv => whnf
        refine LGO ?_
        refine CallS.of (Tryd.call53 _ _) (ref_Has (w := wf) ks (foldL (cutL T x)) (RK.keep hKf) (by omega)) ?_
        rintro e wg ⟨rfl, kg⟩
        rw [decide_eq_true o4]
        have hKg := hKf.trans0 kg
        have m2 : wg.cell? ⟨bm, 0 + 1, none⟩ = some (.int .i64 (x.2 : Nat)) := (kg.cell (cell_lt ((kf.cell (cell_lt m1) id).trans m1)) id).trans ((kf.cell (cell_lt m1) id).trans m1)
        refine ⟨_, rfl, ?_⟩; (first | refine Then.go hmix ?_ | refine Sat.go hmix ?_ | refine ResK.go ?_ | skip); conv => whnf
        refine LGO ?_
        exact ⟨q + 1, ⟨rfl, rfl, rfl, rfl, v_int (by rw [hnx]), v_int (by simp), trivial⟩, ⟨hKg, by omega⟩, by dsimp only; omega⟩
      · refine LGO ?_
        exact ⟨rfl, K8.trans0 hKq⟩
end
end Go.Proofs.YtmipmlcolaaonaaDoor
