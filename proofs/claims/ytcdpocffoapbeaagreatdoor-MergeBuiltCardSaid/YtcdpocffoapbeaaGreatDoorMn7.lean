/- Helper text of this claim: Mn7: lemmas and contracts that the proved statement rests on; no conditions of its own. -/
import Derived.Test.YtcdpocffoapbeaaGreatDoorMn3
import Derived.Test.YtcdpocffoapbeaaGreatDoorGMh4
-- alias Tryz
namespace Go.Proofs.YtcdpocffoapbeaaGreatDoor
set_option linter.unusedVariables false
open Go.Shelf Go.RowKit Go.Pw Go.Vc Go.Cs Go.Lib Go.Cd Go.Mg
set_option linter.unusedVariables false
set_option maxRecDepth 100000
/-! MergeBuilt. -/
theorem infoEn : (Tryz.prog.info? 41).map (fun i => (i.zero, i.size, i.bytes)) = some (some (.agg #[.int .i64 0, .int .i64 0, .string ⟨#[]⟩]), 3, 32) := by kernel_rfl
theorem lenEn (e : Ent) : (enC e).length = 3 := rfl
theorem tyEn : RowTy 36 41 enC 3 32 := ⟨Tryz.underlying36, ⟨_, infoEn, rfl⟩, by decide, lenEn, fun x => List.all_eq_true.1 (by rfl)⟩
theorem bs0En (w : World) : (Instr.buildSlice 36 0 [].toArray).run Tryz.prog w = .ok (.slice (some ⟨w.heap.size, 0, none⟩) 0 0) (w.alloc (.cells #[] 41)) := by
  simp [Instr.buildSlice, go_sem, Tryz.runUnderlying36]
theorem bs1En (x : Ent) (w : World) : (Instr.buildSlice 36 1 [(0, .agg (enC x).toArray)].toArray).run Tryz.prog w = .ok (.slice (some ⟨w.heap.size, 0, none⟩) 1 1) (w.alloc (.cells (List.toArray (enC x)) 41)) := by
  simp [Instr.buildSlice, Instr.fill, go_sem, Tryz.runUnderlying36, enC]
section
variable {w : World}
set_option maxHeartbeats 16000000 in
theorem lw_Built {va vb vd : Value} (la lb : List Ent) (dead : List Int) (ga : RowO w va enC la) (gb : RowO w vb enC lb) (rd : RowI w vd dead) (ea : ∀ e ∈ la, EnR e) (eb : ∀ e ∈ lb, EnR e) (hla : la.length * 32 ≤ 140737488351232) (hlb : lb.length * 32 ≤ 140737488351232) (hdl : dead.length ≤ 17592186044416) (hE : CEnv w) :
    Calls Tryz.prog 5 #[va, vb, vd] w fun e w' => e = .returned (.bool true) ∧ Keeps w w' none_ := by
  have ga0 := ga
  have gb0 := gb
  have rd0 := rd
  obtain ⟨aa, ca, rfl, hra⟩ := ga
  obtain ⟨ab, cb, rfl, hrb⟩ := gb
  obtain ⟨ad, cd, rfl, _⟩ := rd
  refine calls_of_vc (args := [.slice aa la.length ca, .slice ab lb.length cb, .slice ad dead.length cd]) Tryz.func5 rfl (Nat.le_of_ble_eq_true rfl) ?_; refine Sat.go hmix ?_; conv => whnf
  refine KGO ?_
  refine CallS.of (Tryz.call8 _ _) (lw_small35 (w := w) hE) ?_
  rintro e w1 ⟨rfl, k1⟩
  refine ⟨_, rfl, ?_⟩; (first | refine Then.go hmix ?_ | refine Sat.go hmix ?_ | refine ResK.go ?_ | skip); conv => whnf
  refine KGO ?_
  refine CallS.of (Tryz.call17 _ _) (lw_entries (w := w1) la (ga0.keep k1) ea (by omega)) ?_
  rintro e w2 ⟨⟨q1, rfl, hq1⟩, k2⟩
  have K2 := k1.trans0 k2
  refine ⟨_, rfl, ?_⟩; (first | refine Then.go hmix ?_ | refine Sat.go hmix ?_ | refine ResK.go ?_ | skip); conv => whnf
  refine KGO ?_
  refine CallS.of (Tryz.call17 _ _) (lw_entries (w := w2) lb (gb0.keep K2) eb (by omega)) ?_
  rintro e w3 ⟨⟨q2, rfl, hq2⟩, k3⟩
  have K3 := K2.trans0 k3
  refine ⟨_, rfl, ?_⟩; (first | refine Then.go hmix ?_ | refine Sat.go hmix ?_ | refine ResK.go ?_ | skip); conv => whnf
  cases q1 with
  | false =>
    refine KGO ?_
    exact ⟨rfl, K3⟩
  | true =>
  cases q2 with
  | false =>
    refine KGO ?_
    exact ⟨rfl, K3⟩
  | true =>
  obtain ⟨n1, t1⟩ := hq1 rfl
  obtain ⟨n2, t2⟩ := hq2 rfl
  clear hq1 hq2 ea eb
  by_cases h50 : 50 < dead.length
  · refine KGO ?_
    exact ⟨rfl, K3⟩
  refine KGO ?_
  refine CallS.of (Tryz.call18 _ _) (lw_shared (w := w3) la lb (ga0.keep K3) (gb0.keep K3) (by omega) (by omega)) ?_
  rintro e w4 ⟨rfl, k4⟩
  have K4 := K3.trans0 k4
  refine ⟨_, rfl, ?_⟩; (first | refine Then.go hmix ?_ | refine Sat.go hmix ?_ | refine ResK.go ?_ | skip); conv => whnf
  cases hsh : sharedE la lb with
  | true =>
    refine KGO ?_
    exact ⟨rfl, K4⟩
  | false =>
  refine KGO ?_
  refine RunV.of (bs0En _) ?_
  have on := own_new 41 enC 3 (by decide) w4
  have k5 : Keeps w4 (w4.alloc (.cells #[] 41)) none_ := (Keeps.refl _ _).alloc _
  have hz5 : (w4.alloc (.cells #[] 41)).heap.size = w4.heap.size + 1 := by simp
  generalize w4.alloc (.cells #[] 41) = w5 at *
  have K5 := K4.trans0 k5
  refine KGO ?_
  refine tyEn.app la on (by omega) rfl (fun h => ?_) (by simp; omega) (by simp; omega) fun v6 w6 o6 k6 => ?_
  · obtain ⟨g, o, e, _, hat⟩ := hra h
    exact ⟨g, o, e, at_mono hat K5⟩
  rw [List.nil_append] at o6
  have K6 : Keeps w w6 none_ := own_leC on k6 K5 K4.size
  have z46 : w4.heap.size ≤ w6.heap.size := by have := k6.size; omega
  obtain ⟨a6, c6, rfl⟩ := own_shape o6
  refine KGO ?_
  refine tyEn.app lb o6 z46 rfl (fun h => ?_) (by omega) (by omega) fun v7 w7 o7 k7 => ?_
  · obtain ⟨g, o, e, _, hat⟩ := hrb h
    exact ⟨g, o, e, at_mono hat K6⟩
  have K7 : Keeps w w7 none_ := own_leC o6 k7 K6 K4.size
  have z47 : w4.heap.size ≤ w7.heap.size := by have := k7.size; omega
  have hbl : (la ++ lb).length ≤ 30 := by rw [List.length_append]; omega
  have htb : ∀ e ∈ la ++ lb, e.text.length ≤ 100 := fun e he => by
    rcases List.mem_append.1 he with he | he
    · exact t1 e he
    · exact t2 e he
  obtain ⟨BO, hBO⟩ : ∃ BO, la ++ lb = BO := ⟨_, rfl⟩
  rw [hBO] at o7 hbl htb
  obtain ⟨a7, c7, rfl⟩ := own_shape o7
  clear on k5 hz5 k6 o6 k7 k4 k3 k2 k1 K2 K3 K5 K6 hra hrb
  refine KGO ?_
  refine Loop.intro (ι := Nat × Option Addr × Nat × List Ent) (fun p => [(0, .slice aa la.length ca), (1, .slice ab lb.length cb), (2, .slice ad dead.length cd), (7, .bool true), (10, .slice p.2.1 p.2.2.2.length p.2.2.1), (11, .slice a7 BO.length c7), (12, .int .i64 (p.1 : Nat))])
    (fun p wr => Keeps w7 wr none_ ∧ p.1 ≤ BO.length ∧ OwnR 41 enC 3 wr w7.heap.size (.slice p.2.1 p.2.2.2.length p.2.2.1) p.2.2.2 ∧ p.2.2.2 = liveE dead (BO.take p.1)) (fun p => BO.length - p.1) (0, none, 0, []) ⟨rfl, rfl, rfl, rfl, rfl, rfl, rfl, trivial⟩ ⟨Keeps.refl _ _, Nat.zero_le _, World.ownsRow_nil _ _ _ _, rfl⟩ ?_
  rintro ⟨i, ao, co, FL⟩ gg wr ⟨hK, hi, ho, hFL⟩
  dsimp only at hi ho hFL ⊢
  have hfl : FL.length ≤ i := by rw [hFL]; unfold liveE; exact Nat.le_trans (List.length_filter_le _ _) (by rw [List.length_take]; exact Nat.min_le_left _ _)
  have hzr := hK.size
  have Kr := K7.trans0 hK
  (first | refine Then.go hmix ?_ | refine Sat.go hmix ?_ | refine ResK.go ?_ | skip); conv => whnf
  by_cases hlt : i < BO.length
  · have hts : liveE dead (BO.take (i + 1)) = FL ++ if BO[i].doc ∈ dead then [] else [BO[i]] := by
      rw [hFL]
      unfold liveE
      rw [List.take_succ_eq_append_getElem hlt, List.filter_append, List.filter_cons]
      by_cases h : BO[i].doc ∈ dead <;> simp [h]
    have o7r := own_keep0 o7 hK
    obtain ⟨ga, ega, _, _, hata⟩ := own_at o7r (by omega)
    obtain rfl := ega
    have qr := Keeps.refl wr none_
    refine KGO ?_
    refine CallS.of (Tryz.call19 _ _) (rf33_Has (w := wr) dead BO[i].doc (rd0.keep Kr) (by omega)) ?_
    rintro e w8 ⟨rfl, k8⟩
    have K8 := hK.trans0 k8
    refine ⟨_, rfl, ?_⟩; (first | refine Then.go hmix ?_ | refine Sat.go hmix ?_ | refine ResK.go ?_ | skip); conv => whnf
    by_cases hin : BO[i].doc ∈ dead
    · rw [decide_eq_true hin]
      rw [if_pos hin, List.append_nil] at hts
      refine KGO ?_
      exact ⟨(i + 1, ao, co, FL), ⟨rfl, rfl, rfl, rfl, rfl, rfl, v_int (by simp), trivial⟩, ⟨K8, by dsimp only; omega, own_keep0 ho k8, hts.symm⟩, by dsimp only; omega⟩
    · rw [decide_eq_false hin]
      rw [if_neg hin] at hts
      have hata := at_mono hata k8
      have q8 := Keeps.refl w8 none_
      refine KGO ?_
      refine RunV.of (bs1En BO[i] _) ?_
      have ho8 := own_keep0 ho k8
      have a_b4 := at_fresh w8 41 (enC BO[i])
      have v_b4 := VarK.new w8 41 (enC BO[i])
      have k_w9 : Keeps w8 (w8.alloc (.cells (List.toArray (enC BO[i])) 41)) none_ := (Keeps.refl _ _).alloc _
      have z_w9 : (w8.alloc (.cells (List.toArray (enC BO[i])) 41)).heap.size = w8.heap.size + 1 := by simp
      generalize w8.alloc (.cells (List.toArray (enC BO[i])) 41) = w9 at *
      generalize hs_b4 : w8.heap.size = b4 at *
      have r_w9 : Keeps w9 w9 none_ := Keeps.refl _ _
      have ho9 := own_keep0 ho8 k_w9
      have z8 := k8.size
      refine KGO ?_
      refine tyEn.app1 BO[i] ho9 (by omega) a_b4 (by omega) (by omega) fun v5' w5 o5 k5 => ?_
      have K5 := own_leC ho9 k5 (K8.trans0 k_w9) (Nat.le_refl _)
      obtain ⟨a5, c5, rfl⟩ := own_shape o5
      refine KGO ?_
      exact ⟨(i + 1, a5, c5, FL ++ [BO[i]]), ⟨rfl, rfl, rfl, rfl, rfl, rfl, v_int (by simp), trivial⟩, ⟨K5, by dsimp only; omega, o5, hts.symm⟩, by dsimp only; omega⟩
  rw [List.take_of_length_le (by omega)] at hFL
  have htf : ∀ e ∈ FL, e.text.length ≤ 100 := fun e he => htb e (by rw [hFL] at he; exact (List.mem_filter.1 he).1)
  have rF : RowO wr (.slice ao FL.length co) enC FL := own_rowO ho
  have h30 : FL.length ≤ 30 := by omega
  clear ho o7 hfl hzr hbl htb
  refine KGO ?_
  refine CallS.of (Tryz.call20 _ _) (sg_Build (w := wr) la (ga0.keep Kr) (hE.keep Kr) (by omega) (fun e he => by have := t1 e he; omega)) ?_
  rintro e w8 ⟨hA, sA, rfl, oA, bA, k8⟩
  have K8 := Kr.trans0 k8
  refine ⟨_, rfl, ?_⟩; (first | refine Then.go hmix ?_ | refine Sat.go hmix ?_ | refine ResK.go ?_ | skip); conv => whnf
  refine KGO ?_
  refine CallS.of (Tryz.call20 _ _) (sg_Build (w := w8) lb (gb0.keep K8) (hE.keep K8) (by omega) (fun e he => by have := t2 e he; omega)) ?_
  rintro e w9 ⟨hB, sB, rfl, oB, bB, k9⟩
  have K9 := K8.trans0 k9
  have bdA := bd_small bA (by omega) t1
  have bdB := bd_small bB (by omega) t2
  refine ⟨_, rfl, ?_⟩; (first | refine Then.go hmix ?_ | refine Sat.go hmix ?_ | refine ResK.go ?_ | skip); conv => whnf
  refine KGO ?_
  refine CallS.of (Tryz.call15 _ _) (mg_Two (w := w9) hA hB sA sB dead (oA.keep k9).rd oB.rd (smS_small bdA) (smS_small bdB) (rd0.keep K9) (by omega) (hE.keep K9)) ?_
  rintro e w10 ⟨hM, rfl, oM, k10⟩
  have K10 := K9.trans0 k10
  have J10 := (k8.trans0 k9).trans0 k10
  refine ⟨_, rfl, ?_⟩; (first | refine Then.go hmix ?_ | refine Sat.go hmix ?_ | refine ResK.go ?_ | skip); conv => whnf
  refine KGO ?_
  have v13 := VarK.new w10 31 (sgC hM)
  refine Store.fresh (vs := sgC hM) (by rfl) rfl (flat_of (by rfl)) ?_
  have a_b13 := at_fresh w10 31 (sgC hM)
  have k_w11 : Keeps w10 (w10.alloc (.cells (List.toArray (sgC hM)) 31)) none_ := (Keeps.refl _ _).alloc _
  have z_w11 : (w10.alloc (.cells (List.toArray (sgC hM)) 31)).heap.size = w10.heap.size + 1 := by simp
  generalize w10.alloc (.cells (List.toArray (sgC hM)) 31) = w11 at *
  generalize hs_b13 : w10.heap.size = b13 at *
  have K11 := K10.trans0 k_w11
  have rF := rF.keep (J10.trans0 k_w11)
  have oM := oM.keep k_w11
  have bdM := bd_two bdA bdB dead
  have hright := right_two sA sB dead
  clear a_b13 k8 k9 k10 J10 k_w11 oA oB
  refine KGO ?_
  have kd := (Keeps.refl w11 none_).drew
  refine Draw.held (fun u => Keeps w11 u none_) (fun _ => true) (by decide +kernel) kd ?_
  (first | refine Then.go hmix ?_ | refine Sat.go hmix ?_ | refine ResK.go ?_ | skip); conv => whnf
  refine KGO ?_
  refine HeldG (sgC hM) (by rfl) (by rfl) (fun u hu => (v13.keep0 hu).at) (by rfl) ?_
  refine KGO ?_
  refine CallS.of (Tryz.call21 _ _) (sg_Right (w := w11.drew) hM (twoS sA sB dead) (oM.keep kd).rd (sm_of bdM (by decide) (by decide) (by decide)) (hE.keep (K11.trans0 kd))) ?_
  rintro e w12 ⟨rfl, k12⟩
  rw [hright]
  have J := kd.trans0 k12
  refine ⟨_, rfl, ?_⟩; (first | refine Then.go hmix ?_ | refine Sat.go hmix ?_ | refine ResK.go ?_ | skip); conv => whnf
  refine ⟨J, ?_⟩
  refine KGO ?_
  refine HeldG (sgC hM) (by rfl) (by rfl) (fun u hu => (v13.keep0 hu).at) (by rfl) ?_
  refine KGO ?_
  refine CallS.of (Tryz.call20 _ _) (sg_Build (w := w12) FL (rF.keep J) (hE.keep (K11.trans0 J)) (by omega) (fun e he => by have := htf e he; omega)) ?_
  rintro e w13 ⟨hC, sC, rfl, oC, bC, k13⟩
  have J := J.trans0 k13
  have hlaw : twoS sA sB dead = sC := built_law hsh bA bB (by rw [hBO, ← hFL]; exact bC)
  rw [hlaw] at oM
  refine ⟨_, rfl, ?_⟩; (first | refine Then.go hmix ?_ | refine Sat.go hmix ?_ | refine ResK.go ?_ | skip); conv => whnf
  refine ⟨J, ?_⟩
  refine KGO ?_
  have b1 := bdM.t
  have b2 := bdM.d
  rw [hlaw] at b1 b2
  refine CallS.of (Tryz.call22 _ _) (sg_Same (w := w13) hM hC sC sC (oM.keep J).rd oC.rd (by omega) (by omega)) ?_
  rintro e w14 ⟨rfl, k14⟩
  rw [decide_eq_true rfl]
  have J := J.trans0 k14
  refine ⟨_, rfl, ?_⟩; (first | refine Then.go hmix ?_ | refine Sat.go hmix ?_ | refine ResK.go ?_ | skip); conv => whnf
  refine ⟨J, ?_⟩
  refine KGO ?_
  exact ⟨rfl, K11.trans0 J⟩
end
end Go.Proofs.YtcdpocffoapbeaaGreatDoor
