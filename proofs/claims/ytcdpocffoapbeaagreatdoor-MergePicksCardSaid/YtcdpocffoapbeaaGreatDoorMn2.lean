/- Helper text of this claim: Mn2: lemmas and contracts that the proved statement rests on; no conditions of its own. -/
import Derived.Test.YtcdpocffoapbeaaGreatDoorMl7
import Derived.Test.YtcdpocffoapbeaaGreatDoorGMlO
import Derived.Test.YtcdpocffoapbeaaGreatDoorGMh4
import Derived.Test.YtcdpocffoapbeaaGreatDoorGAx6
-- alias Tryz
namespace Go.Proofs.YtcdpocffoapbeaaGreatDoor
set_option linter.unusedVariables false
open Go.Shelf Go.RowKit Go.Pw Go.Vc Go.Cs Go.Lib Go.Cd Go.Mg
set_option linter.unusedVariables false
set_option maxRecDepth 100000
/-! Law 35's example. -/
theorem build_en (d f : Int) (t : ByteArray) (w : World) : (Instr.build 41 [(0, .int .i64 d), (1, .int .i64 f), (2, .string t)].toArray).run Tryz.prog w = .ok (.agg #[.int .i64 d, .int .i64 f, .string t]) w := by
  simp [Instr.build, Instr.fill, go_sem, Tryz.runUnderlying41]
theorem bs2En (x y : Ent) (w : World) : (Instr.buildSlice 36 2 [(0, .agg (enC x).toArray), (1, .agg (enC y).toArray)].toArray).run Tryz.prog w = .ok (.slice (some ⟨w.heap.size, 0, none⟩) 2 2) (w.alloc (.cells (List.toArray (enC x ++ enC y)) 41)) := by
  simp [Instr.buildSlice, Instr.fill, go_sem, Tryz.runUnderlying36, enC]
theorem bs3En (x y z : Ent) (w : World) : (Instr.buildSlice 36 3 [(0, .agg (enC x).toArray), (1, .agg (enC y).toArray), (2, .agg (enC z).toArray)].toArray).run Tryz.prog w = .ok (.slice (some ⟨w.heap.size, 0, none⟩) 3 3) (w.alloc (.cells (List.toArray (enC x ++ enC y ++ enC z)) 41)) := by
  simp [Instr.buildSlice, Instr.fill, go_sem, Tryz.runUnderlying36, enC]
theorem bs3I (x y z : Int) (w : World) : (Instr.buildSlice 23 3 [(0, .int .i64 x), (1, .int .i64 y), (2, .int .i64 z)].toArray).run Tryz.prog w = .ok (.slice (some ⟨w.heap.size, 0, none⟩) 3 3) (w.alloc (.cells (List.toArray [.int .i64 x, .int .i64 y, .int .i64 z]) 3)) := by
  simp [Instr.buildSlice, Instr.fill, go_sem, Tryz.runUnderlying23]
theorem bs2Sg (x y : Sv) (w : World) : (Instr.buildSlice 22 2 [(0, .agg (sgC x).toArray), (1, .agg (sgC y).toArray)].toArray).run Tryz.prog w = .ok (.slice (some ⟨w.heap.size, 0, none⟩) 2 2) (w.alloc (.cells (List.toArray (sgC x ++ sgC y)) 31)) := by
  simp [Instr.buildSlice, Instr.fill, go_sem, Tryz.runUnderlying22, sgC]
theorem bs3Sg (x y z : Sv) (w : World) : (Instr.buildSlice 22 3 [(0, .agg (sgC x).toArray), (1, .agg (sgC y).toArray), (2, .agg (sgC z).toArray)].toArray).run Tryz.prog w = .ok (.slice (some ⟨w.heap.size, 0, none⟩) 3 3) (w.alloc (.cells (List.toArray (sgC x ++ sgC y ++ sgC z)) 31)) := by
  simp [Instr.buildSlice, Instr.fill, go_sem, Tryz.runUnderlying22, sgC]
theorem build0Sg (w : World) : (Instr.build 31 #[]).run Tryz.prog w = .ok (.agg #[.slice none 0 0, .slice none 0 0]) w := by
  simp [Instr.build, Instr.fill, go_sem, Tryz.runUnderlying31]
theorem bd_little {s : Sgm} (h : Little s) : Bd s 50 80 3000 :=
  ⟨h.d, h.t, fun z hz => by have := h.x z hz; have := cnt_plT z; exact ⟨by omega, by omega, by omega⟩⟩
theorem bd_small {s : Sgm} {es : List Ent} (h : Built s (keptE es)) (hn : es.length ≤ 100) (hm : ∀ e ∈ es, e.text.length ≤ 100) : Bd s 100 20100 20300 :=
  bd_built (n := 100) (m := 201) h (kept_kept es) (by have := keptE_len es; omega) fun e he => by have := hm e (keptE_sub he); omega
theorem smS_small {s : Sgm} (h : Bd s 100 20100 20300) : SmS s := smS_bd h (by decide) (by decide) (by decide)
section
variable {w : World}
set_option maxHeartbeats 8000000 in
theorem lw_small35 (hE : CEnv w) : Calls Tryz.prog 8 #[] w fun e w' => e = .returned (.bool true) ∧ Keeps w w' none_ := by
  refine calls_of_vc (args := []) Tryz.func8 rfl (Nat.le_of_ble_eq_true rfl) ?_; refine Sat.go hmix ?_; conv => whnf
  refine KGO ?_
  refine RunV.of (build_en 3 3 _ _) ?_
  refine KGO ?_
  refine RunV.of (build_en 5 3 _ _) ?_
  refine KGO ?_
  refine RunV.of (bs2En ⟨3, 3, [97, 32, 98]⟩ ⟨5, 3, [98]⟩ _) ?_
  have a_q1 := at_fresh w 41 (enC ⟨3, 3, [97, 32, 98]⟩ ++ enC ⟨5, 3, [98]⟩)
  have v_q1 := VarK.new w 41 (enC ⟨3, 3, [97, 32, 98]⟩ ++ enC ⟨5, 3, [98]⟩)
  have k_w1 : Keeps w (w.alloc (.cells (List.toArray (enC ⟨3, 3, [97, 32, 98]⟩ ++ enC ⟨5, 3, [98]⟩)) 41)) none_ := (Keeps.refl _ _).alloc _
  have z_w1 : (w.alloc (.cells (List.toArray (enC ⟨3, 3, [97, 32, 98]⟩ ++ enC ⟨5, 3, [98]⟩)) 41)).heap.size = w.heap.size + 1 := by simp
  generalize w.alloc (.cells (List.toArray (enC ⟨3, 3, [97, 32, 98]⟩ ++ enC ⟨5, 3, [98]⟩)) 41) = w1 at *
  generalize hs_q1 : w.heap.size = q1 at *
  have r_w1 : Keeps w1 w1 none_ := Keeps.refl _ _
  have row1 : RowO w1 (.slice (some ⟨q1, 0, none⟩) 2 2) enC smA := ⟨_, 2, rfl, fun _ => ⟨q1, 0, rfl, v_q1.lt, a_q1⟩⟩
  refine KGO ?_
  refine CallS.of (Tryz.call20 _ _) (sg_Build (w := w1) smA row1 (hE.keep k_w1) (by decide) (by decide)) ?_
  rintro e w2 ⟨hA, sA, rfl, oA, bA, k2⟩
  have K2 := k_w1.trans0 k2
  refine ⟨_, rfl, ?_⟩; (first | refine Then.go hmix ?_ | refine Sat.go hmix ?_ | refine ResK.go ?_ | skip); conv => whnf
  refine KGO ?_
  have v1 := VarK.new w2 31 (sgC hA)
  refine Store.fresh (vs := sgC hA) (by rfl) rfl (flat_of (by rfl)) ?_
  have a_b1 := at_fresh w2 31 (sgC hA)
  have k_w3 : Keeps w2 (w2.alloc (.cells (List.toArray (sgC hA)) 31)) none_ := (Keeps.refl _ _).alloc _
  have z_w3 : (w2.alloc (.cells (List.toArray (sgC hA)) 31)).heap.size = w2.heap.size + 1 := by simp
  generalize w2.alloc (.cells (List.toArray (sgC hA)) 31) = w3 at *
  generalize hs_b1 : w2.heap.size = b1 at *
  have K3 := K2.trans0 k_w3
  clear a_b1 a_q1 v_q1 row1
  refine KGO ?_
  refine RunV.of (build_en 4 3 _ _) ?_
  refine KGO ?_
  refine RunV.of (build_en 5 4 _ _) ?_
  refine KGO ?_
  refine RunV.of (bs2En ⟨4, 3, [98, 32, 99]⟩ ⟨5, 4, [120]⟩ _) ?_
  have a_q2 := at_fresh w3 41 (enC ⟨4, 3, [98, 32, 99]⟩ ++ enC ⟨5, 4, [120]⟩)
  have v_q2 := VarK.new w3 41 (enC ⟨4, 3, [98, 32, 99]⟩ ++ enC ⟨5, 4, [120]⟩)
  have k_w4 : Keeps w3 (w3.alloc (.cells (List.toArray (enC ⟨4, 3, [98, 32, 99]⟩ ++ enC ⟨5, 4, [120]⟩)) 41)) none_ := (Keeps.refl _ _).alloc _
  have z_w4 : (w3.alloc (.cells (List.toArray (enC ⟨4, 3, [98, 32, 99]⟩ ++ enC ⟨5, 4, [120]⟩)) 41)).heap.size = w3.heap.size + 1 := by simp
  generalize w3.alloc (.cells (List.toArray (enC ⟨4, 3, [98, 32, 99]⟩ ++ enC ⟨5, 4, [120]⟩)) 41) = w4 at *
  generalize hs_q2 : w3.heap.size = q2 at *
  have r_w4 : Keeps w4 w4 none_ := Keeps.refl _ _
  have row2 : RowO w4 (.slice (some ⟨q2, 0, none⟩) 2 2) enC smB := ⟨_, 2, rfl, fun _ => ⟨q2, 0, rfl, v_q2.lt, a_q2⟩⟩
  have K4 := K3.trans0 k_w4
  refine KGO ?_
  refine CallS.of (Tryz.call20 _ _) (sg_Build (w := w4) smB row2 (hE.keep K4) (by decide) (by decide)) ?_
  rintro e w5 ⟨hB, sB, rfl, oB, bB, k5⟩
  have K5 := K4.trans0 k5
  refine ⟨_, rfl, ?_⟩; (first | refine Then.go hmix ?_ | refine Sat.go hmix ?_ | refine ResK.go ?_ | skip); conv => whnf
  refine KGO ?_
  have v2 := VarK.new w5 31 (sgC hB)
  refine Store.fresh (vs := sgC hB) (by rfl) rfl (flat_of (by rfl)) ?_
  have a_b2 := at_fresh w5 31 (sgC hB)
  have k_w6 : Keeps w5 (w5.alloc (.cells (List.toArray (sgC hB)) 31)) none_ := (Keeps.refl _ _).alloc _
  have z_w6 : (w5.alloc (.cells (List.toArray (sgC hB)) 31)).heap.size = w5.heap.size + 1 := by simp
  generalize w5.alloc (.cells (List.toArray (sgC hB)) 31) = w6 at *
  generalize hs_b2 : w5.heap.size = b2 at *
  have K6 := K5.trans0 k_w6
  have J36 := (k_w4.trans0 k5).trans0 k_w6
  have v1 := v1.keep0 J36
  have a1 := v1.at
  have a2 := v2.at
  have q6 := Keeps.refl w6 none_
  have bdA := bd_small bA (by decide) (by decide)
  have bdB := bd_small bB (by decide) (by decide)
  have oA := (oA.keep k_w3).keep J36
  have oB := oB.keep k_w6
  clear a_b2 a_q2 v_q2 row2 J36
  refine KGO ?_
  refine RunV.of (bs1I 3 _) ?_
  have a_q3 := at_fresh w6 3 (inC 3)
  have v_q3 := VarK.new w6 3 (inC 3)
  have k_w7 : Keeps w6 (w6.alloc (.cells (List.toArray (inC 3)) 3)) none_ := (Keeps.refl _ _).alloc _
  have z_w7 : (w6.alloc (.cells (List.toArray (inC 3)) 3)).heap.size = w6.heap.size + 1 := by simp
  generalize w6.alloc (.cells (List.toArray (inC 3)) 3) = w7 at *
  generalize hs_q3 : w6.heap.size = q3 at *
  have r_w7 : Keeps w7 w7 none_ := Keeps.refl _ _
  have r3 : RowI w7 (.slice (some ⟨q3, 0, none⟩) 1 1) [3] := ⟨_, 1, rfl, fun _ => ⟨q3, 0, rfl, v_q3.lt, a_q3⟩⟩
  have K7 := K6.trans0 k_w7
  refine KGO ?_
  refine CallS.of (Tryz.call15 _ _) (mg_Two (w := w7) hA hB sA sB [3] (oA.rd.keep k_w7) (oB.rd.keep k_w7) (smS_small bdA) (smS_small bdB) r3 (by decide) (hE.keep K7)) ?_
  rintro e w8 ⟨hM, rfl, oM, k8⟩
  have K8 := K7.trans0 k8
  refine ⟨_, rfl, ?_⟩; (first | refine Then.go hmix ?_ | refine Sat.go hmix ?_ | refine ResK.go ?_ | skip); conv => whnf
  refine KGO ?_
  have v3 := VarK.new w8 31 (sgC hM)
  refine Store.fresh (vs := sgC hM) (by rfl) rfl (flat_of (by rfl)) ?_
  have a_b3 := at_fresh w8 31 (sgC hM)
  have k_w9 : Keeps w8 (w8.alloc (.cells (List.toArray (sgC hM)) 31)) none_ := (Keeps.refl _ _).alloc _
  have z_w9 : (w8.alloc (.cells (List.toArray (sgC hM)) 31)).heap.size = w8.heap.size + 1 := by simp
  generalize w8.alloc (.cells (List.toArray (sgC hM)) 31) = w9 at *
  generalize hs_b3 : w8.heap.size = b3 at *
  have K9 := K8.trans0 k_w9
  have J69 := (k_w7.trans0 k8).trans0 k_w9
  have v1 := v1.keep0 J69
  have v2 := v2.keep0 J69
  have oA := oA.keep J69
  have oB := oB.keep J69
  have oM := oM.keep k_w9
  clear a_b3 a_q3 v_q3 r3 J69 a1 a2 q6
  refine KGO ?_
  refine RunV.of (build_en 5 3 _ _) ?_
  refine KGO ?_
  refine RunV.of (build_en 4 3 _ _) ?_
  refine KGO ?_
  refine RunV.of (build_en 5 4 _ _) ?_
  refine KGO ?_
  refine RunV.of (bs3En ⟨5, 3, [98]⟩ ⟨4, 3, [98, 32, 99]⟩ ⟨5, 4, [120]⟩ _) ?_
  have a_q4 := at_fresh w9 41 (enC ⟨5, 3, [98]⟩ ++ enC ⟨4, 3, [98, 32, 99]⟩ ++ enC ⟨5, 4, [120]⟩)
  have v_q4 := VarK.new w9 41 (enC ⟨5, 3, [98]⟩ ++ enC ⟨4, 3, [98, 32, 99]⟩ ++ enC ⟨5, 4, [120]⟩)
  have k_w10 : Keeps w9 (w9.alloc (.cells (List.toArray (enC ⟨5, 3, [98]⟩ ++ enC ⟨4, 3, [98, 32, 99]⟩ ++ enC ⟨5, 4, [120]⟩)) 41)) none_ := (Keeps.refl _ _).alloc _
  have z_w10 : (w9.alloc (.cells (List.toArray (enC ⟨5, 3, [98]⟩ ++ enC ⟨4, 3, [98, 32, 99]⟩ ++ enC ⟨5, 4, [120]⟩)) 41)).heap.size = w9.heap.size + 1 := by simp
  generalize w9.alloc (.cells (List.toArray (enC ⟨5, 3, [98]⟩ ++ enC ⟨4, 3, [98, 32, 99]⟩ ++ enC ⟨5, 4, [120]⟩)) 41) = w10 at *
  generalize hs_q4 : w9.heap.size = q4 at *
  have r_w10 : Keeps w10 w10 none_ := Keeps.refl _ _
  have row4 : RowO w10 (.slice (some ⟨q4, 0, none⟩) 3 3) enC smW := ⟨_, 3, rfl, fun _ => ⟨q4, 0, rfl, v_q4.lt, a_q4⟩⟩
  have K10 := K9.trans0 k_w10
  refine KGO ?_
  refine CallS.of (Tryz.call20 _ _) (sg_Build (w := w10) smW row4 (hE.keep K10) (by decide) (by decide)) ?_
  rintro e w11 ⟨hW, sW, rfl, oW, bW, k11⟩
  have K11 := K10.trans0 k11
  refine ⟨_, rfl, ?_⟩; (first | refine Then.go hmix ?_ | refine Sat.go hmix ?_ | refine ResK.go ?_ | skip); conv => whnf
  refine KGO ?_
  have v4 := VarK.new w11 31 (sgC hW)
  refine Store.fresh (vs := sgC hW) (by rfl) rfl (flat_of (by rfl)) ?_
  have a_b4 := at_fresh w11 31 (sgC hW)
  have k_w12 : Keeps w11 (w11.alloc (.cells (List.toArray (sgC hW)) 31)) none_ := (Keeps.refl _ _).alloc _
  have z_w12 : (w11.alloc (.cells (List.toArray (sgC hW)) 31)).heap.size = w11.heap.size + 1 := by simp
  generalize w11.alloc (.cells (List.toArray (sgC hW)) 31) = w12 at *
  generalize hs_b4 : w11.heap.size = b4 at *
  have K12 := K11.trans0 k_w12
  have J912 := (k_w10.trans0 k11).trans0 k_w12
  have v1 := v1.keep0 J912
  have v2 := v2.keep0 J912
  have v3 := v3.keep0 J912
  have oA := oA.keep J912
  have oB := oB.keep J912
  have oM := oM.keep J912
  have oW := oW.keep k_w12
  clear a_b4 a_q4 v_q4 row4 J912
  refine KGO ?_
  refine RunV.of (bs3I 9 4 3 _) ?_
  have a_q5 := at_fresh w12 3 ([.int .i64 9, .int .i64 4, .int .i64 3])
  have v_q5 := VarK.new w12 3 ([.int .i64 9, .int .i64 4, .int .i64 3])
  have k_w13 : Keeps w12 (w12.alloc (.cells (List.toArray ([.int .i64 9, .int .i64 4, .int .i64 3])) 3)) none_ := (Keeps.refl _ _).alloc _
  have z_w13 : (w12.alloc (.cells (List.toArray ([.int .i64 9, .int .i64 4, .int .i64 3])) 3)).heap.size = w12.heap.size + 1 := by simp
  generalize w12.alloc (.cells (List.toArray ([.int .i64 9, .int .i64 4, .int .i64 3])) 3) = w13 at *
  generalize hs_q5 : w12.heap.size = q5 at *
  have r_w13 : Keeps w13 w13 none_ := Keeps.refl _ _
  have r5 : RowI w13 (.slice (some ⟨q5, 0, none⟩) 3 3) [9, 4, 3] := ⟨_, 3, rfl, fun _ => ⟨q5, 0, rfl, v_q5.lt, a_q5⟩⟩
  refine KGO ?_
  have hp1 := mg_Pick (w := w13) [9, 4, 3] r5 (by decide)
  rw [show pickL [9, 4, 3] = some 1 from by decide] at hp1
  refine CallS.of (Tryz.call10 _ _) hp1 ?_
  rintro e w14 ⟨rfl, k14⟩
  refine ⟨_, rfl, ?_⟩; (first | refine Then.go hmix ?_ | refine Sat.go hmix ?_ | refine ResK.go ?_ | skip); conv => whnf
  refine KGO ?_
  refine RunV.of (bs3I 9 4 1 _) ?_
  have a_q6 := at_fresh w14 3 ([.int .i64 9, .int .i64 4, .int .i64 1])
  have v_q6 := VarK.new w14 3 ([.int .i64 9, .int .i64 4, .int .i64 1])
  have k_w15 : Keeps w14 (w14.alloc (.cells (List.toArray ([.int .i64 9, .int .i64 4, .int .i64 1])) 3)) none_ := (Keeps.refl _ _).alloc _
  have z_w15 : (w14.alloc (.cells (List.toArray ([.int .i64 9, .int .i64 4, .int .i64 1])) 3)).heap.size = w14.heap.size + 1 := by simp
  generalize w14.alloc (.cells (List.toArray ([.int .i64 9, .int .i64 4, .int .i64 1])) 3) = w15 at *
  generalize hs_q6 : w14.heap.size = q6 at *
  have r_w15 : Keeps w15 w15 none_ := Keeps.refl _ _
  have r6 : RowI w15 (.slice (some ⟨q6, 0, none⟩) 3 3) [9, 4, 1] := ⟨_, 3, rfl, fun _ => ⟨q6, 0, rfl, v_q6.lt, a_q6⟩⟩
  refine KGO ?_
  have hp2 := mg_Pick (w := w15) [9, 4, 1] r6 (by decide)
  rw [show pickL [9, 4, 1] = none from by decide] at hp2
  refine CallS.of (Tryz.call10 _ _) hp2 ?_
  rintro e wz ⟨rfl, k16⟩
  refine ⟨_, rfl, ?_⟩; (first | refine Then.go hmix ?_ | refine Sat.go hmix ?_ | refine ResK.go ?_ | skip); conv => whnf
  have J := ((k_w13.trans0 k14).trans0 k_w15).trans0 k16
  have K := K12.trans0 J
  have v1 := v1.keep0 J
  have v2 := v2.keep0 J
  have v3 := v3.keep0 J
  have v4 := v4.keep0 J
  have oA := oA.keep J
  have oB := oB.keep J
  have oM := oM.keep J
  have oW := oW.keep J
  have hTW : twoS sA sB [3] = sW := sm_two bA bB bW
  have hMd := sm_docs bW
  have hMt := sm_terms bW
  rw [hTW] at oM
  obtain ⟨sM, hsM⟩ : ∃ sM, sM = sW := ⟨_, rfl⟩
  rw [← hsM] at oM
  have hMW : sM = sW := hsM
  have hdl : sW.docs.length = 2 := by rw [hMd]; rfl
  have hdM : sM.docs.length = 2 := by rw [hMW]; exact hdl
  have htM : sM.terms.length = 3 := by rw [hMW]; exact hMt
  obtain ⟨_, _, eMt⟩ := own_shape oM.t
  obtain ⟨_, _, eMd⟩ := own_shape oM.d
  obtain ⟨⟨mta, mtn, mtc⟩, ⟨mda, mdn, mdc⟩⟩ := hM
  injection eMt with _ eMt _
  injection eMd with _ eMd _
  dsimp only at eMt eMd
  rw [htM] at eMt
  rw [hdM] at eMd
  subst eMt eMd
  have kd : Keeps wz wz.drew none_ := (Keeps.refl wz none_).drew
  clear K2 K3 K4 K5 K6 K7 K8 K9 K10 K11 K12 J k2 k5 k8 k11 k14 k16 k_w1 k_w3 k_w4 k_w6 k_w7 k_w9 k_w10 k_w12 k_w13 k_w15 hp1 hp2 r5 r6 a_q5 a_q6 v_q5 v_q6 hsM
  refine KGO ?_
  refine Draw.tree (fun u => Keeps wz u none_) (fun _ => true) 6 [2, 31, 39, 40, 41, 43] [0, 1, 3, 4, 5, 6, 7, 8, 9, 10, 11, 12, 13, 14, 15, 16, 17, 18, 19, 20, 21, 22, 23, 24, 25, 26, 27, 28, 29, 30, 32, 33, 34, 35, 36, 37, 38, 42, 44, 45] (by decide +kernel) kd ?_
  refine TreeS.node [(2, [0, 1, 2], [31, 39, 40, 41, 43], [3, 4, 5, 6, 7, 8, 9, 10, 11, 12, 13, 14, 15, 16, 17, 18, 19, 20, 21, 22, 23, 24, 25, 26, 27, 28, 29, 30, 32, 33, 34, 35, 36, 37, 38, 42, 44, 45])] (by decide +kernel) ?_
  intro p hp
  simp only [List.mem_cons, List.not_mem_nil, or_false] at hp
  rcases hp with rfl
  · (first | refine Then.go hmix ?_ | refine Sat.go hmix ?_ | refine ResK.go ?_ | skip); conv => whnf
    refine HeldG (sgC ⟨⟨mta, 3, mtc⟩, ⟨mda, 2, mdc⟩⟩) (by rfl) (by rfl) (fun u hu => (v3.keep0 hu).at) (by rfl) ?_
    (first | refine Then.go hmix ?_ | refine Sat.go hmix ?_ | refine ResK.go ?_ | skip); conv => whnf
    refine HeldG (sgC hW) (by rfl) (by rfl) (fun u hu => (v4.keep0 hu).at) (by rfl) ?_
    (first | refine Then.go hmix ?_ | refine Sat.go hmix ?_ | refine ResK.go ?_ | skip); conv => whnf
    refine CallS.of (Tryz.call12 _ _) (rf34_Same (w := wz.drew) ⟨⟨mta, 3, mtc⟩, ⟨mda, 2, mdc⟩⟩ hW sM sW (oM.rd.keep kd) (oW.rd.keep kd) (by omega) (by omega) (by omega)) ?_
    rintro e u1 ⟨rfl, ku1⟩
    rw [decide_eq_true hMW]
    refine ⟨_, rfl, ?_⟩; (first | refine Then.go hmix ?_ | refine Sat.go hmix ?_ | refine ResK.go ?_ | skip); conv => whnf
    have J1 := (kd).trans0 ku1
    refine ⟨J1, ?_⟩
    (first | refine Then.go hmix ?_ | refine Sat.go hmix ?_ | refine ResK.go ?_ | skip); conv => whnf
    refine ⟨rfl, ?_⟩
    refine TreeS.node [(31, [3, 4, 5, 6, 7, 8, 9, 10, 11, 12, 13, 14, 15, 16, 17, 18, 19, 20, 21, 22, 23, 24, 25, 26, 27, 28, 29, 30, 31], [39, 40, 41, 43], [32, 33, 34, 35, 36, 37, 38, 42, 44, 45])] (by decide +kernel) ?_
    intro p hp
    simp only [List.mem_cons, List.not_mem_nil, or_false] at hp
    rcases hp with rfl
    · (first | refine Then.go hmix ?_ | refine Sat.go hmix ?_ | refine ResK.go ?_ | skip); conv => whnf
      refine KGO ?_
      refine Held.one (by rfl) (fun u hu => (v3.keep0 hu).at 1 _ rfl) ?_
      refine KGO ?_
      refine Held.one (by rfl) (fun u hu => (v3.keep0 hu).at 0 _ rfl) ?_
      refine KGO ?_
      refine CallS.of (Tryz.call13 _ _) (mg_All (w := u1) [] [] ⟨none, 0, rfl, fun h => absurd h (Nat.lt_irrefl 0)⟩ (fun p hp => by cases hp) (fun p hp => by cases hp) (by decide) ⟨none, 0, rfl, fun h => absurd h (Nat.lt_irrefl 0)⟩ (by decide) (hE.keep (K.trans0 J1))) ?_
      rintro e u2 ⟨⟨h0t, ⟨h0a, h0n, h0c⟩⟩, rfl, o0, ku2⟩
      obtain ⟨_, _, e0⟩ := own_shape o0.d
      injection e0 with e01 e02 e03
      dsimp only at e02
      subst e02
      refine ⟨_, rfl, ?_⟩; (first | refine Then.go hmix ?_ | refine Sat.go hmix ?_ | refine ResK.go ?_ | skip); conv => whnf
      have J2 := (J1).trans0 ku2
      refine ⟨J2, ?_⟩
      (first | refine Then.go hmix ?_ | refine Sat.go hmix ?_ | refine ResK.go ?_ | skip); conv => whnf
      refine ⟨rfl, ?_⟩
      refine TreeS.node [(39, [32, 33, 34, 35, 36, 37, 38, 39], [40, 41, 43], [42, 44, 45]), (40, [32, 33, 34, 35, 36, 40], [39, 41, 43], [37, 38, 42, 44, 45])] (by decide +kernel) ?_
      intro p hp
      simp only [List.mem_cons, List.not_mem_nil, or_false] at hp
      rcases hp with rfl | rfl
      · (first | refine Then.go hmix ?_ | refine Sat.go hmix ?_ | refine ResK.go ?_ | skip); conv => whnf
        refine KGO ?_
        refine HeldG (sgC hB) (by rfl) (by rfl) (fun u hu => (v2.keep0 hu).at) (by rfl) ?_
        refine KGO ?_
        refine HeldG (sgC hA) (by rfl) (by rfl) (fun u hu => (v1.keep0 hu).at) (by rfl) ?_
        refine KGO ?_
        refine RunV.of (bs2Sg hB hA _) ?_
        have a_qs := at_fresh u2 31 (sgC hB ++ sgC hA)
        have v_qs := VarK.new u2 31 (sgC hB ++ sgC hA)
        have k_u3 : Keeps u2 (u2.alloc (.cells (List.toArray (sgC hB ++ sgC hA)) 31)) none_ := (Keeps.refl _ _).alloc _
        have z_u3 : (u2.alloc (.cells (List.toArray (sgC hB ++ sgC hA)) 31)).heap.size = u2.heap.size + 1 := by simp
        generalize u2.alloc (.cells (List.toArray (sgC hB ++ sgC hA)) 31) = u3 at *
        generalize hs_qs : u2.heap.size = qs at *
        have r_u3 : Keeps u3 u3 none_ := Keeps.refl _ _
        have J3 := (J2).trans0 k_u3
        have rS : RowO u3 (.slice (some ⟨qs, 0, none⟩) 2 2) sgP [(hB, sB), (hA, sA)] := ⟨_, 2, rfl, fun _ => ⟨qs, 0, rfl, v_qs.lt, a_qs⟩⟩
        (first | refine Then.go hmix ?_ | refine Sat.go hmix ?_ | refine ResK.go ?_ | skip); conv => whnf
        refine ⟨J3, ?_⟩
        (first | refine Then.go hmix ?_ | refine Sat.go hmix ?_ | refine ResK.go ?_ | skip); conv => whnf
        refine ⟨rfl, ?_⟩
        refine TreeS.node [(40, [40], [41, 43], [42, 44, 45])] (by decide +kernel) ?_
        intro p hp
        simp only [List.mem_cons, List.not_mem_nil, or_false] at hp
        rcases hp with rfl
        · (first | refine Then.go hmix ?_ | refine Sat.go hmix ?_ | refine ResK.go ?_ | skip); conv => whnf
          refine KGO ?_
          refine RunV.of (bs1I 3 _) ?_
          have a_q3 := at_fresh u3 3 (inC 3)
          have v_q3 := VarK.new u3 3 (inC 3)
          have k_u4 : Keeps u3 (u3.alloc (.cells (List.toArray (inC 3)) 3)) none_ := (Keeps.refl _ _).alloc _
          have z_u4 : (u3.alloc (.cells (List.toArray (inC 3)) 3)).heap.size = u3.heap.size + 1 := by simp
          generalize u3.alloc (.cells (List.toArray (inC 3)) 3) = u4 at *
          generalize hs_q3 : u3.heap.size = q3 at *
          have r_u4 : Keeps u4 u4 none_ := Keeps.refl _ _
          have J4 := (J3).trans0 k_u4
          have r3 : RowI u4 (.slice (some ⟨q3, 0, none⟩) 1 1) [3] := ⟨_, 1, rfl, fun _ => ⟨q3, 0, rfl, v_q3.lt, a_q3⟩⟩
          have rS := rS.keep k_u4
          (first | refine Then.go hmix ?_ | refine Sat.go hmix ?_ | refine ResK.go ?_ | skip); conv => whnf
          refine ⟨J4, ?_⟩
          (first | refine Then.go hmix ?_ | refine Sat.go hmix ?_ | refine ResK.go ?_ | skip); conv => whnf
          refine ⟨rfl, ?_⟩
          refine TreeS.node [(41, [41], [43], [42, 44, 45])] (by decide +kernel) ?_
          intro p hp
          simp only [List.mem_cons, List.not_mem_nil, or_false] at hp
          rcases hp with rfl
          · (first | refine Then.go hmix ?_ | refine Sat.go hmix ?_ | refine ResK.go ?_ | skip); conv => whnf
            have hcall := mg_All (w := u4) [(hB, sB), (hA, sA)] [3] rS (fun p hp => by
              simp only [List.mem_cons, List.not_mem_nil, or_false] at hp
              rcases hp with rfl | rfl
              · exact oB.rd.keep J4
              · exact oA.rd.keep J4) (fun p hp => by
              simp only [List.mem_cons, List.not_mem_nil, or_false] at hp
              rcases hp with rfl | rfl
              · exact bdB.mono (by decide) (by decide) (by decide)
              · exact bdA.mono (by decide) (by decide) (by decide)) (show 2 ≤ 8 by decide) r3 (by decide) (hE.keep (K.trans0 J4))
            refine KGO ?_
            refine CallS.of (Tryz.call13 _ _) hcall ?_
            rintro e u5 ⟨hX, rfl, oX, ku5⟩
            refine ⟨_, rfl, ?_⟩; (first | refine Then.go hmix ?_ | refine Sat.go hmix ?_ | refine ResK.go ?_ | skip); conv => whnf
            have J5 := (J4).trans0 ku5
            refine ⟨J5, ?_⟩
            (first | refine Then.go hmix ?_ | refine Sat.go hmix ?_ | refine ResK.go ?_ | skip); conv => whnf
            refine ⟨rfl, ?_⟩
            refine TreeS.node [(43, [42, 43], [], [44, 45])] (by decide +kernel) ?_
            intro p hp
            simp only [List.mem_cons, List.not_mem_nil, or_false] at hp
            rcases hp with rfl
            · (first | refine Then.go hmix ?_ | refine Sat.go hmix ?_ | refine ResK.go ?_ | skip); conv => whnf
              refine KGO ?_
              refine HeldG (sgC hW) (by rfl) (by rfl) (fun u hu => (v4.keep0 hu).at) (by rfl) ?_
              refine KGO ?_
              have hX2 : allS ([(hB, sB), (hA, sA)].map (·.2)) [3] = sW := (alls_two sA sB [3]).trans hTW
              rw [hX2] at oX
              refine CallS.of (Tryz.call12 _ _) (rf34_Same (w := u5) hX hW sW sW oX.rd (oW.rd.keep J5) (by omega) (by omega) (by omega)) ?_
              rintro e u6 ⟨rfl, ku6⟩
              rw [decide_eq_true rfl]
              refine ⟨_, rfl, ?_⟩; (first | refine Then.go hmix ?_ | refine Sat.go hmix ?_ | refine ResK.go ?_ | skip); conv => whnf
              have J6 := (J5).trans0 ku6
              refine ⟨J6, ?_⟩
              (first | refine Then.go hmix ?_ | refine Sat.go hmix ?_ | refine ResK.go ?_ | skip); conv => whnf
              refine ⟨rfl, ?_⟩
              refine TreeS.leaf ?_
              (first | refine Then.go hmix ?_ | refine Sat.go hmix ?_ | refine ResK.go ?_ | skip); conv => whnf
              refine KGO ?_
              exact ⟨rfl, K.trans0 J6⟩
      · (first | refine Then.go hmix ?_ | refine Sat.go hmix ?_ | refine ResK.go ?_ | skip); conv => whnf
        refine KGO ?_
        refine RunV.of (bs1I 3 _) ?_
        have a_q3 := at_fresh u2 3 (inC 3)
        have v_q3 := VarK.new u2 3 (inC 3)
        have k_u3 : Keeps u2 (u2.alloc (.cells (List.toArray (inC 3)) 3)) none_ := (Keeps.refl _ _).alloc _
        have z_u3 : (u2.alloc (.cells (List.toArray (inC 3)) 3)).heap.size = u2.heap.size + 1 := by simp
        generalize u2.alloc (.cells (List.toArray (inC 3)) 3) = u3 at *
        generalize hs_q3 : u2.heap.size = q3 at *
        have r_u3 : Keeps u3 u3 none_ := Keeps.refl _ _
        have J3 := (J2).trans0 k_u3
        have r3 : RowI u3 (.slice (some ⟨q3, 0, none⟩) 1 1) [3] := ⟨_, 1, rfl, fun _ => ⟨q3, 0, rfl, v_q3.lt, a_q3⟩⟩
        (first | refine Then.go hmix ?_ | refine Sat.go hmix ?_ | refine ResK.go ?_ | skip); conv => whnf
        refine ⟨J3, ?_⟩
        (first | refine Then.go hmix ?_ | refine Sat.go hmix ?_ | refine ResK.go ?_ | skip); conv => whnf
        refine ⟨rfl, ?_⟩
        refine TreeS.node [(39, [37, 38, 39], [41, 43], [42, 44, 45])] (by decide +kernel) ?_
        intro p hp
        simp only [List.mem_cons, List.not_mem_nil, or_false] at hp
        rcases hp with rfl
        · (first | refine Then.go hmix ?_ | refine Sat.go hmix ?_ | refine ResK.go ?_ | skip); conv => whnf
          refine KGO ?_
          refine HeldG (sgC hB) (by rfl) (by rfl) (fun u hu => (v2.keep0 hu).at) (by rfl) ?_
          refine KGO ?_
          refine HeldG (sgC hA) (by rfl) (by rfl) (fun u hu => (v1.keep0 hu).at) (by rfl) ?_
          refine KGO ?_
          refine RunV.of (bs2Sg hB hA _) ?_
          have a_qs := at_fresh u3 31 (sgC hB ++ sgC hA)
          have v_qs := VarK.new u3 31 (sgC hB ++ sgC hA)
          have k_u4 : Keeps u3 (u3.alloc (.cells (List.toArray (sgC hB ++ sgC hA)) 31)) none_ := (Keeps.refl _ _).alloc _
          have z_u4 : (u3.alloc (.cells (List.toArray (sgC hB ++ sgC hA)) 31)).heap.size = u3.heap.size + 1 := by simp
          generalize u3.alloc (.cells (List.toArray (sgC hB ++ sgC hA)) 31) = u4 at *
          generalize hs_qs : u3.heap.size = qs at *
          have r_u4 : Keeps u4 u4 none_ := Keeps.refl _ _
          have J4 := (J3).trans0 k_u4
          have rS : RowO u4 (.slice (some ⟨qs, 0, none⟩) 2 2) sgP [(hB, sB), (hA, sA)] := ⟨_, 2, rfl, fun _ => ⟨qs, 0, rfl, v_qs.lt, a_qs⟩⟩
          have r3 := r3.keep k_u4
          (first | refine Then.go hmix ?_ | refine Sat.go hmix ?_ | refine ResK.go ?_ | skip); conv => whnf
          refine ⟨J4, ?_⟩
          (first | refine Then.go hmix ?_ | refine Sat.go hmix ?_ | refine ResK.go ?_ | skip); conv => whnf
          refine ⟨rfl, ?_⟩
          refine TreeS.node [(41, [41], [43], [42, 44, 45])] (by decide +kernel) ?_
          intro p hp
          simp only [List.mem_cons, List.not_mem_nil, or_false] at hp
          rcases hp with rfl
          · (first | refine Then.go hmix ?_ | refine Sat.go hmix ?_ | refine ResK.go ?_ | skip); conv => whnf
            have hcall := mg_All (w := u4) [(hB, sB), (hA, sA)] [3] rS (fun p hp => by
              simp only [List.mem_cons, List.not_mem_nil, or_false] at hp
              rcases hp with rfl | rfl
              · exact oB.rd.keep J4
              · exact oA.rd.keep J4) (fun p hp => by
              simp only [List.mem_cons, List.not_mem_nil, or_false] at hp
              rcases hp with rfl | rfl
              · exact bdB.mono (by decide) (by decide) (by decide)
              · exact bdA.mono (by decide) (by decide) (by decide)) (show 2 ≤ 8 by decide) r3 (by decide) (hE.keep (K.trans0 J4))
            refine KGO ?_
            refine CallS.of (Tryz.call13 _ _) hcall ?_
            rintro e u5 ⟨hX, rfl, oX, ku5⟩
            refine ⟨_, rfl, ?_⟩; (first | refine Then.go hmix ?_ | refine Sat.go hmix ?_ | refine ResK.go ?_ | skip); conv => whnf
            have J5 := (J4).trans0 ku5
            refine ⟨J5, ?_⟩
            (first | refine Then.go hmix ?_ | refine Sat.go hmix ?_ | refine ResK.go ?_ | skip); conv => whnf
            refine ⟨rfl, ?_⟩
            refine TreeS.node [(43, [42, 43], [], [44, 45])] (by decide +kernel) ?_
            intro p hp
            simp only [List.mem_cons, List.not_mem_nil, or_false] at hp
            rcases hp with rfl
            · (first | refine Then.go hmix ?_ | refine Sat.go hmix ?_ | refine ResK.go ?_ | skip); conv => whnf
              refine KGO ?_
              refine HeldG (sgC hW) (by rfl) (by rfl) (fun u hu => (v4.keep0 hu).at) (by rfl) ?_
              refine KGO ?_
              have hX2 : allS ([(hB, sB), (hA, sA)].map (·.2)) [3] = sW := (alls_two sA sB [3]).trans hTW
              rw [hX2] at oX
              refine CallS.of (Tryz.call12 _ _) (rf34_Same (w := u5) hX hW sW sW oX.rd (oW.rd.keep J5) (by omega) (by omega) (by omega)) ?_
              rintro e u6 ⟨rfl, ku6⟩
              rw [decide_eq_true rfl]
              refine ⟨_, rfl, ?_⟩; (first | refine Then.go hmix ?_ | refine Sat.go hmix ?_ | refine ResK.go ?_ | skip); conv => whnf
              have J6 := (J5).trans0 ku6
              refine ⟨J6, ?_⟩
              (first | refine Then.go hmix ?_ | refine Sat.go hmix ?_ | refine ResK.go ?_ | skip); conv => whnf
              refine ⟨rfl, ?_⟩
              refine TreeS.leaf ?_
              (first | refine Then.go hmix ?_ | refine Sat.go hmix ?_ | refine ResK.go ?_ | skip); conv => whnf
              refine KGO ?_
              exact ⟨rfl, K.trans0 J6⟩
end
end Go.Proofs.YtcdpocffoapbeaaGreatDoor
