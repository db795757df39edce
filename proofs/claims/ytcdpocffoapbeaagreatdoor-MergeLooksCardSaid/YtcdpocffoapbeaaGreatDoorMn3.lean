/- Helper text of this claim: Mn3: lemmas and contracts that the proved statement rests on; no conditions of its own. -/
import Derived.Test.YtcdpocffoapbeaaGreatDoorMn2
import Derived.Test.YtcdpocffoapbeaaGreatDoorKit12
-- alias Tryz
namespace Go.Proofs.YtcdpocffoapbeaaGreatDoor
set_option linter.unusedVariables false
open Go.Shelf Go.RowKit Go.Pw Go.Vc Go.Cs Go.Lib Go.Cd Go.Mg
set_option linter.unusedVariables false
set_option maxRecDepth 100000
/-! MergeRows. -/
theorem sm_of {s : Sgm} {d t c : Nat} (h : Bd s d t c) (h1 : d ≤ 1000000) (h2 : t ≤ 1000000) (h3 : c ≤ 100000) : SmS s := smS_bd h (by omega) (by omega) (by omega)
theorem capK_nil : CapK (.slice none 0 0) := fun a n c e => by injection e with _ e1 e2; omega
section
variable {w : World}
set_option maxHeartbeats 16000000 in
theorem lw_Rows {vd : Value} (xa xb xc : Sv × Sgm) (dead : List Int) (ra : SgR w xa) (rb : SgR w xb) (rc : SgR w xc) (rd : RowI w vd dead) (hdl : dead.length ≤ 17592186044416) (hE : CEnv w) :
    Calls Tryz.prog 6 #[.agg (sgC xa.1).toArray, .agg (sgC xb.1).toArray, .agg (sgC xc.1).toArray, vd] w fun e w' => e = .returned (.bool true) ∧ Keeps w w' none_ := by
  obtain ⟨ha, a⟩ := xa
  obtain ⟨hb, b⟩ := xb
  obtain ⟨hc, c⟩ := xc
  have rd0 := rd
  obtain ⟨ad, cd, rfl, _⟩ := rd
  dsimp only
  refine calls_of_vc (args := [.agg (sgC ha).toArray, .agg (sgC hb).toArray, .agg (sgC hc).toArray, .slice ad dead.length cd]) Tryz.func6 rfl (Nat.le_of_ble_eq_true rfl) ?_; refine Sat.go hmix ?_; conv => whnf
  have a_b4 := at_fresh w 31 (sgC ha)
  have v_b4 := VarK.new w 31 (sgC ha)
  have k_w1 : Keeps w (w.alloc (.cells (List.toArray (sgC ha)) 31)) none_ := (Keeps.refl _ _).alloc _
  have z_w1 : (w.alloc (.cells (List.toArray (sgC ha)) 31)).heap.size = w.heap.size + 1 := by simp
  generalize w.alloc (.cells (List.toArray (sgC ha)) 31) = w1 at *
  generalize hs_b4 : w.heap.size = b4 at *
  have r_w1 : Keeps w1 w1 none_ := Keeps.refl _ _
  have a_b5 := at_fresh w1 31 (sgC hb)
  have v_b5 := VarK.new w1 31 (sgC hb)
  have k_w2 : Keeps w1 (w1.alloc (.cells (List.toArray (sgC hb)) 31)) none_ := (Keeps.refl _ _).alloc _
  have z_w2 : (w1.alloc (.cells (List.toArray (sgC hb)) 31)).heap.size = w1.heap.size + 1 := by simp
  generalize w1.alloc (.cells (List.toArray (sgC hb)) 31) = w2 at *
  generalize hs_b5 : w1.heap.size = b5 at *
  have r_w2 : Keeps w2 w2 none_ := Keeps.refl _ _
  have a_b6 := at_fresh w2 31 (sgC hc)
  have v_b6 := VarK.new w2 31 (sgC hc)
  have k_w3 : Keeps w2 (w2.alloc (.cells (List.toArray (sgC hc)) 31)) none_ := (Keeps.refl _ _).alloc _
  have z_w3 : (w2.alloc (.cells (List.toArray (sgC hc)) 31)).heap.size = w2.heap.size + 1 := by simp
  generalize w2.alloc (.cells (List.toArray (sgC hc)) 31) = w3 at *
  generalize hs_b6 : w2.heap.size = b6 at *
  have r_w3 : Keeps w3 w3 none_ := Keeps.refl _ _
  have K3 := (k_w1.trans0 k_w2).trans0 k_w3
  have v4 := (v_b4.keep0 k_w2).keep0 k_w3
  have v5 := v_b5.keep0 k_w3
  have v6 := v_b6
  clear a_b4 a_b5 a_b6 v_b4 v_b5 v_b6 r_w1 r_w2 r_w3
  refine KGO ?_
  refine CallS.of (Tryz.call8 _ _) (lw_small35 (w := w3) (hE.keep K3)) ?_
  rintro e w4 ⟨rfl, k4⟩
  have K4 := K3.trans0 k4
  have v4 := v4.keep0 k4
  have v5 := v5.keep0 k4
  have v6 := v6.keep0 k4
  have a4 := v4.at
  have a5 := v5.at
  have a6 := v6.at
  have q4 := Keeps.refl w4 none_
  refine ⟨_, rfl, ?_⟩; (first | refine Then.go hmix ?_ | refine Sat.go hmix ?_ | refine ResK.go ?_ | skip); conv => whnf
  refine KGO ?_
  refine RunV.of (bs3Sg ha hb hc _) ?_
  have a_p1 := at_fresh w4 31 (sgC ha ++ sgC hb ++ sgC hc)
  have v_p1 := VarK.new w4 31 (sgC ha ++ sgC hb ++ sgC hc)
  have k_w5 : Keeps w4 (w4.alloc (.cells (List.toArray (sgC ha ++ sgC hb ++ sgC hc)) 31)) none_ := (Keeps.refl _ _).alloc _
  have z_w5 : (w4.alloc (.cells (List.toArray (sgC ha ++ sgC hb ++ sgC hc)) 31)).heap.size = w4.heap.size + 1 := by simp
  generalize w4.alloc (.cells (List.toArray (sgC ha ++ sgC hb ++ sgC hc)) 31) = w5 at *
  generalize hs_p1 : w4.heap.size = p1 at *
  have r_w5 : Keeps w5 w5 none_ := Keeps.refl _ _
  have K5 := K4.trans0 k_w5
  have row1 : RowO w5 (.slice (some ⟨p1, 0, none⟩) 3 3) sgP [(ha, a), (hb, b), (hc, c)] := ⟨_, 3, rfl, fun _ => ⟨p1, 0, rfl, v_p1.lt, a_p1⟩⟩
  refine KGO ?_
  have hcall := lw_few35 (w := w5) [(ha, a), (hb, b), (hc, c)] dead row1 (fun p hp => by
    simp only [List.mem_cons, List.not_mem_nil, or_false] at hp
    rcases hp with rfl | rfl | rfl
    · exact ra.keep K5
    · exact rb.keep K5
    · exact rc.keep K5) (show 3 ≤ 1000000000000 by decide) (rd0.keep K5) (by omega)
  refine CallS.of (Tryz.call9 _ _) hcall ?_
  rintro e w6 ⟨⟨q, rfl, hq⟩, k6⟩
  have K6 := K5.trans0 k6
  have J46 := k_w5.trans0 k6
  refine ⟨_, rfl, ?_⟩; (first | refine Then.go hmix ?_ | refine Sat.go hmix ?_ | refine ResK.go ?_ | skip); conv => whnf
  cases q with
  | false =>
    refine KGO ?_
    exact ⟨rfl, K6⟩
  | true =>
  obtain ⟨_, hd50, hlit⟩ := hq rfl
  have bda := bd_little (hlit (ha, a) (by simp))
  have bdb := bd_little (hlit (hb, b) (by simp))
  have bdc := bd_little (hlit (hc, c) (by simp))
  dsimp only at bda bdb bdc
  have v4 := v4.keep0 J46
  have v5 := v5.keep0 J46
  have v6 := v6.keep0 J46
  have a4 := v4.at
  have a5 := v5.at
  have a6 := v6.at
  have q6 := Keeps.refl w6 none_
  clear hcall row1 a_p1 v_p1 hq hlit q4 k4 k_w1 k_w2 k_w3 k_w5 k6 r_w5
  refine KGO ?_
  refine RunV.of (bs3Sg ha hb hc _) ?_
  have a_p2 := at_fresh w6 31 (sgC ha ++ sgC hb ++ sgC hc)
  have v_p2 := VarK.new w6 31 (sgC ha ++ sgC hb ++ sgC hc)
  have k_w7 : Keeps w6 (w6.alloc (.cells (List.toArray (sgC ha ++ sgC hb ++ sgC hc)) 31)) none_ := (Keeps.refl _ _).alloc _
  have z_w7 : (w6.alloc (.cells (List.toArray (sgC ha ++ sgC hb ++ sgC hc)) 31)).heap.size = w6.heap.size + 1 := by simp
  generalize w6.alloc (.cells (List.toArray (sgC ha ++ sgC hb ++ sgC hc)) 31) = w7 at *
  generalize hs_p2 : w6.heap.size = p2 at *
  have r_w7 : Keeps w7 w7 none_ := Keeps.refl _ _
  have K7 := K6.trans0 k_w7
  have row2 : RowO w7 (.slice (some ⟨p2, 0, none⟩) 3 3) sgP [(ha, a), (hb, b), (hc, c)] := ⟨_, 3, rfl, fun _ => ⟨p2, 0, rfl, v_p2.lt, a_p2⟩⟩
  refine KGO ?_
  have hcall := mg_All (w := w7) [(ha, a), (hb, b), (hc, c)] dead row2 (fun p hp => by
    simp only [List.mem_cons, List.not_mem_nil, or_false] at hp
    rcases hp with rfl | rfl | rfl
    · exact ra.1.keep K7
    · exact rb.1.keep K7
    · exact rc.1.keep K7) (fun p hp => by
    simp only [List.mem_cons, List.not_mem_nil, or_false] at hp
    rcases hp with rfl | rfl | rfl
    · exact bda.mono (by decide) (by decide) (by decide)
    · exact bdb.mono (by decide) (by decide) (by decide)
    · exact bdc.mono (by decide) (by decide) (by decide)) (show 3 ≤ 8 by decide) (rd0.keep K7) (by omega) (hE.keep K7)
  rw [show [(ha, a), (hb, b), (hc, c)].map (·.2) = [a, b, c] from rfl] at hcall
  refine CallS.of (Tryz.call13 _ _) hcall ?_
  rintro e w8 ⟨h1, rfl, o1, k8⟩
  have K8 := K7.trans0 k8
  refine ⟨_, rfl, ?_⟩; (first | refine Then.go hmix ?_ | refine Sat.go hmix ?_ | refine ResK.go ?_ | skip); conv => whnf
  refine KGO ?_
  have v11 := VarK.new w8 31 (sgC h1)
  refine Store.fresh (vs := sgC h1) (by rfl) rfl (flat_of (by rfl)) ?_
  have a_b11 := at_fresh w8 31 (sgC h1)
  have k_w9 : Keeps w8 (w8.alloc (.cells (List.toArray (sgC h1)) 31)) none_ := (Keeps.refl _ _).alloc _
  have z_w9 : (w8.alloc (.cells (List.toArray (sgC h1)) 31)).heap.size = w8.heap.size + 1 := by simp
  generalize w8.alloc (.cells (List.toArray (sgC h1)) 31) = w9 at *
  generalize hs_b11 : w8.heap.size = b11 at *
  have K9 := K8.trans0 k_w9
  have J69 := (k_w7.trans0 k8).trans0 k_w9
  have o1 := o1.keep k_w9
  have v4 := v4.keep0 J69
  have v5 := v5.keep0 J69
  have v6 := v6.keep0 J69
  clear hcall row2 a_p2 v_p2 a_b11 a4 a5 a6 q6 k8 k_w7 k_w9 J69
  refine KGO ?_
  have kd9 := (Keeps.refl w9 none_).drew
  refine Draw.cut (ι := Nat × Sv) (fun p => [(3, .slice ad dead.length cd), (4, .pointer (some ⟨b4, 0, none⟩)), (5, .pointer (some ⟨b5, 0, none⟩)), (6, .pointer (some ⟨b6, 0, none⟩)), (9, .bool true), (11, .pointer (some ⟨b11, 0, none⟩)), (12, .pointer (some ⟨p.1, 0, none⟩))])
    (fun p u => Keeps w9 u none_ ∧ VarK u p.1 31 (sgC p.2) ∧ ∃ B, OwS u B p.2 (twoS a (twoS b c []) dead)) ?_ ?_
  · have bdbc := bd_two bdb bdc []
    refine Draw.tree (fun u => Keeps w9 u none_) (fun _ => true) 4 [3, 5, 6, 7] [0, 1, 2, 4] (by decide +kernel) kd9 ?_
    refine TreeS.node [(3, [1, 2, 3], [5, 6, 7], [0, 4]), (6, [6], [3, 5, 7], [0, 1, 2, 4])] (by decide +kernel) ?_
    intro p hp
    simp only [List.mem_cons, List.not_mem_nil, or_false] at hp
    rcases hp with rfl | rfl
    · (first | refine Then.go hmix ?_ | refine Sat.go hmix ?_ | refine ResK.go ?_ | skip); conv => whnf
      refine HeldG (sgC hb) (by rfl) (by rfl) (fun u hu => (v5.keep0 hu).at) (by rfl) ?_
      (first | refine Then.go hmix ?_ | refine Sat.go hmix ?_ | refine ResK.go ?_ | skip); conv => whnf
      refine HeldG (sgC hc) (by rfl) (by rfl) (fun u hu => (v6.keep0 hu).at) (by rfl) ?_
      (first | refine Then.go hmix ?_ | refine Sat.go hmix ?_ | refine ResK.go ?_ | skip); conv => whnf
      refine CallS.of (Tryz.call15 _ _) (mg_Two hb hc b c [] (rb.1.keep (K9.trans0 kd9)) (rc.1.keep (K9.trans0 kd9)) (sm_of bdb (by decide) (by decide) (by decide)) (sm_of bdc (by decide) (by decide) (by decide)) ⟨none, 0, rfl, fun h => absurd h (Nat.lt_irrefl 0)⟩ (by decide) (hE.keep (K9.trans0 kd9))) ?_
      rintro e u1 ⟨hI, rfl, oI, ku1⟩
      refine ⟨_, rfl, ?_⟩; (first | refine Then.go hmix ?_ | refine Sat.go hmix ?_ | refine ResK.go ?_ | skip); conv => whnf
      have J1 := (kd9).trans0 ku1
      refine ⟨J1, ?_⟩
      (first | refine Then.go hmix ?_ | refine Sat.go hmix ?_ | refine ResK.go ?_ | skip); conv => whnf
      refine ⟨rfl, ?_⟩
      refine TreeS.node [(5, [0, 4, 5], [6, 7], []), (6, [6], [5, 7], [0, 4])] (by decide +kernel) ?_
      intro p hp
      simp only [List.mem_cons, List.not_mem_nil, or_false] at hp
      rcases hp with rfl | rfl
      · (first | refine Then.go hmix ?_ | refine Sat.go hmix ?_ | refine ResK.go ?_ | skip); conv => whnf
        refine HeldG (sgC ha) (by rfl) (by rfl) (fun u hu => (v4.keep0 hu).at) (by rfl) ?_
        (first | refine Then.go hmix ?_ | refine Sat.go hmix ?_ | refine ResK.go ?_ | skip); conv => whnf
        refine CallS.of (Tryz.call15 _ _) (mg_Two ha hI a (twoS b c []) dead (ra.1.keep (K9.trans0 J1)) oI.rd (sm_of bda (by decide) (by decide) (by decide)) (sm_of bdbc (by decide) (by decide) (by decide)) (rd0.keep (K9.trans0 J1)) (by omega) (hE.keep (K9.trans0 J1))) ?_
        rintro e u2 ⟨hO, rfl, oO, ku2⟩
        refine ⟨_, rfl, ?_⟩; (first | refine Then.go hmix ?_ | refine Sat.go hmix ?_ | refine ResK.go ?_ | skip); conv => whnf
        have J2 := (J1).trans0 ku2
        have oI := oI.keep ku2
        refine ⟨J2, ?_⟩
        (first | refine Then.go hmix ?_ | refine Sat.go hmix ?_ | refine ResK.go ?_ | skip); conv => whnf
        refine ⟨rfl, ?_⟩
        refine TreeS.node [(6, [6], [7], [])] (by decide +kernel) ?_
        intro p hp
        simp only [List.mem_cons, List.not_mem_nil, or_false] at hp
        rcases hp with rfl
        · (first | refine Then.go hmix ?_ | refine Sat.go hmix ?_ | refine ResK.go ?_ | skip); conv => whnf
          have a_bN := at_fresh u2 31 ([.slice none 0 0, .slice none 0 0])
          have v_bN := VarK.new u2 31 ([.slice none 0 0, .slice none 0 0])
          have k_u3 : Keeps u2 (u2.alloc (.cells (List.toArray ([.slice none 0 0, .slice none 0 0])) 31)) none_ := (Keeps.refl _ _).alloc _
          have z_u3 : (u2.alloc (.cells (List.toArray ([.slice none 0 0, .slice none 0 0])) 31)).heap.size = u2.heap.size + 1 := by simp
          generalize u2.alloc (.cells (List.toArray ([.slice none 0 0, .slice none 0 0])) 31) = u3 at *
          generalize hs_bN : u2.heap.size = bN at *
          have r_u3 : Keeps u3 u3 none_ := Keeps.refl _ _
          have ku3 := k_u3
          have vN := v_bN
          have hbN : w9.heap.size ≤ bN := by have := (J2).size; omega
          clear a_bN v_bN
          have J3 := (J2).trans0 ku3
          have oI := oI.keep ku3
          have oO := oO.keep ku3
          refine ⟨J3, ?_⟩
          (first | refine Then.go hmix ?_ | refine Sat.go hmix ?_ | refine ResK.go ?_ | skip); conv => whnf
          refine ⟨rfl, ?_⟩
          refine TreeS.node [(7, [7], [], [])] (by decide +kernel) ?_
          intro p hp
          simp only [List.mem_cons, List.not_mem_nil, or_false] at hp
          rcases hp with rfl
          · (first | refine Then.go hmix ?_ | refine Sat.go hmix ?_ | refine ResK.go ?_ | skip); conv => whnf
            refine Store.varK (sgC hO) vN (by rfl) rfl (flat_of (by rfl)) fun u4 vM ku4 => ?_
            have J4 : Keeps w9 u4 none_ := keeps_new (J3) ku4 hbN
            have oM := oO.keepT ku4 (notD_var vN (by decide))
            (first | refine Then.go hmix ?_ | refine Sat.go hmix ?_ | refine ResK.go ?_ | skip); conv => whnf
            refine ⟨J4, ?_⟩
            (first | refine Then.go hmix ?_ | refine Sat.go hmix ?_ | refine ResK.go ?_ | skip); conv => whnf
            refine ⟨rfl, ?_⟩
            refine TreeS.leaf ?_
            (first | refine Then.go hmix ?_ | refine Sat.go hmix ?_ | refine ResK.go ?_ | skip); conv => whnf
            exact ⟨(bN, hO), ⟨rfl, rfl, rfl, rfl, rfl, rfl, rfl, trivial⟩, J4, vM, _, oM⟩
      · (first | refine Then.go hmix ?_ | refine Sat.go hmix ?_ | refine ResK.go ?_ | skip); conv => whnf
        have a_bN := at_fresh u1 31 ([.slice none 0 0, .slice none 0 0])
        have v_bN := VarK.new u1 31 ([.slice none 0 0, .slice none 0 0])
        have k_u2 : Keeps u1 (u1.alloc (.cells (List.toArray ([.slice none 0 0, .slice none 0 0])) 31)) none_ := (Keeps.refl _ _).alloc _
        have z_u2 : (u1.alloc (.cells (List.toArray ([.slice none 0 0, .slice none 0 0])) 31)).heap.size = u1.heap.size + 1 := by simp
        generalize u1.alloc (.cells (List.toArray ([.slice none 0 0, .slice none 0 0])) 31) = u2 at *
        generalize hs_bN : u1.heap.size = bN at *
        have r_u2 : Keeps u2 u2 none_ := Keeps.refl _ _
        have ku2 := k_u2
        have vN := v_bN
        have hbN : w9.heap.size ≤ bN := by have := (J1).size; omega
        clear a_bN v_bN
        have J2 := (J1).trans0 ku2
        have oI := oI.keep ku2
        refine ⟨J2, ?_⟩
        (first | refine Then.go hmix ?_ | refine Sat.go hmix ?_ | refine ResK.go ?_ | skip); conv => whnf
        refine ⟨rfl, ?_⟩
        refine TreeS.node [(5, [0, 4, 5], [7], [])] (by decide +kernel) ?_
        intro p hp
        simp only [List.mem_cons, List.not_mem_nil, or_false] at hp
        rcases hp with rfl
        · (first | refine Then.go hmix ?_ | refine Sat.go hmix ?_ | refine ResK.go ?_ | skip); conv => whnf
          refine HeldG (sgC ha) (by rfl) (by rfl) (fun u hu => (v4.keep0 hu).at) (by rfl) ?_
          (first | refine Then.go hmix ?_ | refine Sat.go hmix ?_ | refine ResK.go ?_ | skip); conv => whnf
          refine CallS.of (Tryz.call15 _ _) (mg_Two ha hI a (twoS b c []) dead (ra.1.keep (K9.trans0 J2)) oI.rd (sm_of bda (by decide) (by decide) (by decide)) (sm_of bdbc (by decide) (by decide) (by decide)) (rd0.keep (K9.trans0 J2)) (by omega) (hE.keep (K9.trans0 J2))) ?_
          rintro e u3 ⟨hO, rfl, oO, ku3⟩
          refine ⟨_, rfl, ?_⟩; (first | refine Then.go hmix ?_ | refine Sat.go hmix ?_ | refine ResK.go ?_ | skip); conv => whnf
          have J3 := (J2).trans0 ku3
          have oI := oI.keep ku3
          have vN := vN.keep0 ku3
          refine ⟨J3, ?_⟩
          (first | refine Then.go hmix ?_ | refine Sat.go hmix ?_ | refine ResK.go ?_ | skip); conv => whnf
          refine ⟨rfl, ?_⟩
          refine TreeS.node [(7, [7], [], [])] (by decide +kernel) ?_
          intro p hp
          simp only [List.mem_cons, List.not_mem_nil, or_false] at hp
          rcases hp with rfl
          · (first | refine Then.go hmix ?_ | refine Sat.go hmix ?_ | refine ResK.go ?_ | skip); conv => whnf
            refine Store.varK (sgC hO) vN (by rfl) rfl (flat_of (by rfl)) fun u4 vM ku4 => ?_
            have J4 : Keeps w9 u4 none_ := keeps_new (J3) ku4 hbN
            have oM := oO.keepT ku4 (notD_var vN (by decide))
            (first | refine Then.go hmix ?_ | refine Sat.go hmix ?_ | refine ResK.go ?_ | skip); conv => whnf
            refine ⟨J4, ?_⟩
            (first | refine Then.go hmix ?_ | refine Sat.go hmix ?_ | refine ResK.go ?_ | skip); conv => whnf
            refine ⟨rfl, ?_⟩
            refine TreeS.leaf ?_
            (first | refine Then.go hmix ?_ | refine Sat.go hmix ?_ | refine ResK.go ?_ | skip); conv => whnf
            exact ⟨(bN, hO), ⟨rfl, rfl, rfl, rfl, rfl, rfl, rfl, trivial⟩, J4, vM, _, oM⟩
    · (first | refine Then.go hmix ?_ | refine Sat.go hmix ?_ | refine ResK.go ?_ | skip); conv => whnf
      have a_bN := at_fresh w9.drew 31 ([.slice none 0 0, .slice none 0 0])
      have v_bN := VarK.new w9.drew 31 ([.slice none 0 0, .slice none 0 0])
      have k_u1 : Keeps w9.drew (w9.drew.alloc (.cells (List.toArray ([.slice none 0 0, .slice none 0 0])) 31)) none_ := (Keeps.refl _ _).alloc _
      have z_u1 : (w9.drew.alloc (.cells (List.toArray ([.slice none 0 0, .slice none 0 0])) 31)).heap.size = w9.drew.heap.size + 1 := by simp
      generalize w9.drew.alloc (.cells (List.toArray ([.slice none 0 0, .slice none 0 0])) 31) = u1 at *
      generalize hs_bN : w9.drew.heap.size = bN at *
      have r_u1 : Keeps u1 u1 none_ := Keeps.refl _ _
      have ku1 := k_u1
      have vN := v_bN
      have hbN : w9.heap.size ≤ bN := by have := (kd9).size; omega
      clear a_bN v_bN
      have J1 := (kd9).trans0 ku1
      refine ⟨J1, ?_⟩
      (first | refine Then.go hmix ?_ | refine Sat.go hmix ?_ | refine ResK.go ?_ | skip); conv => whnf
      refine ⟨rfl, ?_⟩
      refine TreeS.node [(3, [1, 2, 3], [5, 7], [0, 4])] (by decide +kernel) ?_
      intro p hp
      simp only [List.mem_cons, List.not_mem_nil, or_false] at hp
      rcases hp with rfl
      · (first | refine Then.go hmix ?_ | refine Sat.go hmix ?_ | refine ResK.go ?_ | skip); conv => whnf
        refine HeldG (sgC hb) (by rfl) (by rfl) (fun u hu => (v5.keep0 hu).at) (by rfl) ?_
        (first | refine Then.go hmix ?_ | refine Sat.go hmix ?_ | refine ResK.go ?_ | skip); conv => whnf
        refine HeldG (sgC hc) (by rfl) (by rfl) (fun u hu => (v6.keep0 hu).at) (by rfl) ?_
        (first | refine Then.go hmix ?_ | refine Sat.go hmix ?_ | refine ResK.go ?_ | skip); conv => whnf
        refine CallS.of (Tryz.call15 _ _) (mg_Two hb hc b c [] (rb.1.keep (K9.trans0 J1)) (rc.1.keep (K9.trans0 J1)) (sm_of bdb (by decide) (by decide) (by decide)) (sm_of bdc (by decide) (by decide) (by decide)) ⟨none, 0, rfl, fun h => absurd h (Nat.lt_irrefl 0)⟩ (by decide) (hE.keep (K9.trans0 J1))) ?_
        rintro e u2 ⟨hI, rfl, oI, ku2⟩
        refine ⟨_, rfl, ?_⟩; (first | refine Then.go hmix ?_ | refine Sat.go hmix ?_ | refine ResK.go ?_ | skip); conv => whnf
        have J2 := (J1).trans0 ku2
        have vN := vN.keep0 ku2
        refine ⟨J2, ?_⟩
        (first | refine Then.go hmix ?_ | refine Sat.go hmix ?_ | refine ResK.go ?_ | skip); conv => whnf
        refine ⟨rfl, ?_⟩
        refine TreeS.node [(5, [0, 4, 5], [7], [])] (by decide +kernel) ?_
        intro p hp
        simp only [List.mem_cons, List.not_mem_nil, or_false] at hp
        rcases hp with rfl
        · (first | refine Then.go hmix ?_ | refine Sat.go hmix ?_ | refine ResK.go ?_ | skip); conv => whnf
          refine HeldG (sgC ha) (by rfl) (by rfl) (fun u hu => (v4.keep0 hu).at) (by rfl) ?_
          (first | refine Then.go hmix ?_ | refine Sat.go hmix ?_ | refine ResK.go ?_ | skip); conv => whnf
          refine CallS.of (Tryz.call15 _ _) (mg_Two ha hI a (twoS b c []) dead (ra.1.keep (K9.trans0 J2)) oI.rd (sm_of bda (by decide) (by decide) (by decide)) (sm_of bdbc (by decide) (by decide) (by decide)) (rd0.keep (K9.trans0 J2)) (by omega) (hE.keep (K9.trans0 J2))) ?_
          rintro e u3 ⟨hO, rfl, oO, ku3⟩
          refine ⟨_, rfl, ?_⟩; (first | refine Then.go hmix ?_ | refine Sat.go hmix ?_ | refine ResK.go ?_ | skip); conv => whnf
          have J3 := (J2).trans0 ku3
          have oI := oI.keep ku3
          have vN := vN.keep0 ku3
          refine ⟨J3, ?_⟩
          (first | refine Then.go hmix ?_ | refine Sat.go hmix ?_ | refine ResK.go ?_ | skip); conv => whnf
          refine ⟨rfl, ?_⟩
          refine TreeS.node [(7, [7], [], [])] (by decide +kernel) ?_
          intro p hp
          simp only [List.mem_cons, List.not_mem_nil, or_false] at hp
          rcases hp with rfl
          · (first | refine Then.go hmix ?_ | refine Sat.go hmix ?_ | refine ResK.go ?_ | skip); conv => whnf
            refine Store.varK (sgC hO) vN (by rfl) rfl (flat_of (by rfl)) fun u4 vM ku4 => ?_
            have J4 : Keeps w9 u4 none_ := keeps_new (J3) ku4 hbN
            have oM := oO.keepT ku4 (notD_var vN (by decide))
            (first | refine Then.go hmix ?_ | refine Sat.go hmix ?_ | refine ResK.go ?_ | skip); conv => whnf
            refine ⟨J4, ?_⟩
            (first | refine Then.go hmix ?_ | refine Sat.go hmix ?_ | refine ResK.go ?_ | skip); conv => whnf
            refine ⟨rfl, ?_⟩
            refine TreeS.leaf ?_
            (first | refine Then.go hmix ?_ | refine Sat.go hmix ?_ | refine ResK.go ?_ | skip); conv => whnf
            exact ⟨(bN, hO), ⟨rfl, rfl, rfl, rfl, rfl, rfl, rfl, trivial⟩, J4, vM, _, oM⟩
  rintro ⟨b12, h2⟩ g10 w10 ⟨k10, v12, B2, o2⟩
  dsimp only at v12 o2 ⊢
  have K10 := K9.trans0 k10
  have v4 := v4.keep0 k10
  have v5 := v5.keep0 k10
  have v6 := v6.keep0 k10
  have v11 := v11.keep0 k10
  have o1 := o1.keep k10
  have a4 := v4.at
  have a5 := v5.at
  have a6 := v6.at
  have q10 := Keeps.refl w10 none_
  refine KGO ?_
  refine RunV.of (bs3Sg hc ha hb _) ?_
  have a_p3 := at_fresh w10 31 (sgC hc ++ sgC ha ++ sgC hb)
  have v_p3 := VarK.new w10 31 (sgC hc ++ sgC ha ++ sgC hb)
  have k_w11 : Keeps w10 (w10.alloc (.cells (List.toArray (sgC hc ++ sgC ha ++ sgC hb)) 31)) none_ := (Keeps.refl _ _).alloc _
  have z_w11 : (w10.alloc (.cells (List.toArray (sgC hc ++ sgC ha ++ sgC hb)) 31)).heap.size = w10.heap.size + 1 := by simp
  generalize w10.alloc (.cells (List.toArray (sgC hc ++ sgC ha ++ sgC hb)) 31) = w11 at *
  generalize hs_p3 : w10.heap.size = p3 at *
  have r_w11 : Keeps w11 w11 none_ := Keeps.refl _ _
  have K11 := K10.trans0 k_w11
  have row3 : RowO w11 (.slice (some ⟨p3, 0, none⟩) 3 3) sgP [(hc, c), (ha, a), (hb, b)] := ⟨_, 3, rfl, fun _ => ⟨p3, 0, rfl, v_p3.lt, a_p3⟩⟩
  refine KGO ?_
  have hcall := mg_All (w := w11) [(hc, c), (ha, a), (hb, b)] dead row3 (fun p hp => by
    simp only [List.mem_cons, List.not_mem_nil, or_false] at hp
    rcases hp with rfl | rfl | rfl
    · exact rc.1.keep K11
    · exact ra.1.keep K11
    · exact rb.1.keep K11) (fun p hp => by
    simp only [List.mem_cons, List.not_mem_nil, or_false] at hp
    rcases hp with rfl | rfl | rfl
    · exact bdc.mono (by decide) (by decide) (by decide)
    · exact bda.mono (by decide) (by decide) (by decide)
    · exact bdb.mono (by decide) (by decide) (by decide)) (show 3 ≤ 8 by decide) (rd0.keep K11) (by omega) (hE.keep K11)
  rw [show [(hc, c), (ha, a), (hb, b)].map (·.2) = [c, a, b] from rfl] at hcall
  refine CallS.of (Tryz.call13 _ _) hcall ?_
  rintro e w12 ⟨h3, rfl, o3, k12⟩
  have K12 := K11.trans0 k12
  refine ⟨_, rfl, ?_⟩; (first | refine Then.go hmix ?_ | refine Sat.go hmix ?_ | refine ResK.go ?_ | skip); conv => whnf
  refine KGO ?_
  have v13 := VarK.new w12 31 (sgC h3)
  refine Store.fresh (vs := sgC h3) (by rfl) rfl (flat_of (by rfl)) ?_
  have a_b13 := at_fresh w12 31 (sgC h3)
  have k_w13 : Keeps w12 (w12.alloc (.cells (List.toArray (sgC h3)) 31)) none_ := (Keeps.refl _ _).alloc _
  have z_w13 : (w12.alloc (.cells (List.toArray (sgC h3)) 31)).heap.size = w12.heap.size + 1 := by simp
  generalize w12.alloc (.cells (List.toArray (sgC h3)) 31) = w13 at *
  generalize hs_b13 : w12.heap.size = b13 at *
  have K13 := K12.trans0 k_w13
  have J := (k_w11.trans0 k12).trans0 k_w13
  have o3 := o3.keep k_w13
  have o1 := o1.keep J
  have o2 := o2.keep J
  have v4 := v4.keep0 J
  have v5 := v5.keep0 J
  have v6 := v6.keep0 J
  have v11 := v11.keep0 J
  have v12 := v12.keep0 J
  clear hcall row3 a_p3 v_p3 a_b13 a4 a5 a6 q10 k12 k_w11 k_w13 J k10
  refine KGO ?_
  have kd13 := (Keeps.refl w13 none_).drew
  refine Draw.cut (ι := Nat × Sv) (fun p => [(3, .slice ad dead.length cd), (9, .bool true), (11, .pointer (some ⟨b11, 0, none⟩)), (12, .pointer (some ⟨b12, 0, none⟩)), (13, .pointer (some ⟨b13, 0, none⟩)), (14, .pointer (some ⟨p.1, 0, none⟩))])
    (fun p u => Keeps w13 u none_ ∧ VarK u p.1 31 (sgC p.2) ∧ ∃ B, OwS u B p.2 (twoS (twoS b a dead) c dead)) ?_ ?_
  · have bdba := bd_two bdb bda dead
    refine Draw.tree (fun u => Keeps w13 u none_) (fun _ => true) 4 [3, 6, 7, 8] [0, 1, 2, 4, 5] (by decide +kernel) kd13 ?_
    refine TreeS.node [(3, [0, 1, 2, 3], [6, 7, 8], [4, 5]), (7, [7], [3, 6, 8], [0, 1, 2, 4, 5])] (by decide +kernel) ?_
    intro p hp
    simp only [List.mem_cons, List.not_mem_nil, or_false] at hp
    rcases hp with rfl | rfl
    · (first | refine Then.go hmix ?_ | refine Sat.go hmix ?_ | refine ResK.go ?_ | skip); conv => whnf
      refine HeldG (sgC hb) (by rfl) (by rfl) (fun u hu => (v5.keep0 hu).at) (by rfl) ?_
      (first | refine Then.go hmix ?_ | refine Sat.go hmix ?_ | refine ResK.go ?_ | skip); conv => whnf
      refine HeldG (sgC ha) (by rfl) (by rfl) (fun u hu => (v4.keep0 hu).at) (by rfl) ?_
      (first | refine Then.go hmix ?_ | refine Sat.go hmix ?_ | refine ResK.go ?_ | skip); conv => whnf
      refine CallS.of (Tryz.call15 _ _) (mg_Two hb ha b a dead (rb.1.keep (K13.trans0 kd13)) (ra.1.keep (K13.trans0 kd13)) (sm_of bdb (by decide) (by decide) (by decide)) (sm_of bda (by decide) (by decide) (by decide)) (rd0.keep (K13.trans0 kd13)) (by omega) (hE.keep (K13.trans0 kd13))) ?_
      rintro e u1 ⟨hI, rfl, oI, ku1⟩
      refine ⟨_, rfl, ?_⟩; (first | refine Then.go hmix ?_ | refine Sat.go hmix ?_ | refine ResK.go ?_ | skip); conv => whnf
      have J1 := (kd13).trans0 ku1
      refine ⟨J1, ?_⟩
      (first | refine Then.go hmix ?_ | refine Sat.go hmix ?_ | refine ResK.go ?_ | skip); conv => whnf
      refine ⟨rfl, ?_⟩
      refine TreeS.node [(6, [4, 5, 6], [7, 8], []), (7, [7], [6, 8], [4, 5])] (by decide +kernel) ?_
      intro p hp
      simp only [List.mem_cons, List.not_mem_nil, or_false] at hp
      rcases hp with rfl | rfl
      · (first | refine Then.go hmix ?_ | refine Sat.go hmix ?_ | refine ResK.go ?_ | skip); conv => whnf
        refine HeldG (sgC hc) (by rfl) (by rfl) (fun u hu => (v6.keep0 hu).at) (by rfl) ?_
        (first | refine Then.go hmix ?_ | refine Sat.go hmix ?_ | refine ResK.go ?_ | skip); conv => whnf
        refine CallS.of (Tryz.call15 _ _) (mg_Two hI hc (twoS b a dead) c dead oI.rd (rc.1.keep (K13.trans0 J1)) (sm_of bdba (by decide) (by decide) (by decide)) (sm_of bdc (by decide) (by decide) (by decide)) (rd0.keep (K13.trans0 J1)) (by omega) (hE.keep (K13.trans0 J1))) ?_
        rintro e u2 ⟨hO, rfl, oO, ku2⟩
        refine ⟨_, rfl, ?_⟩; (first | refine Then.go hmix ?_ | refine Sat.go hmix ?_ | refine ResK.go ?_ | skip); conv => whnf
        have J2 := (J1).trans0 ku2
        have oI := oI.keep ku2
        refine ⟨J2, ?_⟩
        (first | refine Then.go hmix ?_ | refine Sat.go hmix ?_ | refine ResK.go ?_ | skip); conv => whnf
        refine ⟨rfl, ?_⟩
        refine TreeS.node [(7, [7], [8], [])] (by decide +kernel) ?_
        intro p hp
        simp only [List.mem_cons, List.not_mem_nil, or_false] at hp
        rcases hp with rfl
        · (first | refine Then.go hmix ?_ | refine Sat.go hmix ?_ | refine ResK.go ?_ | skip); conv => whnf
          have a_bN := at_fresh u2 31 ([.slice none 0 0, .slice none 0 0])
          have v_bN := VarK.new u2 31 ([.slice none 0 0, .slice none 0 0])
          have k_u3 : Keeps u2 (u2.alloc (.cells (List.toArray ([.slice none 0 0, .slice none 0 0])) 31)) none_ := (Keeps.refl _ _).alloc _
          have z_u3 : (u2.alloc (.cells (List.toArray ([.slice none 0 0, .slice none 0 0])) 31)).heap.size = u2.heap.size + 1 := by simp
          generalize u2.alloc (.cells (List.toArray ([.slice none 0 0, .slice none 0 0])) 31) = u3 at *
          generalize hs_bN : u2.heap.size = bN at *
          have r_u3 : Keeps u3 u3 none_ := Keeps.refl _ _
          have ku3 := k_u3
          have vN := v_bN
          have hbN : w13.heap.size ≤ bN := by have := (J2).size; omega
          clear a_bN v_bN
          have J3 := (J2).trans0 ku3
          have oI := oI.keep ku3
          have oO := oO.keep ku3
          refine ⟨J3, ?_⟩
          (first | refine Then.go hmix ?_ | refine Sat.go hmix ?_ | refine ResK.go ?_ | skip); conv => whnf
          refine ⟨rfl, ?_⟩
          refine TreeS.node [(8, [8], [], [])] (by decide +kernel) ?_
          intro p hp
          simp only [List.mem_cons, List.not_mem_nil, or_false] at hp
          rcases hp with rfl
          · (first | refine Then.go hmix ?_ | refine Sat.go hmix ?_ | refine ResK.go ?_ | skip); conv => whnf
            refine Store.varK (sgC hO) vN (by rfl) rfl (flat_of (by rfl)) fun u4 vM ku4 => ?_
            have J4 : Keeps w13 u4 none_ := keeps_new (J3) ku4 hbN
            have oM := oO.keepT ku4 (notD_var vN (by decide))
            (first | refine Then.go hmix ?_ | refine Sat.go hmix ?_ | refine ResK.go ?_ | skip); conv => whnf
            refine ⟨J4, ?_⟩
            (first | refine Then.go hmix ?_ | refine Sat.go hmix ?_ | refine ResK.go ?_ | skip); conv => whnf
            refine ⟨rfl, ?_⟩
            refine TreeS.leaf ?_
            (first | refine Then.go hmix ?_ | refine Sat.go hmix ?_ | refine ResK.go ?_ | skip); conv => whnf
            exact ⟨(bN, hO), ⟨rfl, rfl, rfl, rfl, rfl, rfl, trivial⟩, J4, vM, _, oM⟩
      · (first | refine Then.go hmix ?_ | refine Sat.go hmix ?_ | refine ResK.go ?_ | skip); conv => whnf
        have a_bN := at_fresh u1 31 ([.slice none 0 0, .slice none 0 0])
        have v_bN := VarK.new u1 31 ([.slice none 0 0, .slice none 0 0])
        have k_u2 : Keeps u1 (u1.alloc (.cells (List.toArray ([.slice none 0 0, .slice none 0 0])) 31)) none_ := (Keeps.refl _ _).alloc _
        have z_u2 : (u1.alloc (.cells (List.toArray ([.slice none 0 0, .slice none 0 0])) 31)).heap.size = u1.heap.size + 1 := by simp
        generalize u1.alloc (.cells (List.toArray ([.slice none 0 0, .slice none 0 0])) 31) = u2 at *
        generalize hs_bN : u1.heap.size = bN at *
        have r_u2 : Keeps u2 u2 none_ := Keeps.refl _ _
        have ku2 := k_u2
        have vN := v_bN
        have hbN : w13.heap.size ≤ bN := by have := (J1).size; omega
        clear a_bN v_bN
        have J2 := (J1).trans0 ku2
        have oI := oI.keep ku2
        refine ⟨J2, ?_⟩
        (first | refine Then.go hmix ?_ | refine Sat.go hmix ?_ | refine ResK.go ?_ | skip); conv => whnf
        refine ⟨rfl, ?_⟩
        refine TreeS.node [(6, [4, 5, 6], [8], [])] (by decide +kernel) ?_
        intro p hp
        simp only [List.mem_cons, List.not_mem_nil, or_false] at hp
        rcases hp with rfl
        · (first | refine Then.go hmix ?_ | refine Sat.go hmix ?_ | refine ResK.go ?_ | skip); conv => whnf
          refine HeldG (sgC hc) (by rfl) (by rfl) (fun u hu => (v6.keep0 hu).at) (by rfl) ?_
          (first | refine Then.go hmix ?_ | refine Sat.go hmix ?_ | refine ResK.go ?_ | skip); conv => whnf
          refine CallS.of (Tryz.call15 _ _) (mg_Two hI hc (twoS b a dead) c dead oI.rd (rc.1.keep (K13.trans0 J2)) (sm_of bdba (by decide) (by decide) (by decide)) (sm_of bdc (by decide) (by decide) (by decide)) (rd0.keep (K13.trans0 J2)) (by omega) (hE.keep (K13.trans0 J2))) ?_
          rintro e u3 ⟨hO, rfl, oO, ku3⟩
          refine ⟨_, rfl, ?_⟩; (first | refine Then.go hmix ?_ | refine Sat.go hmix ?_ | refine ResK.go ?_ | skip); conv => whnf
          have J3 := (J2).trans0 ku3
          have oI := oI.keep ku3
          have vN := vN.keep0 ku3
          refine ⟨J3, ?_⟩
          (first | refine Then.go hmix ?_ | refine Sat.go hmix ?_ | refine ResK.go ?_ | skip); conv => whnf
          refine ⟨rfl, ?_⟩
          refine TreeS.node [(8, [8], [], [])] (by decide +kernel) ?_
          intro p hp
          simp only [List.mem_cons, List.not_mem_nil, or_false] at hp
          rcases hp with rfl
          · (first | refine Then.go hmix ?_ | refine Sat.go hmix ?_ | refine ResK.go ?_ | skip); conv => whnf
            refine Store.varK (sgC hO) vN (by rfl) rfl (flat_of (by rfl)) fun u4 vM ku4 => ?_
            have J4 : Keeps w13 u4 none_ := keeps_new (J3) ku4 hbN
            have oM := oO.keepT ku4 (notD_var vN (by decide))
            (first | refine Then.go hmix ?_ | refine Sat.go hmix ?_ | refine ResK.go ?_ | skip); conv => whnf
            refine ⟨J4, ?_⟩
            (first | refine Then.go hmix ?_ | refine Sat.go hmix ?_ | refine ResK.go ?_ | skip); conv => whnf
            refine ⟨rfl, ?_⟩
            refine TreeS.leaf ?_
            (first | refine Then.go hmix ?_ | refine Sat.go hmix ?_ | refine ResK.go ?_ | skip); conv => whnf
            exact ⟨(bN, hO), ⟨rfl, rfl, rfl, rfl, rfl, rfl, trivial⟩, J4, vM, _, oM⟩
    · (first | refine Then.go hmix ?_ | refine Sat.go hmix ?_ | refine ResK.go ?_ | skip); conv => whnf
      have a_bN := at_fresh w13.drew 31 ([.slice none 0 0, .slice none 0 0])
      have v_bN := VarK.new w13.drew 31 ([.slice none 0 0, .slice none 0 0])
      have k_u1 : Keeps w13.drew (w13.drew.alloc (.cells (List.toArray ([.slice none 0 0, .slice none 0 0])) 31)) none_ := (Keeps.refl _ _).alloc _
      have z_u1 : (w13.drew.alloc (.cells (List.toArray ([.slice none 0 0, .slice none 0 0])) 31)).heap.size = w13.drew.heap.size + 1 := by simp
      generalize w13.drew.alloc (.cells (List.toArray ([.slice none 0 0, .slice none 0 0])) 31) = u1 at *
      generalize hs_bN : w13.drew.heap.size = bN at *
      have r_u1 : Keeps u1 u1 none_ := Keeps.refl _ _
      have ku1 := k_u1
      have vN := v_bN
      have hbN : w13.heap.size ≤ bN := by have := (kd13).size; omega
      clear a_bN v_bN
      have J1 := (kd13).trans0 ku1
      refine ⟨J1, ?_⟩
      (first | refine Then.go hmix ?_ | refine Sat.go hmix ?_ | refine ResK.go ?_ | skip); conv => whnf
      refine ⟨rfl, ?_⟩
      refine TreeS.node [(3, [0, 1, 2, 3], [6, 8], [4, 5])] (by decide +kernel) ?_
      intro p hp
      simp only [List.mem_cons, List.not_mem_nil, or_false] at hp
      rcases hp with rfl
      · (first | refine Then.go hmix ?_ | refine Sat.go hmix ?_ | refine ResK.go ?_ | skip); conv => whnf
        refine HeldG (sgC hb) (by rfl) (by rfl) (fun u hu => (v5.keep0 hu).at) (by rfl) ?_
        (first | refine Then.go hmix ?_ | refine Sat.go hmix ?_ | refine ResK.go ?_ | skip); conv => whnf
        refine HeldG (sgC ha) (by rfl) (by rfl) (fun u hu => (v4.keep0 hu).at) (by rfl) ?_
        (first | refine Then.go hmix ?_ | refine Sat.go hmix ?_ | refine ResK.go ?_ | skip); conv => whnf
        refine CallS.of (Tryz.call15 _ _) (mg_Two hb ha b a dead (rb.1.keep (K13.trans0 J1)) (ra.1.keep (K13.trans0 J1)) (sm_of bdb (by decide) (by decide) (by decide)) (sm_of bda (by decide) (by decide) (by decide)) (rd0.keep (K13.trans0 J1)) (by omega) (hE.keep (K13.trans0 J1))) ?_
        rintro e u2 ⟨hI, rfl, oI, ku2⟩
        refine ⟨_, rfl, ?_⟩; (first | refine Then.go hmix ?_ | refine Sat.go hmix ?_ | refine ResK.go ?_ | skip); conv => whnf
        have J2 := (J1).trans0 ku2
        have vN := vN.keep0 ku2
        refine ⟨J2, ?_⟩
        (first | refine Then.go hmix ?_ | refine Sat.go hmix ?_ | refine ResK.go ?_ | skip); conv => whnf
        refine ⟨rfl, ?_⟩
        refine TreeS.node [(6, [4, 5, 6], [8], [])] (by decide +kernel) ?_
        intro p hp
        simp only [List.mem_cons, List.not_mem_nil, or_false] at hp
        rcases hp with rfl
        · (first | refine Then.go hmix ?_ | refine Sat.go hmix ?_ | refine ResK.go ?_ | skip); conv => whnf
          refine HeldG (sgC hc) (by rfl) (by rfl) (fun u hu => (v6.keep0 hu).at) (by rfl) ?_
          (first | refine Then.go hmix ?_ | refine Sat.go hmix ?_ | refine ResK.go ?_ | skip); conv => whnf
          refine CallS.of (Tryz.call15 _ _) (mg_Two hI hc (twoS b a dead) c dead oI.rd (rc.1.keep (K13.trans0 J2)) (sm_of bdba (by decide) (by decide) (by decide)) (sm_of bdc (by decide) (by decide) (by decide)) (rd0.keep (K13.trans0 J2)) (by omega) (hE.keep (K13.trans0 J2))) ?_
          rintro e u3 ⟨hO, rfl, oO, ku3⟩
          refine ⟨_, rfl, ?_⟩; (first | refine Then.go hmix ?_ | refine Sat.go hmix ?_ | refine ResK.go ?_ | skip); conv => whnf
          have J3 := (J2).trans0 ku3
          have oI := oI.keep ku3
          have vN := vN.keep0 ku3
          refine ⟨J3, ?_⟩
          (first | refine Then.go hmix ?_ | refine Sat.go hmix ?_ | refine ResK.go ?_ | skip); conv => whnf
          refine ⟨rfl, ?_⟩
          refine TreeS.node [(8, [8], [], [])] (by decide +kernel) ?_
          intro p hp
          simp only [List.mem_cons, List.not_mem_nil, or_false] at hp
          rcases hp with rfl
          · (first | refine Then.go hmix ?_ | refine Sat.go hmix ?_ | refine ResK.go ?_ | skip); conv => whnf
            refine Store.varK (sgC hO) vN (by rfl) rfl (flat_of (by rfl)) fun u4 vM ku4 => ?_
            have J4 : Keeps w13 u4 none_ := keeps_new (J3) ku4 hbN
            have oM := oO.keepT ku4 (notD_var vN (by decide))
            (first | refine Then.go hmix ?_ | refine Sat.go hmix ?_ | refine ResK.go ?_ | skip); conv => whnf
            refine ⟨J4, ?_⟩
            (first | refine Then.go hmix ?_ | refine Sat.go hmix ?_ | refine ResK.go ?_ | skip); conv => whnf
            refine ⟨rfl, ?_⟩
            refine TreeS.leaf ?_
            (first | refine Then.go hmix ?_ | refine Sat.go hmix ?_ | refine ResK.go ?_ | skip); conv => whnf
            exact ⟨(bN, hO), ⟨rfl, rfl, rfl, rfl, rfl, rfl, trivial⟩, J4, vM, _, oM⟩
  rintro ⟨b14, h4⟩ g14 w14 ⟨k14, v14, B4, o4⟩
  dsimp only at v14 o4 ⊢
  have K14 := K13.trans0 k14
  have v11 := v11.keep0 k14
  have v12 := v12.keep0 k14
  have v13 := v13.keep0 k14
  have o1 := o1.keep k14
  have o2 := o2.keep k14
  have o3 := o3.keep k14
  have a11 := v11.at
  have q14 := Keeps.refl w14 none_
  have bd1 := bd_all dead [a, b, c] ⟨[], []⟩ 50 80 3000 0 0 0 (bd_nil _ _ _) (fun s hs => by
    simp only [List.mem_cons, List.not_mem_nil, or_false] at hs
    rcases hs with rfl | rfl | rfl
    · exact bda
    · exact bdb
    · exact bdc)
  have bd1 : Bd (allS [a, b, c] dead) 150 240 9000 := bd1
  refine KGO ?_
  refine RunV.of (build0Sg _) ?_
  refine KGO ?_
  have hcall := mg_Two (w := w14) h1 ⟨⟨none, 0, 0⟩, ⟨none, 0, 0⟩⟩ (allS [a, b, c] dead) ⟨[], []⟩ dead o1.rd ⟨⟨none, 0, rfl, fun h => absurd h (Nat.lt_irrefl 0)⟩, ⟨none, 0, rfl, fun h => absurd h (Nat.lt_irrefl 0)⟩, capK_nil, capK_nil⟩ (sm_of bd1 (by decide) (by decide) (by decide)) ⟨Nat.zero_le _, Nat.zero_le _, fun t h => by cases h⟩ (rd0.keep K14) (by omega) (hE.keep K14)
  refine CallS.of (Tryz.call15 _ _) hcall ?_
  rintro e w15 ⟨h5, rfl, o5, k15⟩
  have K15 := K14.trans0 k15
  refine ⟨_, rfl, ?_⟩; (first | refine Then.go hmix ?_ | refine Sat.go hmix ?_ | refine ResK.go ?_ | skip); conv => whnf
  refine KGO ?_
  have v15 := VarK.new w15 31 (sgC h5)
  refine Store.fresh (vs := sgC h5) (by rfl) rfl (flat_of (by rfl)) ?_
  have a_b15 := at_fresh w15 31 (sgC h5)
  have k_w16 : Keeps w15 (w15.alloc (.cells (List.toArray (sgC h5)) 31)) none_ := (Keeps.refl _ _).alloc _
  have z_w16 : (w15.alloc (.cells (List.toArray (sgC h5)) 31)).heap.size = w15.heap.size + 1 := by simp
  generalize w15.alloc (.cells (List.toArray (sgC h5)) 31) = w16 at *
  generalize hs_b15 : w15.heap.size = b15 at *
  have K16 := K15.trans0 k_w16
  have J := k15.trans0 k_w16
  have o5 := o5.keep k_w16
  have o1 := o1.keep J
  have o2 := o2.keep J
  have o3 := o3.keep J
  have o4 := o4.keep J
  have v11 := v11.keep0 J
  have v12 := v12.keep0 J
  have v13 := v13.keep0 J
  have v14 := v14.keep0 J
  rw [← rows_one] at o2
  rw [← rows_two] at o3
  rw [← rows_three] at o4
  rw [← rows_none] at o5
  have hright : rightS (allS [a, b, c] dead) = true := right_two _ _ _
  have hl1 := bd1.d
  have hl2 := bd1.t
  have hsm := sm_of bd1 (by decide) (by decide) (by decide)
  generalize allS [a, b, c] dead = S at *
  have a11 := v11.at
  have a12 := v12.at
  have a13 := v13.at
  have a14 := v14.at
  have a15 := v15.at
  have q16 := Keeps.refl w16 none_
  clear hcall a_b15 q14 k15 k_w16 J k14 v4 v5 v6 bda bdb bdc bd1
  refine KGO ?_
  refine CallS.of (Tryz.call21 _ _) (sg_Right (w := w16) h1 S o1.rd hsm (hE.keep K16)) ?_
  rintro e w17 ⟨rfl, k17⟩
  rw [hright]
  have J := k17
  refine ⟨_, rfl, ?_⟩; (first | refine Then.go hmix ?_ | refine Sat.go hmix ?_ | refine ResK.go ?_ | skip); conv => whnf
  refine KGO ?_
  refine CallS.of (Tryz.call22 _ _) (sg_Same (w := w17) h1 h2 S S (o1.keep J).rd (o2.keep J).rd (by omega) (by omega)) ?_
  rintro e w18 ⟨rfl, k18⟩
  rw [decide_eq_true rfl]
  have J := J.trans0 k18
  refine ⟨_, rfl, ?_⟩; (first | refine Then.go hmix ?_ | refine Sat.go hmix ?_ | refine ResK.go ?_ | skip); conv => whnf
  refine KGO ?_
  refine CallS.of (Tryz.call22 _ _) (sg_Same (w := w18) h1 h3 S S (o1.keep J).rd (o3.keep J).rd (by omega) (by omega)) ?_
  rintro e w19 ⟨rfl, k19⟩
  rw [decide_eq_true rfl]
  have J := J.trans0 k19
  refine ⟨_, rfl, ?_⟩; (first | refine Then.go hmix ?_ | refine Sat.go hmix ?_ | refine ResK.go ?_ | skip); conv => whnf
  refine KGO ?_
  refine CallS.of (Tryz.call22 _ _) (sg_Same (w := w19) h1 h4 S S (o1.keep J).rd (o4.keep J).rd (by omega) (by omega)) ?_
  rintro e w20 ⟨rfl, k20⟩
  rw [decide_eq_true rfl]
  have J := J.trans0 k20
  refine ⟨_, rfl, ?_⟩; (first | refine Then.go hmix ?_ | refine Sat.go hmix ?_ | refine ResK.go ?_ | skip); conv => whnf
  refine KGO ?_
  refine CallS.of (Tryz.call22 _ _) (sg_Same (w := w20) h1 h5 S S (o1.keep J).rd (o5.keep J).rd (by omega) (by omega)) ?_
  rintro e w21 ⟨rfl, k21⟩
  rw [decide_eq_true rfl]
  have J := J.trans0 k21
  refine ⟨_, rfl, ?_⟩; (first | refine Then.go hmix ?_ | refine Sat.go hmix ?_ | refine ResK.go ?_ | skip); conv => whnf
  refine KGO ?_
  exact ⟨rfl, K16.trans0 J⟩
end
end Go.Proofs.YtcdpocffoapbeaaGreatDoor
