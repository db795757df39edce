/- Helper text of this claim: Mn6: lemmas and contracts that the proved statement rests on; no conditions of its own. -/
import Derived.Test.YtcdpocffoapbeaaGreatDoorMn3
import Derived.Test.YtcdpocffoapbeaaGreatDoorGMh4
-- alias Tryz
namespace Go.Proofs.YtcdpocffoapbeaaGreatDoor
set_option linter.unusedVariables false
open Go.Shelf Go.RowKit Go.Pw Go.Vc Go.Cs Go.Lib Go.Cd Go.Mg
set_option linter.unusedVariables false
set_option maxRecDepth 100000
/-! MergeLooks. -/
theorem look_cnt {s : Sgm} {d t c : Nat} (h : Bd s d t c) (f : Int) (p : List UInt8 → Bool) : cntP (lookS s f p) ≤ t * c := by
  unfold lookS
  split
  · have h1 := cnt_fold (c := c) (s.terms.filter fun t => (decide (f = 0) || decide (f = t.field)) && p t.word) [] 0 (Nat.le_refl _) fun t ht => (h.x t (List.mem_filter.1 ht).1).2.2
    have h2 : (s.terms.filter fun t => (decide (f = 0) || decide (f = t.field)) && p t.word).length ≤ t := Nat.le_trans (List.length_filter_le _ _) h.t
    have h3 := Nat.mul_le_mul_right c h2
    omega
  · exact Nat.zero_le _
theorem cnt_len {l : List Pst} {m : Nat} (h : cntP l ≤ m) : l.length ≤ m ∧ ∀ p ∈ l, p.places.length ≤ m := by
  unfold cntP at h
  have := encN_ge l
  exact ⟨by omega, fun p hp => by have := encN_mem l p hp; omega⟩
section
variable {w : World}
set_option maxHeartbeats 16000000 in
theorem lw_Looks {vd : Value} (xa xb : Sv × Sgm) (dead : List Int) (f : Int) (wd : ByteArray) (ra : SgR w xa) (rb : SgR w xb) (rd : RowI w vd dead) (hdl : dead.length ≤ 17592186044416) (hE : CEnv w) (hwd : wd.size ≤ 140737488355328) :
    Calls Tryz.prog 7 #[.agg (sgC xa.1).toArray, .agg (sgC xb.1).toArray, vd, .int .i64 f, .string wd] w fun e w' => e = .returned (.bool true) ∧ Keeps w w' none_ := by
  obtain ⟨ha, a⟩ := xa
  obtain ⟨hb, b⟩ := xb
  have rd0 := rd
  obtain ⟨ad, cd, rfl, _⟩ := rd
  obtain ⟨u, rfl⟩ : ∃ u, wd = str u := ⟨L wd, (str_L wd).symm⟩
  have hsz : (str u).size = u.length := rfl
  rw [hsz] at hwd
  dsimp only
  refine calls_of_vc (args := [.agg (sgC ha).toArray, .agg (sgC hb).toArray, .slice ad dead.length cd, .int .i64 f, .string (str u)]) Tryz.func7 rfl (Nat.le_of_ble_eq_true rfl) ?_; refine Sat.go hmix ?_; conv => whnf
  have a_b5 := at_fresh w 31 (sgC ha)
  have v_b5 := VarK.new w 31 (sgC ha)
  have k_w1 : Keeps w (w.alloc (.cells (List.toArray (sgC ha)) 31)) none_ := (Keeps.refl _ _).alloc _
  have z_w1 : (w.alloc (.cells (List.toArray (sgC ha)) 31)).heap.size = w.heap.size + 1 := by simp
  generalize w.alloc (.cells (List.toArray (sgC ha)) 31) = w1 at *
  generalize hs_b5 : w.heap.size = b5 at *
  have r_w1 : Keeps w1 w1 none_ := Keeps.refl _ _
  have a_b6 := at_fresh w1 31 (sgC hb)
  have v_b6 := VarK.new w1 31 (sgC hb)
  have k_w2 : Keeps w1 (w1.alloc (.cells (List.toArray (sgC hb)) 31)) none_ := (Keeps.refl _ _).alloc _
  have z_w2 : (w1.alloc (.cells (List.toArray (sgC hb)) 31)).heap.size = w1.heap.size + 1 := by simp
  generalize w1.alloc (.cells (List.toArray (sgC hb)) 31) = w2 at *
  generalize hs_b6 : w1.heap.size = b6 at *
  have r_w2 : Keeps w2 w2 none_ := Keeps.refl _ _
  have K2 := k_w1.trans0 k_w2
  have v5 := v_b5.keep0 k_w2
  have v6 := v_b6
  clear a_b5 a_b6 v_b5 v_b6 r_w1 r_w2
  refine KGO ?_
  refine CallS.of (Tryz.call8 _ _) (lw_small35 (w := w2) (hE.keep K2)) ?_
  rintro e w4 ⟨rfl, k4⟩
  have K4 := K2.trans0 k4
  have v5 := v5.keep0 k4
  have v6 := v6.keep0 k4
  have a5 := v5.at
  have a6 := v6.at
  have q4 := Keeps.refl w4 none_
  refine ⟨_, rfl, ?_⟩; (first | refine Then.go hmix ?_ | refine Sat.go hmix ?_ | refine ResK.go ?_ | skip); conv => whnf
  refine KGO ?_
  refine RunV.of (bs2Sg ha hb _) ?_
  have a_p1 := at_fresh w4 31 (sgC ha ++ sgC hb)
  have v_p1 := VarK.new w4 31 (sgC ha ++ sgC hb)
  have k_w5 : Keeps w4 (w4.alloc (.cells (List.toArray (sgC ha ++ sgC hb)) 31)) none_ := (Keeps.refl _ _).alloc _
  have z_w5 : (w4.alloc (.cells (List.toArray (sgC ha ++ sgC hb)) 31)).heap.size = w4.heap.size + 1 := by simp
  generalize w4.alloc (.cells (List.toArray (sgC ha ++ sgC hb)) 31) = w5 at *
  generalize hs_p1 : w4.heap.size = p1 at *
  have r_w5 : Keeps w5 w5 none_ := Keeps.refl _ _
  have K5 := K4.trans0 k_w5
  have row1 : RowO w5 (.slice (some ⟨p1, 0, none⟩) 2 2) sgP [(ha, a), (hb, b)] := ⟨_, 2, rfl, fun _ => ⟨p1, 0, rfl, v_p1.lt, a_p1⟩⟩
  refine KGO ?_
  have hcall := lw_few35 (w := w5) [(ha, a), (hb, b)] dead row1 (fun p hp => by
    simp only [List.mem_cons, List.not_mem_nil, or_false] at hp
    rcases hp with rfl | rfl
    · exact ra.keep K5
    · exact rb.keep K5) (show 2 ≤ 1000000000000 by decide) (rd0.keep K5) (by omega)
  refine CallS.of (Tryz.call9 _ _) hcall ?_
  rintro e w6 ⟨⟨q, rfl, hq⟩, k6⟩
  have K6 := K5.trans0 k6
  have J46 := k_w5.trans0 k6
  refine ⟨_, rfl, ?_⟩; (first | refine Then.go hmix ?_ | refine Sat.go hmix ?_ | refine ResK.go ?_ | skip); conv => whnf
  cases q with
  | false =>
    refine KGO ?_
    exact ⟨rfl, K6⟩
  | true =>
  obtain ⟨_, hd50, hlit⟩ := hq rfl
  have bda := bd_little (hlit (ha, a) (by simp))
  have bdb := bd_little (hlit (hb, b) (by simp))
  dsimp only at bda bdb
  have v5 := v5.keep0 J46
  have v6 := v6.keep0 J46
  have a5 := v5.at
  have a6 := v6.at
  have q6 := Keeps.refl w6 none_
  clear hcall row1 a_p1 v_p1 hq hlit q4 k4 k_w1 k_w2 k_w5 k6 r_w5
  by_cases h100 : 100 < u.length
  · refine KGO ?_
    exact ⟨rfl, K6⟩
  refine KGO ?_
  refine CallS.of (Tryz.call15 _ _) (mg_Two (w := w6) ha hb a b dead (ra.1.keep K6) (rb.1.keep K6) (sm_of bda (by decide) (by decide) (by decide)) (sm_of bdb (by decide) (by decide) (by decide)) (rd0.keep K6) (by omega) (hE.keep K6)) ?_
  rintro e w8 ⟨h1, rfl, o1, k8⟩
  have K8 := K6.trans0 k8
  refine ⟨_, rfl, ?_⟩; (first | refine Then.go hmix ?_ | refine Sat.go hmix ?_ | refine ResK.go ?_ | skip); conv => whnf
  refine KGO ?_
  have v13 := VarK.new w8 31 (sgC h1)
  refine Store.fresh (vs := sgC h1) (by rfl) rfl (flat_of (by rfl)) ?_
  have a_b13 := at_fresh w8 31 (sgC h1)
  have k_w9 : Keeps w8 (w8.alloc (.cells (List.toArray (sgC h1)) 31)) none_ := (Keeps.refl _ _).alloc _
  have z_w9 : (w8.alloc (.cells (List.toArray (sgC h1)) 31)).heap.size = w8.heap.size + 1 := by simp
  generalize w8.alloc (.cells (List.toArray (sgC h1)) 31) = w9 at *
  generalize hs_b13 : w8.heap.size = b13 at *
  have K9 := K8.trans0 k_w9
  have J69 := k8.trans0 k_w9
  have o1 := o1.keep k_w9
  have v5 := v5.keep0 J69
  have v6 := v6.keep0 J69
  have bd1 := bd_two bda bdb dead
  have bda9 := bda.mono (d' := 1000000) (t' := 1000000) (c' := 900000) (by decide) (by decide) (by decide)
  have bdb9 := bdb.mono (d' := 1000000) (t' := 1000000) (c' := 900000) (by decide) (by decide) (by decide)
  have bd19 := bd1.mono (d' := 1000000) (t' := 1000000) (c' := 900000) (by decide) (by decide) (by decide)
  clear a_b13 a5 a6 q6 k8 k_w9 J69
  refine KGO ?_
  have kd := (Keeps.refl w9 none_).drew
  refine Draw.held (fun u => Keeps w9 u none_) (fun _ => true) (by decide +kernel) kd ?_
  (first | refine Then.go hmix ?_ | refine Sat.go hmix ?_ | refine ResK.go ?_ | skip); conv => whnf
  refine HeldG (sgC ha) (by rfl) (by rfl) (fun u hu => (v5.keep0 hu).at) (by rfl) ?_
  (first | refine Then.go hmix ?_ | refine Sat.go hmix ?_ | refine ResK.go ?_ | skip); conv => whnf
  refine CallS.of (Tryz.call24 _ _) (sg_Look (w := (w9).drew) ha a f u (ra.1.keep ((K9).trans0 kd)) bda9 (hE.keep ((K9).trans0 kd))) ?_
  rintro e w10 ⟨vx, rfl, ox, k10⟩
  obtain ⟨xa1, xc1, rfl⟩ := ox.shape
  have J10 := (kd).trans0 k10
  refine ⟨_, rfl, ?_⟩; (first | refine Then.go hmix ?_ | refine Sat.go hmix ?_ | refine ResK.go ?_ | skip); conv => whnf
  refine ⟨J10, ?_⟩
  (first | refine Then.go hmix ?_ | refine Sat.go hmix ?_ | refine ResK.go ?_ | skip); conv => whnf
  refine HeldG (sgC hb) (by rfl) (by rfl) (fun u hu => (v6.keep0 hu).at) (by rfl) ?_
  (first | refine Then.go hmix ?_ | refine Sat.go hmix ?_ | refine ResK.go ?_ | skip); conv => whnf
  refine CallS.of (Tryz.call24 _ _) (sg_Look (w := w10) hb b f u (rb.1.keep ((K9).trans0 J10)) bdb9 (hE.keep ((K9).trans0 J10))) ?_
  rintro e w11 ⟨vy, rfl, oy, k11⟩
  obtain ⟨ya1, yc1, rfl⟩ := oy.shape
  have J11 := J10.trans0 k11
  refine ⟨_, rfl, ?_⟩; (first | refine Then.go hmix ?_ | refine Sat.go hmix ?_ | refine ResK.go ?_ | skip); conv => whnf
  refine ⟨J11, ?_⟩
  (first | refine Then.go hmix ?_ | refine Sat.go hmix ?_ | refine ResK.go ?_ | skip); conv => whnf
  have c1 := look_cnt bda f (fun wd => decide (wd = u))
  have c2 := look_cnt bdb f (fun wd => decide (wd = u))
  obtain ⟨l1, m1⟩ := cnt_len c1
  obtain ⟨l2, m2⟩ := cnt_len c2
  have hcall := po_Or (w := w11) (lookS a f (fun wd => decide (wd = u))) (lookS b f (fun wd => decide (wd = u))) (ox.keep k11).row oy.row (by omega) (by omega) (fun p hp => by have := m1 p hp; omega) (fun p hp => by have := m2 p hp; omega)
  refine CallS.of (Tryz.call23 _ _) hcall ?_
  rintro e w12 ⟨vz, rfl, oX, k12⟩
  have c3 : cntP (orP (lookS a f (fun wd => decide (wd = u))) (lookS b f (fun wd => decide (wd = u)))) ≤ 480000 := by have := cnt_or _ (lookS a f (fun wd => decide (wd = u))) (lookS b f (fun wd => decide (wd = u))) (Nat.le_refl _); omega
  have J12 := J11.trans0 k12
  clear c1 c2 l1 l2 m1 m2 hcall ox oy k10 k11 k12 J10 J11
  refine ⟨_, rfl, ?_⟩; (first | refine Then.go hmix ?_ | refine Sat.go hmix ?_ | refine ResK.go ?_ | skip); conv => whnf
  refine ⟨J12, ?_⟩
  (first | refine Then.go hmix ?_ | refine Sat.go hmix ?_ | refine ResK.go ?_ | skip); conv => whnf
  have K12 := K9.trans0 J12
  have v5 := v5.keep0 J12
  have v6 := v6.keep0 J12
  have v13 := v13.keep0 J12
  have o1 := o1.keep J12
  have c4 := c3
  obtain ⟨aX, cX, rfl⟩ := oX.shape
  clear c3 J12 kd
  refine KGO ?_
  have kd := (Keeps.refl w12 none_).drew
  refine Draw.held (fun u => Keeps w12 u none_) (fun _ => true) (by decide +kernel) kd ?_
  (first | refine Then.go hmix ?_ | refine Sat.go hmix ?_ | refine ResK.go ?_ | skip); conv => whnf
  refine HeldG (sgC ha) (by rfl) (by rfl) (fun u hu => (v5.keep0 hu).at) (by rfl) ?_
  (first | refine Then.go hmix ?_ | refine Sat.go hmix ?_ | refine ResK.go ?_ | skip); conv => whnf
  refine CallS.of (Tryz.call25 _ _) (sg_Prefix (w := (w12).drew) ha a f u (ra.1.keep ((K12).trans0 kd)) bda9 (hE.keep ((K12).trans0 kd))) ?_
  rintro e w10 ⟨vx, rfl, ox, k10⟩
  obtain ⟨xa1, xc1, rfl⟩ := ox.shape
  have J10 := (kd).trans0 k10
  refine ⟨_, rfl, ?_⟩; (first | refine Then.go hmix ?_ | refine Sat.go hmix ?_ | refine ResK.go ?_ | skip); conv => whnf
  refine ⟨J10, ?_⟩
  (first | refine Then.go hmix ?_ | refine Sat.go hmix ?_ | refine ResK.go ?_ | skip); conv => whnf
  refine HeldG (sgC hb) (by rfl) (by rfl) (fun u hu => (v6.keep0 hu).at) (by rfl) ?_
  (first | refine Then.go hmix ?_ | refine Sat.go hmix ?_ | refine ResK.go ?_ | skip); conv => whnf
  refine CallS.of (Tryz.call25 _ _) (sg_Prefix (w := w10) hb b f u (rb.1.keep ((K12).trans0 J10)) bdb9 (hE.keep ((K12).trans0 J10))) ?_
  rintro e w11 ⟨vy, rfl, oy, k11⟩
  obtain ⟨ya1, yc1, rfl⟩ := oy.shape
  have J11 := J10.trans0 k11
  refine ⟨_, rfl, ?_⟩; (first | refine Then.go hmix ?_ | refine Sat.go hmix ?_ | refine ResK.go ?_ | skip); conv => whnf
  refine ⟨J11, ?_⟩
  (first | refine Then.go hmix ?_ | refine Sat.go hmix ?_ | refine ResK.go ?_ | skip); conv => whnf
  have c1 := look_cnt bda f (fun wd => hasPrefix wd u)
  have c2 := look_cnt bdb f (fun wd => hasPrefix wd u)
  obtain ⟨l1, m1⟩ := cnt_len c1
  obtain ⟨l2, m2⟩ := cnt_len c2
  have hcall := po_Or (w := w11) (lookS a f (fun wd => hasPrefix wd u)) (lookS b f (fun wd => hasPrefix wd u)) (ox.keep k11).row oy.row (by omega) (by omega) (fun p hp => by have := m1 p hp; omega) (fun p hp => by have := m2 p hp; omega)
  refine CallS.of (Tryz.call23 _ _) hcall ?_
  rintro e w13 ⟨vz, rfl, oY, k12⟩
  have c3 : cntP (orP (lookS a f (fun wd => hasPrefix wd u)) (lookS b f (fun wd => hasPrefix wd u))) ≤ 480000 := by have := cnt_or _ (lookS a f (fun wd => hasPrefix wd u)) (lookS b f (fun wd => hasPrefix wd u)) (Nat.le_refl _); omega
  have J12 := J11.trans0 k12
  clear c1 c2 l1 l2 m1 m2 hcall ox oy k10 k11 k12 J10 J11
  refine ⟨_, rfl, ?_⟩; (first | refine Then.go hmix ?_ | refine Sat.go hmix ?_ | refine ResK.go ?_ | skip); conv => whnf
  refine ⟨J12, ?_⟩
  (first | refine Then.go hmix ?_ | refine Sat.go hmix ?_ | refine ResK.go ?_ | skip); conv => whnf
  have K13 := K12.trans0 J12
  have v13 := v13.keep0 J12
  have o1 := o1.keep J12
  have oX := oX.keep J12
  obtain ⟨aY, cY, rfl⟩ := oY.shape
  clear J12 kd v5 v6
  have hlawX := looks_law a b dead f (fun wd => decide (wd = u))
  have hlawY := looks_law a b dead f (fun wd => hasPrefix wd u)
  have cmX := look_cnt bd1 f (fun wd => decide (wd = u))
  have cmY := look_cnt bd1 f (fun wd => hasPrefix wd u)
  generalize orP (lookS a f fun wd => decide (wd = u)) (lookS b f fun wd => decide (wd = u)) = X at *
  generalize orP (lookS a f fun wd => hasPrefix wd u) (lookS b f fun wd => hasPrefix wd u) = Y at *
  obtain ⟨lx, rfl, oxl⟩ := oX
  obtain ⟨ly, rfl, oyl⟩ := oY
  obtain ⟨⟨axx, cxx, exx, hrax⟩, hpx, _, hpcx⟩ := oxl.rd
  obtain ⟨⟨ayy, cyy, eyy, hray⟩, hpy, _, hpcy⟩ := oyl.rd
  injection exx with e1 e2 e3
  injection eyy with e4 e5 e6
  subst e1 e3 e4 e6
  rw [List.length_map]
  rw [List.length_map]
  obtain ⟨lcx, lpx⟩ := cnt_len c4
  obtain ⟨lcy, lpy⟩ := cnt_len c3
  rw [List.length_map] at lcx lcy
  clear ra rb bda bdb bda9 bdb9 e2 e5 c3 c4 oxl oyl
  refine KGO ?_
  refine Loop.intro (ι := Nat × Option Addr × Nat × List Pr) (fun p => [(2, .slice ad dead.length cd), (3, .int .i64 f), (4, .string (str u)), (11, .bool true), (13, .pointer (some ⟨b13, 0, none⟩)), (15, .slice aY ly.length cY), (14, .slice aX lx.length cX), (16, .slice p.2.1 p.2.2.2.length p.2.2.1), (17, .slice none 0 0), (18, .int .i64 (p.1 : Nat))])
    (fun p wr => Keeps w13 wr none_ ∧ p.1 ≤ (lx).length ∧ OwnR 50 prC 2 wr (w13).heap.size (.slice p.2.1 p.2.2.2.length p.2.2.1) p.2.2.2 ∧ p.2.2.2 = ((lx).take p.1).filter fun x => !decide (x.p.doc ∈ dead)) (fun p => (lx).length - p.1) (0, none, 0, []) ⟨rfl, rfl, rfl, rfl, rfl, rfl, rfl, rfl, rfl, rfl, trivial⟩ ⟨Keeps.refl _ _, Nat.zero_le _, World.ownsRow_nil _ _ _ _, rfl⟩ ?_
  rintro ⟨i, ao, co, FL⟩ gg wr ⟨hK, hi, ho, hFL⟩
  dsimp only at hi ho hFL ⊢
  have hfl : FL.length ≤ i := by rw [hFL]; exact Nat.le_trans (List.length_filter_le _ _) (by rw [List.length_take]; exact Nat.min_le_left _ _)
  have hzr := hK.size
  (first | refine Then.go hmix ?_ | refine Sat.go hmix ?_ | refine ResK.go ?_ | skip); conv => whnf
  by_cases hlt : i < (lx).length
  · have hts : ((lx).take (i + 1)).filter (fun x => !decide (x.p.doc ∈ dead)) = FL ++ if (lx)[i].p.doc ∈ dead then [] else [(lx)[i]] := by
      rw [List.take_succ_eq_append_getElem hlt, List.filter_append, List.filter_cons, hFL]
      by_cases h : (lx)[i].p.doc ∈ dead <;> simp [h]
    obtain ⟨ga, oa, ega, hga, hata⟩ := hrax (by omega)
    subst ega
    have Kr := (K13).trans0 hK
    refine KGO ?_
    refine CallS.of (Tryz.call19 _ _) (rf33_Has (w := wr) dead (lx)[i].p.doc (rd0.keep Kr) (by omega)) ?_
    rintro e w3 ⟨rfl, k3⟩
    have K3 := hK.trans0 k3
    refine ⟨_, rfl, ?_⟩; (first | refine Then.go hmix ?_ | refine Sat.go hmix ?_ | refine ResK.go ?_ | skip); conv => whnf
    by_cases hin : (lx)[i].p.doc ∈ dead
    · rw [decide_eq_true hin]
      rw [if_pos hin, List.append_nil] at hts
      refine KGO ?_
      exact ⟨(i + 1, ao, co, FL), ⟨rfl, rfl, rfl, rfl, rfl, rfl, rfl, rfl, rfl, v_int (by simp), trivial⟩, ⟨K3, by dsimp only; omega, own_keep0 ho k3, hts.symm⟩, by dsimp only; omega⟩
    · rw [decide_eq_false hin]
      rw [if_neg hin] at hts
      refine KGO ?_
      refine RunV.of (bs1P (lx)[i] _) ?_
      have ho3 := own_keep0 ho k3
      have a_b4 := at_fresh w3 50 (prC (lx)[i])
      have v_b4 := VarK.new w3 50 (prC (lx)[i])
      have k_w4 : Keeps w3 (w3.alloc (.cells (List.toArray (prC (lx)[i])) 50)) none_ := (Keeps.refl _ _).alloc _
      have z_w4 : (w3.alloc (.cells (List.toArray (prC (lx)[i])) 50)).heap.size = w3.heap.size + 1 := by simp
      generalize w3.alloc (.cells (List.toArray (prC (lx)[i])) 50) = w4 at *
      generalize hs_b4 : w3.heap.size = b4 at *
      have r_w4 : Keeps w4 w4 none_ := Keeps.refl _ _
      have ho4 := own_keep0 ho3 k_w4
      have z3 := k3.size
      refine KGO ?_
      refine tyP.app1 (lx)[i] ho4 (by omega) a_b4 (by omega) (by omega) fun v5' w5 o5 k5 => ?_
      have K5 := own_leC ho4 k5 (K3.trans0 k_w4) (Nat.le_refl _)
      obtain ⟨a5, c5, rfl⟩ := own_shape o5
      refine KGO ?_
      exact ⟨(i + 1, a5, c5, FL ++ [(lx)[i]]), ⟨rfl, rfl, rfl, rfl, rfl, rfl, rfl, rfl, rfl, v_int (by simp), trivial⟩, ⟨K5, by dsimp only; omega, o5, hts.symm⟩, by dsimp only; omega⟩
  rw [List.take_of_length_le (by omega)] at hFL
  have rOne : RowP wr (.slice ao FL.length co) (liveP dead (lx.map (·.p))) := ⟨FL, by rw [hFL]; unfold liveP; rw [List.filter_map]; rfl, own_rowO ho, fun x hx => (hpx x (by rw [hFL] at hx; exact (List.mem_filter.1 hx).1)).keep hK, own_capK ho, fun x hx => hpcx x (by rw [hFL] at hx; exact (List.mem_filter.1 hx).1)⟩
  have hl1 : (liveP dead (lx.map (·.p))).length ≤ 480000 := by unfold liveP; exact Nat.le_trans (List.length_filter_le _ _) (by rw [List.length_map]; exact lcx)
  have hl2 : ∀ p ∈ liveP dead (lx.map (·.p)), p.places.length ≤ 480000 := fun p hp => lpx p (by unfold liveP at hp; exact (List.mem_filter.1 hp).1)
  have hpy := fun x hx => (hpy x hx).keep hK
  have hray : 0 < ly.length → ∃ g o, aY = some ⟨g, o, none⟩ ∧ g < wr.heap.size ∧ At wr g o (ly.flatMap prC) := fun h => let ⟨g, o, h1, h2, h3⟩ := hray h; ⟨g, o, h1, Nat.lt_of_lt_of_le h2 hK.size, at_mono h3 hK⟩
  have K14 := K13.trans0 hK
  have v13 := v13.keep0 hK
  have o1 := o1.keep hK
  clear hFL ho hpx hpcx hrax lpx lcx hzr hfl hi
  rename World => w14
  refine KGO ?_
  refine Loop.intro (ι := Nat × Option Addr × Nat × List Pr) (fun p => [(2, .slice ad dead.length cd), (3, .int .i64 f), (4, .string (str u)), (11, .bool true), (13, .pointer (some ⟨b13, 0, none⟩)), (16, .slice ao FL.length co), (15, .slice aY ly.length cY), (17, .slice p.2.1 p.2.2.2.length p.2.2.1), (19, .int .i64 (p.1 : Nat))])
    (fun p wr => Keeps w14 wr none_ ∧ p.1 ≤ (ly).length ∧ OwnR 50 prC 2 wr (w14).heap.size (.slice p.2.1 p.2.2.2.length p.2.2.1) p.2.2.2 ∧ p.2.2.2 = ((ly).take p.1).filter fun x => !decide (x.p.doc ∈ dead)) (fun p => (ly).length - p.1) (0, none, 0, []) ⟨rfl, rfl, rfl, rfl, rfl, rfl, rfl, rfl, rfl, trivial⟩ ⟨Keeps.refl _ _, Nat.zero_le _, World.ownsRow_nil _ _ _ _, rfl⟩ ?_
  rintro ⟨i, ao, co, FL⟩ gg wr ⟨hK, hi, ho, hFL⟩
  dsimp only at hi ho hFL ⊢
  have hfl : FL.length ≤ i := by rw [hFL]; exact Nat.le_trans (List.length_filter_le _ _) (by rw [List.length_take]; exact Nat.min_le_left _ _)
  have hzr := hK.size
  (first | refine Then.go hmix ?_ | refine Sat.go hmix ?_ | refine ResK.go ?_ | skip); conv => whnf
  by_cases hlt : i < (ly).length
  · have hts : ((ly).take (i + 1)).filter (fun x => !decide (x.p.doc ∈ dead)) = FL ++ if (ly)[i].p.doc ∈ dead then [] else [(ly)[i]] := by
      rw [List.take_succ_eq_append_getElem hlt, List.filter_append, List.filter_cons, hFL]
      by_cases h : (ly)[i].p.doc ∈ dead <;> simp [h]
    obtain ⟨ga, oa, ega, hga, hata⟩ := hray (by omega)
    subst ega
    have Kr := (K14).trans0 hK
    refine KGO ?_
    refine CallS.of (Tryz.call19 _ _) (rf33_Has (w := wr) dead (ly)[i].p.doc (rd0.keep Kr) (by omega)) ?_
    rintro e w3 ⟨rfl, k3⟩
    have K3 := hK.trans0 k3
    refine ⟨_, rfl, ?_⟩; (first | refine Then.go hmix ?_ | refine Sat.go hmix ?_ | refine ResK.go ?_ | skip); conv => whnf
    by_cases hin : (ly)[i].p.doc ∈ dead
    · rw [decide_eq_true hin]
      rw [if_pos hin, List.append_nil] at hts
      refine KGO ?_
      exact ⟨(i + 1, ao, co, FL), ⟨rfl, rfl, rfl, rfl, rfl, rfl, rfl, rfl, v_int (by simp), trivial⟩, ⟨K3, by dsimp only; omega, own_keep0 ho k3, hts.symm⟩, by dsimp only; omega⟩
    · rw [decide_eq_false hin]
      rw [if_neg hin] at hts
      refine KGO ?_
      refine RunV.of (bs1P (ly)[i] _) ?_
      have ho3 := own_keep0 ho k3
      have a_b4 := at_fresh w3 50 (prC (ly)[i])
      have v_b4 := VarK.new w3 50 (prC (ly)[i])
      have k_w4 : Keeps w3 (w3.alloc (.cells (List.toArray (prC (ly)[i])) 50)) none_ := (Keeps.refl _ _).alloc _
      have z_w4 : (w3.alloc (.cells (List.toArray (prC (ly)[i])) 50)).heap.size = w3.heap.size + 1 := by simp
      generalize w3.alloc (.cells (List.toArray (prC (ly)[i])) 50) = w4 at *
      generalize hs_b4 : w3.heap.size = b4 at *
      have r_w4 : Keeps w4 w4 none_ := Keeps.refl _ _
      have ho4 := own_keep0 ho3 k_w4
      have z3 := k3.size
      refine KGO ?_
      refine tyP.app1 (ly)[i] ho4 (by omega) a_b4 (by omega) (by omega) fun v5' w5 o5 k5 => ?_
      have K5 := own_leC ho4 k5 (K3.trans0 k_w4) (Nat.le_refl _)
      obtain ⟨a5, c5, rfl⟩ := own_shape o5
      refine KGO ?_
      exact ⟨(i + 1, a5, c5, FL ++ [(ly)[i]]), ⟨rfl, rfl, rfl, rfl, rfl, rfl, rfl, rfl, v_int (by simp), trivial⟩, ⟨K5, by dsimp only; omega, o5, hts.symm⟩, by dsimp only; omega⟩
  rw [List.take_of_length_le (by omega)] at hFL
  have rTwo : RowP wr (.slice ao FL.length co) (liveP dead (ly.map (·.p))) := ⟨FL, by rw [hFL]; unfold liveP; rw [List.filter_map]; rfl, own_rowO ho, fun x hx => (hpy x (by rw [hFL] at hx; exact (List.mem_filter.1 hx).1)).keep hK, own_capK ho, fun x hx => hpcy x (by rw [hFL] at hx; exact (List.mem_filter.1 hx).1)⟩
  have hl3 : (liveP dead (ly.map (·.p))).length ≤ 480000 := by unfold liveP; exact Nat.le_trans (List.length_filter_le _ _) (by rw [List.length_map]; exact lcy)
  have hl4 : ∀ p ∈ liveP dead (ly.map (·.p)), p.places.length ≤ 480000 := fun p hp => lpy p (by unfold liveP at hp; exact (List.mem_filter.1 hp).1)
  have rOne := rOne.keep hK
  have K15 := K14.trans0 hK
  have v13 := v13.keep0 hK
  have o1 := o1.keep hK
  have a13 := v13.at
  have qr := Keeps.refl wr none_
  clear hFL ho hpy hpcy hray lpy lcy hzr hfl hK
  obtain ⟨lm1, lm2⟩ := cnt_len cmX
  obtain ⟨lm3, lm4⟩ := cnt_len cmY
  rw [hlawX] at lm1 lm2
  rw [hlawY] at lm3 lm4
  refine KGO ?_
  have hcall := sg_Look (w := wr) h1 (twoS a b dead) f u o1.rd bd19 (hE.keep K15)
  rw [hlawX] at hcall
  refine CallS.of (Tryz.call24 _ _) hcall ?_
  rintro e w16 ⟨vl, rfl, ol, k16⟩
  obtain ⟨al, cl, rfl⟩ := ol.shape
  refine ⟨_, rfl, ?_⟩; (first | refine Then.go hmix ?_ | refine Sat.go hmix ?_ | refine ResK.go ?_ | skip); conv => whnf
  refine KGO ?_
  refine CallS.of (Tryz.call26 _ _) (rf33_Same (w := w16) _ _ ol.row (rOne.keep k16) (by omega) (by omega) (fun p hp => by have := hl2 p hp; omega) (fun p hp => by have := hl2 p hp; omega)) ?_
  rintro e w17 ⟨rfl, k17⟩
  rw [decide_eq_true rfl]
  have J := k16.trans0 k17
  refine ⟨_, rfl, ?_⟩; (first | refine Then.go hmix ?_ | refine Sat.go hmix ?_ | refine ResK.go ?_ | skip); conv => whnf
  refine KGO ?_
  have hcall := sg_Prefix (w := w17) h1 (twoS a b dead) f u (o1.keep J).rd bd19 (hE.keep (K15.trans0 J))
  rw [hlawY] at hcall
  refine CallS.of (Tryz.call25 _ _) hcall ?_
  rintro e w18 ⟨vl2, rfl, ol2, k18⟩
  obtain ⟨al2, cl2, rfl⟩ := ol2.shape
  have J := J.trans0 k18
  refine ⟨_, rfl, ?_⟩; (first | refine Then.go hmix ?_ | refine Sat.go hmix ?_ | refine ResK.go ?_ | skip); conv => whnf
  refine KGO ?_
  refine CallS.of (Tryz.call26 _ _) (rf33_Same (w := w18) _ _ ol2.row (rTwo.keep J) (by omega) (by omega) (fun p hp => by have := hl4 p hp; omega) (fun p hp => by have := hl4 p hp; omega)) ?_
  rintro e w19 ⟨rfl, k19⟩
  rw [decide_eq_true rfl]
  have J := J.trans0 k19
  refine ⟨_, rfl, ?_⟩; (first | refine Then.go hmix ?_ | refine Sat.go hmix ?_ | refine ResK.go ?_ | skip); conv => whnf
  refine KGO ?_
  exact ⟨rfl, K15.trans0 J⟩
end
end Go.Proofs.YtcdpocffoapbeaaGreatDoor
