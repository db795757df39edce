/- Helper text of this claim: Mh4, Mh6, Mj0, Mj1, Cd5, Cd6, Cd7, Cr7, Cw15, Mj2, Mj3, Mj4, Mj5, Mj6, Mj7, Mj8, Mj9, Mk0, Mk1: lemmas and contracts that the proved statement rests on; no conditions of its own. -/
import Derived.Test.YtcdpocffoapbeaaGreatDoorGMh3
import Derived.Test.YtcdpocffoapbeaaGreatDoorGCw3
import Derived.Test.YtcdpocffoapbeaaGreatDoorGCd3
import Derived.Test.YtcdpocffoapbeaaGreatDoorGCw5
import Derived.Test.YtcdpocffoapbeaaGreatDoorGAx6
-- alias Tryz
namespace Go.Proofs.YtcdpocffoapbeaaGreatDoor
set_option linter.unusedVariables false
open Go.Shelf Go.RowKit Go.Pw Go.Vc Go.Cs Go.Lib Go.Cd Go.Mg
set_option linter.unusedVariables false
set_option maxRecDepth 100000
/-! merge.All. -/
abbrev sgP (p : Sv × Sgm) : List Value := sgC p.1
theorem smS_bd {s : Sgm} {d t c : Nat} (h : Bd s d t c) (h1 : d ≤ 1000000000) (h2 : t ≤ 1000000000) (h3 : c ≤ 900000) : SmS s :=
  ⟨by have := h.d; omega, by have := h.t; omega, fun z hz => by have := h.x z hz; exact ⟨this.1, by omega⟩⟩
section
variable {w : World}
set_option maxHeartbeats 4000000 in
theorem mg_All {vl vd : Value} (l : List (Sv × Sgm)) (dead : List Int) (hl : RowO w vl sgP l) (hrs : ∀ p ∈ l, RdS w p.1 p.2) (hbd : ∀ p ∈ l, Bd p.2 1000000 1000000 100000) (hn : l.length ≤ 8) (rd : RowI w vd dead) (hd : dead.length ≤ 1000000) (hE : CEnv w) :
    Calls Tryz.prog 13 #[vl, vd] w fun e w' => ∃ h', e = .returned (.agg (sgC h').toArray) ∧ OwS w' w.heap.size h' (allS (l.map (·.2)) dead) ∧ Keeps w w' none_ := by
  have rd0 := rd
  obtain ⟨a, c, rfl, hra⟩ := hl
  obtain ⟨ad, cd, rfl, hrd⟩ := rd
  refine calls_of_vc (args := [.slice a l.length c, .slice ad dead.length cd]) Tryz.func13 rfl (Nat.le_of_ble_eq_true rfl) ?_; refine Sat.go hmix ?_; conv => whnf
  have a_b4 := at_fresh w 31 ([.slice none 0 0, .slice none 0 0])
  have v_b4 := VarK.new w 31 ([.slice none 0 0, .slice none 0 0])
  have k_w1 : Keeps w (w.alloc (.cells (List.toArray ([.slice none 0 0, .slice none 0 0])) 31)) none_ := (Keeps.refl _ _).alloc _
  have z_w1 : (w.alloc (.cells (List.toArray ([.slice none 0 0, .slice none 0 0])) 31)).heap.size = w.heap.size + 1 := by simp
  generalize w.alloc (.cells (List.toArray ([.slice none 0 0, .slice none 0 0])) 31) = w1 at *
  generalize hs_b4 : w.heap.size = b4 at *
  have r_w1 : Keeps w1 w1 none_ := Keeps.refl _ _
  have a_b5 := at_fresh w1 31 ([.slice none 0 0, .slice none 0 0])
  have v_b5 := VarK.new w1 31 ([.slice none 0 0, .slice none 0 0])
  have k_w2 : Keeps w1 (w1.alloc (.cells (List.toArray ([.slice none 0 0, .slice none 0 0])) 31)) none_ := (Keeps.refl _ _).alloc _
  have z_w2 : (w1.alloc (.cells (List.toArray ([.slice none 0 0, .slice none 0 0])) 31)).heap.size = w1.heap.size + 1 := by simp
  generalize w1.alloc (.cells (List.toArray ([.slice none 0 0, .slice none 0 0])) 31) = w2 at *
  generalize hs_b5 : w1.heap.size = b5 at *
  have r_w2 : Keeps w2 w2 none_ := Keeps.refl _ _
  have K2 : Keeps w w2 none_ := k_w1.trans0 k_w2
  have v4 := v_b4.keep0 k_w2
  refine KGO ?_
  refine Loop.intro (ι := Nat × Sv) (fun i => [(1, .slice ad dead.length cd), (4, .pointer (some ⟨b4, 0, none⟩)), (5, .pointer (some ⟨b5, 0, none⟩)), (8, .slice a l.length c), (9, .int .i64 (l.length : Nat)), (10, .int .i64 (i.1 : Nat))])
    (fun i wr => Keeps w wr none_ ∧ i.1 ≤ l.length ∧ VarK wr b4 31 [.slice none 0 0, .slice none 0 0] ∧ VarK wr b5 31 (sgC i.2) ∧ OwS wr w.heap.size i.2 (allS ((l.take i.1).map (·.2)) dead)) (fun i => l.length - i.1) (0, ⟨⟨none, 0, 0⟩, ⟨none, 0, 0⟩⟩)
    ⟨rfl, rfl, rfl, rfl, rfl, rfl, trivial⟩ ⟨K2, Nat.zero_le _, v4, v_b5, ⟨World.ownsRow_nil _ _ _ _, World.ownsRow_nil _ _ _ _⟩⟩ ?_
  clear v4 v_b5 v_b4 K2 a_b4 a_b5
  rintro ⟨i, h⟩ gg wr ⟨hK, hi, v4, v5, ho⟩
  dsimp only at hi v5 ho ⊢
  have a4 := v4.at
  have a5 := v5.at
  have q0 := Keeps.refl wr none_
  have z0 := hK.size
  have bd : Bd (allS ((l.take i).map (·.2)) dead) (0 + ((l.take i).map (·.2)).length * 1000000) (0 + ((l.take i).map (·.2)).length * 1000000) (0 + ((l.take i).map (·.2)).length * 100000) := bd_all dead _ _ _ _ _ _ _ _ (bd_nil _ _ _) (fun s hs => by
    obtain ⟨p, hp, rfl⟩ := List.mem_map.1 hs
    exact hbd p (List.mem_of_mem_take hp))
  rw [List.length_map, List.length_take] at bd
  (first | refine Then.go hmix ?_ | refine Sat.go hmix ?_ | refine ResK.go ?_ | skip); conv => whnf
  by_cases hlt : i < l.length
  · obtain ⟨g, o, rfl, hg, hat⟩ := hra (by omega)
    have hpi := hbd l[i] (List.getElem_mem hlt)
    refine KGO ?_
    refine Store.fresh (vs := sgP l[i]) (by rfl) rfl (flat_of (by rfl)) ?_
    have a_b7 := at_fresh wr 31 (sgP l[i])
    have k_w3 : Keeps wr (wr.alloc (.cells (List.toArray (sgP l[i])) 31)) none_ := (Keeps.refl _ _).alloc _
    have z_w3 : (wr.alloc (.cells (List.toArray (sgP l[i])) 31)).heap.size = wr.heap.size + 1 := by simp
    generalize wr.alloc (.cells (List.toArray (sgP l[i])) 31) = w3 at *
    generalize hs_b7 : wr.heap.size = b7 at *
    have k3 := k_w3
    have a5 := at_mono a5 k_w3
    have K3 := hK.trans0 k_w3
    refine KGO ?_
    refine CallS.of (Tryz.call15 _ _) (mg_Two (w := w3) h l[i].1 (allS ((l.take i).map (·.2)) dead) l[i].2 dead (ho.keep k_w3).rd ((hrs l[i] (List.getElem_mem hlt)).keep K3) (smS_bd bd (by omega) (by omega) (by omega)) (smS_bd hpi (by omega) (by omega) (by omega)) (rd0.keep K3) hd (hE.keep K3)) ?_
    rintro e w4 ⟨h', rfl, o4, k4⟩
    have k34 : Keeps wr w4 none_ := k3.trans0 k4
    have v54 := v5.keep0 k34
    have v44 := v4.keep0 k34
    refine ⟨_, rfl, ?_⟩; (first | refine Then.go hmix ?_ | refine Sat.go hmix ?_ | refine ResK.go ?_ | skip); conv => whnf
    refine KGO ?_
    refine Store.varK (sgC h') v54 (by rfl) rfl (flat_of (by rfl)) fun w5 v5' k5 => ?_
    have hst : allS ((l.take (i + 1)).map (·.2)) dead = twoS (allS ((l.take i).map (·.2)) dead) l[i].2 dead := by
      rw [List.take_succ_eq_append_getElem hlt, List.map_append]; unfold allS; rw [List.foldl_append]; rfl
    have hb45 : b4 ≠ b5 := by omega
    refine KGO ?_
    exact ⟨(i + 1, h'), ⟨rfl, rfl, rfl, rfl, rfl, v_int (by simp), trivial⟩, ⟨keeps_new (K3.trans0 k4) k5 (by omega), by dsimp only; omega, v44.keep k5 (fun e => hb45 e), v5', by dsimp only; rw [hst]; exact (o4.keepT k5 (notD_var v54 (by decide))).base (by have := K3.size; omega)⟩, by dsimp only; omega⟩
  · obtain rfl : i = l.length := by omega
    rw [List.take_length] at ho
    refine KGO ?_
    refine Store.varK (sgC h) v4 (by rfl) rfl (flat_of (by rfl)) fun w5 v4' k5 => ?_
    have a4 := v4'.at
    have q5 := Keeps.refl w5 none_
    refine KGO ?_
    (first | refine Then.go hmix ?_ | refine Sat.go hmix ?_ | refine ResK.go ?_ | skip); conv => whnf
    exact ⟨h, rfl, (ho.keepT k5 (notD_var v4 (by decide))).base (by omega), keeps_new hK k5 (by omega)⟩
end
end Go.Proofs.YtcdpocffoapbeaaGreatDoor

-- alias Tryz
namespace Go.Proofs.YtcdpocffoapbeaaGreatDoor
set_option linter.unusedVariables false
open Go.Shelf Go.RowKit Go.Pw Go.Vc Go.Cs Go.Lib Go.Cd Go.Mg
set_option linter.unusedVariables false
set_option maxRecDepth 100000
/-! segment.Look, Prefix; merge.Pick. -/
section
variable {w : World}
set_option maxHeartbeats 4000000 in
theorem sg_found {g : Nat} {c0 : Value} (h : Sv) (s : Sgm) (field : Int) (p : List UInt8 → Bool) (hr : RdS w h s) (hb : Bd s 1000000 1000000 900000) (hE : CEnv w) (hg : ∀ (args : Array Value) (w : World), (callFunc g args).run Tryz.prog w = .ok (.enter g args) w)
    (hp : ∀ wd u, Keeps w u none_ → Calls Tryz.prog g #[.string (str wd), c0] u fun e u' => e = .returned (.bool (p wd)) ∧ Keeps u u' none_) :
    Calls Tryz.prog 60 #[.agg (sgC h).toArray, .int .i64 field, .func (.func g) #[] #[c0]] w fun e w' => ∃ v, e = .returned v ∧ OwnP w' w.heap.size v (lookS s field p) ∧ Keeps w w' none_ := by
  have hr0 := hr
  obtain ⟨⟨at_, ct, et, hrt⟩, _, _, _⟩ := hr
  obtain ⟨⟨ta, tn, tc⟩, hd⟩ := h
  injection et with q1 q2 q3
  dsimp only at q1 q2 q3
  subst q1 q2 q3
  refine calls_of_vc (args := [.agg (sgC ⟨⟨ta, s.terms.length, tc⟩, hd⟩).toArray, .int .i64 field, .func (.func g) #[] #[c0]]) Tryz.func60 rfl (Nat.le_of_ble_eq_true rfl) ?_; refine Sat.go hmix ?_; conv => whnf
  have a_b3 := at_fresh w 31 (sgC ⟨⟨ta, s.terms.length, tc⟩, hd⟩)
  have v_b3 := VarK.new w 31 (sgC ⟨⟨ta, s.terms.length, tc⟩, hd⟩)
  have k_w1 : Keeps w (w.alloc (.cells (List.toArray (sgC ⟨⟨ta, s.terms.length, tc⟩, hd⟩)) 31)) none_ := (Keeps.refl _ _).alloc _
  have z_w1 : (w.alloc (.cells (List.toArray (sgC ⟨⟨ta, s.terms.length, tc⟩, hd⟩)) 31)).heap.size = w.heap.size + 1 := by simp
  generalize w.alloc (.cells (List.toArray (sgC ⟨⟨ta, s.terms.length, tc⟩, hd⟩)) 31) = w1 at *
  generalize hs_b3 : w.heap.size = b3 at *
  have r_w1 : Keeps w1 w1 none_ := Keeps.refl _ _
  refine KGO ?_
  refine CallS.of (Tryz.call21 _ _) (sg_Right (w := w1) ⟨⟨ta, s.terms.length, tc⟩, hd⟩ s (hr0.keep k_w1) (smS_bd hb (by omega) (by omega) (by omega)) (hE.keep k_w1)) ?_
  rintro e w2 ⟨rfl, k2⟩
  have K2 := k_w1.trans0 k2
  have v2 := v_b3.keep0 k2
  unfold sgC at v2
  dsimp only at v2
  have a3 := v2.at
  have q2 := Keeps.refl w2 none_
  clear a_b3 v_b3
  refine ⟨_, rfl, ?_⟩; (first | refine Then.go hmix ?_ | refine Sat.go hmix ?_ | refine ResK.go ?_ | skip); conv => whnf
  unfold lookS
  cases hq : rightS s with
  | false =>
    refine KGO ?_
    exact ⟨_, rfl, ownP_nil _ _, K2⟩
  | true =>
  rw [if_pos rfl]
  refine KGO ?_
  have htl := hb.t
  have hst : ∀ i (hi : i < s.terms.length), ((s.terms.take (i + 1)).filter fun t => (decide (field = 0) || decide (field = t.field)) && p t.word).foldl (fun o t => orP o (plT t)) [] = if ((decide (field = 0) || decide (field = s.terms[i].field)) && p s.terms[i].word) = true then orP (((s.terms.take i).filter fun t => (decide (field = 0) || decide (field = t.field)) && p t.word).foldl (fun o t => orP o (plT t)) []) (plT s.terms[i]) else ((s.terms.take i).filter fun t => (decide (field = 0) || decide (field = t.field)) && p t.word).foldl (fun o t => orP o (plT t)) [] := fun i hi => by
    rw [List.take_succ_eq_append_getElem hi, List.filter_append, List.foldl_append, List.filter_cons]
    split <;> rfl
  have hcn : ∀ i, cntP (((s.terms.take i).filter fun t => (decide (field = 0) || decide (field = t.field)) && p t.word).foldl (fun o t => orP o (plT t)) []) ≤ 900000000000 := fun i => by
    have h1 := cnt_fold (c := 900000) ((s.terms.take i).filter fun t => (decide (field = 0) || decide (field = t.field)) && p t.word) [] 0 (by decide) (fun t ht => (hb.x t (List.mem_of_mem_take (List.mem_filter.1 ht).1)).2.2)
    have h2 : ((s.terms.take i).filter fun t => (decide (field = 0) || decide (field = t.field)) && p t.word).length ≤ 1000000 := Nat.le_trans (List.length_filter_le _ _) (by rw [List.length_take]; omega)
    have h3 := Nat.mul_le_mul_right 900000 h2
    omega
  refine Loop.intro (ι := Nat × Value) (fun i => [(1, .int .i64 field), (2, .func (.func g) #[] #[c0]), (6, i.2), (15, .slice ta s.terms.length tc), (16, .int .i64 (s.terms.length : Nat)), (17, .int .i64 (i.1 : Nat))])
    (fun i wr => Keeps w wr none_ ∧ i.1 ≤ s.terms.length ∧ OwnP wr w.heap.size i.2 (((s.terms.take i.1).filter fun t => (decide (field = 0) || decide (field = t.field)) && p t.word).foldl (fun o t => orP o (plT t)) [])) (fun i => s.terms.length - i.1) (0, .slice none 0 0) ⟨rfl, rfl, rfl, rfl, rfl, rfl, trivial⟩ ⟨K2, Nat.zero_le _, ownP_nil _ _⟩ ?_
  clear a3 q2 v2
  rintro ⟨i, vo⟩ gg wr ⟨hK, hi, ho⟩
  dsimp only at hi ho ⊢
  have hci := hcn i
  obtain ⟨ao, co, rfl⟩ := ho.shape
  have z0 := hK.size
  (first | refine Then.go hmix ?_ | refine Sat.go hmix ?_ | refine ResK.go ?_ | skip); conv => whnf
  by_cases hlt : i < s.terms.length
  rotate_left
  · rw [List.take_of_length_le (by omega)] at ho ⊢
    refine KGO ?_
    exact ⟨_, rfl, ho.base (by omega), hK⟩
  obtain ⟨gt, ot, rfl, hgt, hat⟩ := hrt (by omega)
  have hx := hb.x _ (List.getElem_mem hlt)
  have hsti := hst i hlt
  generalize ((s.terms.take i).filter fun t => (decide (field = 0) || decide (field = t.field)) && p t.word).foldl (fun o t => orP o (plT t)) [] = OUT at *
  clear hst hcn hrt hr0
  refine KGO ?_
  refine Store.fresh (vs := tmC s.terms[i]) (by rfl) rfl (flat_of (by rfl)) ?_
  have a_b8 := at_fresh wr 56 (tmC s.terms[i])
  have k_w3 : Keeps wr (wr.alloc (.cells (List.toArray (tmC s.terms[i])) 56)) none_ := (Keeps.refl _ _).alloc _
  have z_w3 : (wr.alloc (.cells (List.toArray (tmC s.terms[i])) 56)).heap.size = wr.heap.size + 1 := by simp
  generalize wr.alloc (.cells (List.toArray (tmC s.terms[i])) 56) = w3 at *
  generalize hs_b8 : wr.heap.size = b8 at *
  have K3 := hK.trans0 k_w3
  have o3 := ho.keep k_w3
  refine KGO ?_
  have hd1 : decide (field = 0) = (field == 0) := by by_cases h : field = 0 <;> simp [h]
  have tail : ∀ wz, Keeps w3 wz none_ → OwnP wz w.heap.size (.slice ao OUT.length co) OUT := fun wz k => o3.keep k
  by_cases f0 : field = 0
  · refine KGO ?_
    refine CallS.of (hg _ _) (hp s.terms[i].word w3 K3) ?_
    rintro e w4 ⟨rfl, k4⟩
    have K4 := K3.trans0 k4
    have o4 := tail w4 k4
    have a8 := at_mono a_b8 k4
    have q4 := Keeps.refl w4 none_
    refine ⟨_, rfl, ?_⟩; (first | refine Then.go hmix ?_ | refine Sat.go hmix ?_ | refine ResK.go ?_ | skip); conv => whnf
    cases hpw : p s.terms[i].word with
    | false =>
      refine KGO ?_
      exact ⟨(i + 1, .slice ao OUT.length co), ⟨rfl, rfl, rfl, rfl, rfl, v_int (by simp), trivial⟩, ⟨K4, by dsimp only; omega, by dsimp only; rw [hsti, decide_eq_true f0, hpw]; exact o4⟩, by dsimp only; omega⟩
    | true =>
      refine KGO ?_
      refine CallS.of (Tryz.call95 _ _) (po_Decode (w := w4) s.terms[i].list (by omega)) ?_
      rintro e w5 ⟨⟨vp, rfl, op, _⟩, k5⟩
      rw [show (decP s.terms[i].list).getD [] = plT s.terms[i] from rfl] at op
      obtain ⟨ap, cp, rfl⟩ := op.shape
      have o5 := o4.keep k5
      have K5 := K4.trans0 k5
      have hg1 := encN_ge OUT
      have hg2 := encN_ge (plT s.terms[i])
      have hx3 := hx.2.2
      unfold cntP at hx3 hci
      refine ⟨_, rfl, ?_⟩; (first | refine Then.go hmix ?_ | refine Sat.go hmix ?_ | refine ResK.go ?_ | skip); conv => whnf
      refine KGO ?_
      refine CallS.of (Tryz.call23 _ _) (po_Or (w := w5) OUT (plT s.terms[i]) o5.row op.row (by omega) (by omega) (fun q hq => by have := encN_mem _ q hq; omega) (fun q hq => by have := encN_mem _ q hq; omega)) ?_
      rintro e w6 ⟨vo6, rfl, o6, k6⟩
      obtain ⟨a6, c6, rfl⟩ := o6.shape
      refine ⟨_, rfl, ?_⟩; (first | refine Then.go hmix ?_ | refine Sat.go hmix ?_ | refine ResK.go ?_ | skip); conv => whnf
      refine KGO ?_
      exact ⟨(i + 1, .slice a6 (orP OUT (plT s.terms[i])).length c6), ⟨rfl, rfl, rfl, rfl, rfl, v_int (by simp), trivial⟩, ⟨K5.trans0 k6, by dsimp only; omega, by dsimp only; rw [hsti, decide_eq_true f0, hpw]; exact o6.base (by have := K5.size; omega)⟩, by dsimp only; omega⟩
  · by_cases f1 : field = s.terms[i].field
    · refine KGO ?_
      refine CallS.of (hg _ _) (hp s.terms[i].word w3 K3) ?_
      rintro e w4 ⟨rfl, k4⟩
      have K4 := K3.trans0 k4
      have o4 := tail w4 k4
      have a8 := at_mono a_b8 k4
      have q4 := Keeps.refl w4 none_
      refine ⟨_, rfl, ?_⟩; (first | refine Then.go hmix ?_ | refine Sat.go hmix ?_ | refine ResK.go ?_ | skip); conv => whnf
      cases hpw : p s.terms[i].word with
      | false =>
        refine KGO ?_
        exact ⟨(i + 1, .slice ao OUT.length co), ⟨rfl, rfl, rfl, rfl, rfl, v_int (by simp), trivial⟩, ⟨K4, by dsimp only; omega, by dsimp only; rw [hsti, decide_eq_false f0, decide_eq_true f1, hpw]; exact o4⟩, by dsimp only; omega⟩
      | true =>
        refine KGO ?_
        refine CallS.of (Tryz.call95 _ _) (po_Decode (w := w4) s.terms[i].list (by omega)) ?_
        rintro e w5 ⟨⟨vp, rfl, op, _⟩, k5⟩
        rw [show (decP s.terms[i].list).getD [] = plT s.terms[i] from rfl] at op
        obtain ⟨ap, cp, rfl⟩ := op.shape
        have o5 := o4.keep k5
        have K5 := K4.trans0 k5
        have hg1 := encN_ge OUT
        have hg2 := encN_ge (plT s.terms[i])
        have hx3 := hx.2.2
        unfold cntP at hx3 hci
        refine ⟨_, rfl, ?_⟩; (first | refine Then.go hmix ?_ | refine Sat.go hmix ?_ | refine ResK.go ?_ | skip); conv => whnf
        refine KGO ?_
        refine CallS.of (Tryz.call23 _ _) (po_Or (w := w5) OUT (plT s.terms[i]) o5.row op.row (by omega) (by omega) (fun q hq => by have := encN_mem _ q hq; omega) (fun q hq => by have := encN_mem _ q hq; omega)) ?_
        rintro e w6 ⟨vo6, rfl, o6, k6⟩
        obtain ⟨a6, c6, rfl⟩ := o6.shape
        refine ⟨_, rfl, ?_⟩; (first | refine Then.go hmix ?_ | refine Sat.go hmix ?_ | refine ResK.go ?_ | skip); conv => whnf
        refine KGO ?_
        exact ⟨(i + 1, .slice a6 (orP OUT (plT s.terms[i])).length c6), ⟨rfl, rfl, rfl, rfl, rfl, v_int (by simp), trivial⟩, ⟨K5.trans0 k6, by dsimp only; omega, by dsimp only; rw [hsti, decide_eq_false f0, decide_eq_true f1, hpw]; exact o6.base (by have := K5.size; omega)⟩, by dsimp only; omega⟩
    · refine KGO ?_
      exact ⟨(i + 1, .slice ao OUT.length co), ⟨rfl, rfl, rfl, rfl, rfl, v_int (by simp), trivial⟩, ⟨K3, by dsimp only; omega, by dsimp only; rw [hsti, decide_eq_false f0, decide_eq_false f1]; exact o3⟩, by dsimp only; omega⟩
theorem lk_1 {b : Nat} (wd x : List UInt8) (hv : VarK w b 9 [.string (str x)]) : Calls Tryz.prog 61 #[.string (str wd), .pointer (some ⟨b, 0, none⟩)] w fun e w' => e = .returned (.bool (decide (wd = x))) ∧ Keeps w w' none_ := by
  have a := hv.at
  have q := Keeps.refl w none_
  refine calls_of_vc (args := [.string (str wd), .pointer (some ⟨b, 0, none⟩)]) Tryz.func61 rfl (Nat.le_of_ble_eq_true rfl) ?_; refine Sat.go hmix ?_; conv => whnf
  refine KGO ?_
  exact ⟨ret_bool (decide_eq_decide.2 str_inj), Keeps.refl _ _⟩
theorem px_1 {b : Nat} (wd x : List UInt8) (hv : VarK w b 9 [.string (str x)]) : Calls Tryz.prog 62 #[.string (str wd), .pointer (some ⟨b, 0, none⟩)] w fun e w' => e = .returned (.bool (hasPrefix wd x)) ∧ Keeps w w' none_ := by
  have a := hv.at
  have q := Keeps.refl w none_
  refine calls_of_vc (args := [.string (str wd), .pointer (some ⟨b, 0, none⟩)]) Tryz.func62 rfl (Nat.le_of_ble_eq_true rfl) ?_; refine Sat.go hmix ?_; conv => whnf
  refine KGO ?_
  refine CallS.of (Tryz.call63 _ _) (s_hasPrefix (str wd) (str x) w) ?_
  rintro e _ ⟨rfl, rfl⟩
  refine ⟨_, rfl, ?_⟩; (first | refine Then.go hmix ?_ | refine Sat.go hmix ?_ | refine ResK.go ?_ | skip); conv => whnf
  exact ⟨rfl, Keeps.refl _ _⟩
theorem sg_Look (h : Sv) (s : Sgm) (field : Int) (x : List UInt8) (hr : RdS w h s) (hb : Bd s 1000000 1000000 900000) (hE : CEnv w) :
    Calls Tryz.prog 24 #[.agg (sgC h).toArray, .int .i64 field, .string (str x)] w fun e w' => ∃ v, e = .returned v ∧ OwnP w' w.heap.size v (lookS s field (fun wd => decide (wd = x))) ∧ Keeps w w' none_ := by
  refine calls_of_vc (args := [.agg (sgC h).toArray, .int .i64 field, .string (str x)]) Tryz.func24 rfl (Nat.le_of_ble_eq_true rfl) ?_; refine Sat.go hmix ?_; conv => whnf
  have a_b3 := at_fresh w 31 (sgC h)
  have v_b3 := VarK.new w 31 (sgC h)
  have k_w1 : Keeps w (w.alloc (.cells (List.toArray (sgC h)) 31)) none_ := (Keeps.refl _ _).alloc _
  have z_w1 : (w.alloc (.cells (List.toArray (sgC h)) 31)).heap.size = w.heap.size + 1 := by simp
  generalize w.alloc (.cells (List.toArray (sgC h)) 31) = w1 at *
  generalize hs_b3 : w.heap.size = b3 at *
  have r_w1 : Keeps w1 w1 none_ := Keeps.refl _ _
  have a_b5 := at_fresh w1 9 ([.string (str x)])
  have v_b5 := VarK.new w1 9 ([.string (str x)])
  have k_w2 : Keeps w1 (w1.alloc (.cells (List.toArray ([.string (str x)])) 9)) none_ := (Keeps.refl _ _).alloc _
  have z_w2 : (w1.alloc (.cells (List.toArray ([.string (str x)])) 9)).heap.size = w1.heap.size + 1 := by simp
  generalize w1.alloc (.cells (List.toArray ([.string (str x)])) 9) = w2 at *
  generalize hs_b5 : w1.heap.size = b5 at *
  have r_w2 : Keeps w2 w2 none_ := Keeps.refl _ _
  have a3 := at_mono a_b3 k_w2
  have K2 := k_w1.trans0 k_w2
  clear a_b3
  refine KGO ?_
  conv => arg 3; simp [ev, upd]
  have hcall := sg_found (w := w2) (g := 61) (c0 := .pointer (some ⟨b5, 0, none⟩)) h s field (fun wd => decide (wd = x)) (hr.keep K2) hb (hE.keep K2) (fun _ _ => rfl) (fun wd u k => lk_1 wd x (v_b5.keep0 k))
  refine CallS.of (Tryz.call60 _ _) hcall ?_
  rintro e w3 ⟨v, rfl, ov, k3⟩
  obtain ⟨a, c, rfl⟩ := ov.shape
  refine ⟨_, rfl, ?_⟩; (first | refine Then.go hmix ?_ | refine Sat.go hmix ?_ | refine ResK.go ?_ | skip); conv => whnf
  refine KGO ?_
  exact ⟨_, rfl, ov.base (by omega), K2.trans0 k3⟩
theorem sg_Prefix (h : Sv) (s : Sgm) (field : Int) (x : List UInt8) (hr : RdS w h s) (hb : Bd s 1000000 1000000 900000) (hE : CEnv w) :
    Calls Tryz.prog 25 #[.agg (sgC h).toArray, .int .i64 field, .string (str x)] w fun e w' => ∃ v, e = .returned v ∧ OwnP w' w.heap.size v (lookS s field (fun wd => hasPrefix wd x)) ∧ Keeps w w' none_ := by
  refine calls_of_vc (args := [.agg (sgC h).toArray, .int .i64 field, .string (str x)]) Tryz.func25 rfl (Nat.le_of_ble_eq_true rfl) ?_; refine Sat.go hmix ?_; conv => whnf
  have a_b3 := at_fresh w 31 (sgC h)
  have v_b3 := VarK.new w 31 (sgC h)
  have k_w1 : Keeps w (w.alloc (.cells (List.toArray (sgC h)) 31)) none_ := (Keeps.refl _ _).alloc _
  have z_w1 : (w.alloc (.cells (List.toArray (sgC h)) 31)).heap.size = w.heap.size + 1 := by simp
  generalize w.alloc (.cells (List.toArray (sgC h)) 31) = w1 at *
  generalize hs_b3 : w.heap.size = b3 at *
  have r_w1 : Keeps w1 w1 none_ := Keeps.refl _ _
  have a_b5 := at_fresh w1 9 ([.string (str x)])
  have v_b5 := VarK.new w1 9 ([.string (str x)])
  have k_w2 : Keeps w1 (w1.alloc (.cells (List.toArray ([.string (str x)])) 9)) none_ := (Keeps.refl _ _).alloc _
  have z_w2 : (w1.alloc (.cells (List.toArray ([.string (str x)])) 9)).heap.size = w1.heap.size + 1 := by simp
  generalize w1.alloc (.cells (List.toArray ([.string (str x)])) 9) = w2 at *
  generalize hs_b5 : w1.heap.size = b5 at *
  have r_w2 : Keeps w2 w2 none_ := Keeps.refl _ _
  have a3 := at_mono a_b3 k_w2
  have K2 := k_w1.trans0 k_w2
  clear a_b3
  refine KGO ?_
  conv => arg 3; simp [ev, upd]
  have hcall := sg_found (w := w2) (g := 62) (c0 := .pointer (some ⟨b5, 0, none⟩)) h s field (fun wd => hasPrefix wd x) (hr.keep K2) hb (hE.keep K2) (fun _ _ => rfl) (fun wd u k => px_1 wd x (v_b5.keep0 k))
  refine CallS.of (Tryz.call60 _ _) hcall ?_
  rintro e w3 ⟨v, rfl, ov, k3⟩
  obtain ⟨a, c, rfl⟩ := ov.shape
  refine ⟨_, rfl, ?_⟩; (first | refine Then.go hmix ?_ | refine Sat.go hmix ?_ | refine ResK.go ?_ | skip); conv => whnf
  refine KGO ?_
  exact ⟨_, rfl, ov.base (by omega), K2.trans0 k3⟩
theorem pk_1 {b : Nat} {v : Value} (l : List Int) (k : Nat) (hv : VarK w b 23 [v]) (hr : RowI w v l) (hk : k < l.length) : Calls Tryz.prog 28 #[.int .i64 (k : Nat), .pointer (some ⟨b, 0, none⟩)] w fun e w' => e = .returned (.int .i64 (szI (l.getD k 0))) ∧ Keeps w w' none_ := by
  obtain ⟨a, c, rfl, hra⟩ := hr
  obtain ⟨g, o, rfl, hg, hat⟩ := hra (by omega)
  have ck := at_int hat hk
  have av := hv.at
  have q := Keeps.refl w none_
  refine calls_of_vc (args := [.int .i64 (k : Nat), .pointer (some ⟨b, 0, none⟩)]) Tryz.func28 rfl (Nat.le_of_ble_eq_true rfl) ?_; refine Sat.go hmix ?_; conv => whnf
  refine KGO ?_
  exact ⟨by rw [List.getD_eq_getElem?_getD, List.getElem?_eq_getElem hk]; rfl, Keeps.refl _ _⟩
theorem pk_2 {b : Nat} {v : Value} (l : List Int) (k : Nat) (q : Int) (hq : q = (k : Nat)) (hv : VarK w b 23 [v]) (hr : RowI w v l) (hk : k < l.length) : Calls Tryz.prog 28 #[.int .i64 q, .pointer (some ⟨b, 0, none⟩)] w fun e w' => e = .returned (.int .i64 (szI (l.getD k 0))) ∧ Keeps w w' none_ := by
  subst hq
  exact pk_1 l k hv hr hk
theorem sz_range (n : Int) : 0 ≤ szI n ∧ szI n ≤ 1099511627776 := by unfold szI; omega
set_option maxHeartbeats 8000000 in
theorem mg_Pick {v : Value} (l : List Int) (hr : RowI w v l) (hl : l.length ≤ 1000000) : Calls Tryz.prog 10 #[v] w fun e w' => e = .returned (.tuple (match pickL l with | none => #[.int .i64 0, .int .i64 0, .bool false] | some i => #[.int .i64 (i : Nat), .int .i64 ((i + 1 : Nat) : Int), .bool true])) ∧ Keeps w w' none_ := by
  have hr0 := hr
  obtain ⟨a, c, rfl, hra⟩ := hr
  refine calls_of_vc (args := [.slice a l.length c]) Tryz.func10 rfl (Nat.le_of_ble_eq_true rfl) ?_; refine Sat.go hmix ?_; conv => whnf
  have a_b1 := at_fresh w 23 ([.slice a l.length c])
  have v_b1 := VarK.new w 23 ([.slice a l.length c])
  have k_w1 : Keeps w (w.alloc (.cells (List.toArray ([.slice a l.length c])) 23)) none_ := (Keeps.refl _ _).alloc _
  have z_w1 : (w.alloc (.cells (List.toArray ([.slice a l.length c])) 23)).heap.size = w.heap.size + 1 := by simp
  generalize w.alloc (.cells (List.toArray ([.slice a l.length c])) 23) = w1 at *
  generalize hs_b1 : w.heap.size = b1 at *
  have r_w1 : Keeps w1 w1 none_ := Keeps.refl _ _
  refine KGO ?_
  refine Loop.intro (ι := Nat) (fun i => [(1, .pointer (some ⟨b1, 0, none⟩)), (5, .func (.func 28) #[] #[.pointer (some ⟨b1, 0, none⟩)]), (6, .int .i64 (bestI ((List.range i).foldl (stepPick l) none))), (7, .int .i64 (i : Nat))])
    (fun i wr => Keeps w1 wr none_ ∧ i ≤ l.length - 1) (fun i => l.length - i) 0 ⟨rfl, by simp [upd], rfl, rfl, trivial⟩ ⟨Keeps.refl _ _, Nat.zero_le _⟩ ?_
  rintro i gg wr ⟨hK, hi⟩
  have Kw := k_w1.trans0 hK
  have vr := v_b1.keep0 hK
  have ar := vr.at
  have q0 := Keeps.refl wr none_
  have hstep : (List.range (i + 1)).foldl (stepPick l) none = stepPick l ((List.range i).foldl (stepPick l) none) i := by rw [List.range_succ, List.foldl_append]; rfl
  have hlo := pick_le l i
  generalize hO : (List.range i).foldl (stepPick l) none = o at *
  (first | refine Then.go hmix ?_ | refine Sat.go hmix ?_ | refine ResK.go ?_ | skip); conv => whnf
  by_cases hlt : i + 1 < l.length
  rotate_left
  · have hil : i = l.length - 1 := by omega
    have hpk : pickL l = o := by unfold pickL; rw [← hil]; exact hO
    rw [hpk]
    clear hra a_b1 hO
    cases o with
    | none =>
      have e0 : bestI none = -1 := rfl
      clear hlo
      rw [e0]
      refine KGO ?_
      exact ⟨rfl, Kw⟩
    | some b =>
      have e0 : bestI (some b) = (b : Nat) := rfl
      have hb := hlo b rfl
      clear hlo
      rw [e0]
      refine KGO ?_
      exact ⟨rfl, Kw⟩
  have sr1 := sz_range (l.getD i 0)
  have sr2 := sz_range (l.getD (i + 1) 0)
  clear hra a_b1 hO
  by_cases h8 : l.length ≤ 8
  · refine KGO ?_
    refine CallS.of (Tryz.call28 _ _) (pk_2 (w := wr) l i _ rfl vr (hr0.keep Kw) (by omega)) ?_
    rintro e w2 ⟨rfl, k2⟩
    refine ⟨_, rfl, ?_⟩; (first | refine Then.go hmix ?_ | refine Sat.go hmix ?_ | refine ResK.go ?_ | skip); conv => whnf
    refine KGO ?_
    refine CallS.of (Tryz.call28 _ _) (pk_2 (w := w2) l (i + 1) _ (by simp) (vr.keep0 k2) (hr0.keep (Kw.trans0 k2)) (by omega)) ?_
    rintro e w3 ⟨rfl, k3⟩
    have K3 := k2.trans0 k3
    refine ⟨_, rfl, ?_⟩; (first | refine Then.go hmix ?_ | refine Sat.go hmix ?_ | refine ResK.go ?_ | skip); conv => whnf
    by_cases hs : szI (l.getD i 0) > 2 * szI (l.getD (i + 1) 0)
    · refine KGO ?_
      exact ⟨i + 1, ⟨rfl, rfl, by rw [hstep]; unfold stepPick; rw [if_pos ⟨h8, hs⟩]; rfl, v_int (by simp), trivial⟩, ⟨hK.trans0 K3, by omega⟩, by dsimp only; omega⟩
    · refine KGO ?_
      have hns : ¬(l.length ≤ 8 ∧ szI (l.getD i 0) > 2 * szI (l.getD (i + 1) 0)) := fun h => hs h.2
      cases o with
      | none =>
        have e0 : bestI none = -1 := rfl
        rw [e0]
        refine KGO ?_
        exact ⟨i + 1, ⟨rfl, rfl, by rw [hstep]; unfold stepPick; rw [if_neg hns]; rfl, v_int (by simp), trivial⟩, ⟨hK.trans0 K3, by omega⟩, by dsimp only; omega⟩
      | some b =>
        have e0 : bestI (some b) = (b : Nat) := rfl
        have hbi := hlo b rfl
        rw [e0]
        clear ar
        have ar := (vr.keep0 K3).at
        refine KGO ?_
        refine CallS.of (Tryz.call28 _ _) (pk_2 (w := w3) l i _ rfl (vr.keep0 K3) (hr0.keep (Kw.trans0 K3)) (by omega)) ?_
        rintro e w4 ⟨rfl, k4⟩
        have K4 := Keeps.trans0 K3 k4
        refine ⟨_, rfl, ?_⟩; (first | refine Then.go hmix ?_ | refine Sat.go hmix ?_ | refine ResK.go ?_ | skip); conv => whnf
        refine KGO ?_
        refine CallS.of (Tryz.call28 _ _) (pk_2 (w := w4) l (i + 1) _ (by simp) (vr.keep0 K4) (hr0.keep (Kw.trans0 K4)) (by omega)) ?_
        rintro e w5 ⟨rfl, k5⟩
        have K5 := K4.trans0 k5
        refine ⟨_, rfl, ?_⟩; (first | refine Then.go hmix ?_ | refine Sat.go hmix ?_ | refine ResK.go ?_ | skip); conv => whnf
        refine KGO ?_
        refine CallS.of (Tryz.call28 _ _) (pk_2 (w := w5) l b _ rfl (vr.keep0 K5) (hr0.keep (Kw.trans0 K5)) (by omega)) ?_
        rintro e w6 ⟨rfl, k6⟩
        have K6 := K5.trans0 k6
        refine ⟨_, rfl, ?_⟩; (first | refine Then.go hmix ?_ | refine Sat.go hmix ?_ | refine ResK.go ?_ | skip); conv => whnf
        refine KGO ?_
        refine CallS.of (Tryz.call28 _ _) (pk_2 (w := w6) l (b + 1) _ (by simp) (vr.keep0 K6) (hr0.keep (Kw.trans0 K6)) (by omega)) ?_
        rintro e w7 ⟨rfl, k7⟩
        have K7 := K6.trans0 k7
        have sr3 := sz_range (l.getD b 0)
        have sr4 := sz_range (l.getD (b + 1) 0)
        refine ⟨_, rfl, ?_⟩; (first | refine Then.go hmix ?_ | refine Sat.go hmix ?_ | refine ResK.go ?_ | skip); conv => whnf
        by_cases hlt2 : szI (l.getD i 0) + szI (l.getD (i + 1) 0) < szI (l.getD b 0) + szI (l.getD (b + 1) 0)
        · refine KGO ?_
          exact ⟨i + 1, ⟨rfl, rfl, by rw [hstep]; unfold stepPick; rw [if_neg hns]; unfold sz2; dsimp only; rw [if_pos hlt2]; rfl, v_int (by simp), trivial⟩, ⟨hK.trans0 K7, by omega⟩, by dsimp only; omega⟩
        · refine KGO ?_
          exact ⟨i + 1, ⟨rfl, rfl, by rw [hstep]; unfold stepPick; rw [if_neg hns]; unfold sz2; dsimp only; rw [if_neg hlt2]; rfl, v_int (by simp), trivial⟩, ⟨hK.trans0 K7, by omega⟩, by dsimp only; omega⟩
  · refine KGO ?_
    have hns : ¬(l.length ≤ 8 ∧ szI (l.getD i 0) > 2 * szI (l.getD (i + 1) 0)) := fun h => h8 h.1
    have K3 := Keeps.refl wr none_
    cases o with
    | none =>
      have e0 : bestI none = -1 := rfl
      rw [e0]
      refine KGO ?_
      exact ⟨i + 1, ⟨rfl, rfl, by rw [hstep]; unfold stepPick; rw [if_neg hns]; rfl, v_int (by simp), trivial⟩, ⟨hK.trans0 K3, by omega⟩, by dsimp only; omega⟩
    | some b =>
      have e0 : bestI (some b) = (b : Nat) := rfl
      have hbi := hlo b rfl
      rw [e0]
      clear ar
      have ar := (vr.keep0 K3).at
      refine KGO ?_
      refine CallS.of (Tryz.call28 _ _) (pk_2 (w := wr) l i _ rfl (vr.keep0 K3) (hr0.keep (Kw.trans0 K3)) (by omega)) ?_
      rintro e w4 ⟨rfl, k4⟩
      have K4 := Keeps.trans0 K3 k4
      refine ⟨_, rfl, ?_⟩; (first | refine Then.go hmix ?_ | refine Sat.go hmix ?_ | refine ResK.go ?_ | skip); conv => whnf
      refine KGO ?_
      refine CallS.of (Tryz.call28 _ _) (pk_2 (w := w4) l (i + 1) _ (by simp) (vr.keep0 K4) (hr0.keep (Kw.trans0 K4)) (by omega)) ?_
      rintro e w5 ⟨rfl, k5⟩
      have K5 := K4.trans0 k5
      refine ⟨_, rfl, ?_⟩; (first | refine Then.go hmix ?_ | refine Sat.go hmix ?_ | refine ResK.go ?_ | skip); conv => whnf
      refine KGO ?_
      refine CallS.of (Tryz.call28 _ _) (pk_2 (w := w5) l b _ rfl (vr.keep0 K5) (hr0.keep (Kw.trans0 K5)) (by omega)) ?_
      rintro e w6 ⟨rfl, k6⟩
      have K6 := K5.trans0 k6
      refine ⟨_, rfl, ?_⟩; (first | refine Then.go hmix ?_ | refine Sat.go hmix ?_ | refine ResK.go ?_ | skip); conv => whnf
      refine KGO ?_
      refine CallS.of (Tryz.call28 _ _) (pk_2 (w := w6) l (b + 1) _ (by simp) (vr.keep0 K6) (hr0.keep (Kw.trans0 K6)) (by omega)) ?_
      rintro e w7 ⟨rfl, k7⟩
      have K7 := K6.trans0 k7
      have sr3 := sz_range (l.getD b 0)
      have sr4 := sz_range (l.getD (b + 1) 0)
      refine ⟨_, rfl, ?_⟩; (first | refine Then.go hmix ?_ | refine Sat.go hmix ?_ | refine ResK.go ?_ | skip); conv => whnf
      by_cases hlt2 : szI (l.getD i 0) + szI (l.getD (i + 1) 0) < szI (l.getD b 0) + szI (l.getD (b + 1) 0)
      · refine KGO ?_
        exact ⟨i + 1, ⟨rfl, rfl, by rw [hstep]; unfold stepPick; rw [if_neg hns]; unfold sz2; dsimp only; rw [if_pos hlt2]; rfl, v_int (by simp), trivial⟩, ⟨hK.trans0 K7, by omega⟩, by dsimp only; omega⟩
      · refine KGO ?_
        exact ⟨i + 1, ⟨rfl, rfl, by rw [hstep]; unfold stepPick; rw [if_neg hns]; unfold sz2; dsimp only; rw [if_neg hlt2]; rfl, v_int (by simp), trivial⟩, ⟨hK.trans0 K7, by omega⟩, by dsimp only; omega⟩
end
end Go.Proofs.YtcdpocffoapbeaaGreatDoor

-- alias Tryz
namespace Go.Proofs.YtcdpocffoapbeaaGreatDoor
set_option linter.unusedVariables false
open Go.Shelf Go.RowKit Go.Pw Go.Vc Go.Cs Go.Lib Go.Cd Go.Mg
set_option linter.unusedVariables false
set_option maxRecDepth 100000
section
variable {w : World}
set_option maxHeartbeats 1000000 in
theorem rf33_Has {va : Value} (la : List Int) (n : Int) (ha : RowI w va la) (hl : la.length ≤ 100000000) :
    Calls Tryz.prog 19 #[va, .int .i64 n] w fun e w' => e = .returned (.bool (decide (n ∈ la))) ∧ Keeps w w' none_ := by
  obtain ⟨a, ca, rfl, hra⟩ := ha
  refine calls_of_vc (args := [.slice a la.length ca, .int .i64 n]) Tryz.func19 rfl (Nat.le_of_ble_eq_true rfl) ?_; refine Sat.go hmix ?_; conv => whnf
  refine Loop.intro (ι := Nat) (fun i => [(0, .slice a la.length ca), (1, .int .i64 n), (5, .int .i64 (i : Nat))])
    (fun i wr => Keeps w wr none_ ∧ i ≤ la.length ∧ n ∉ la.take i) (fun i => la.length - i) 0 ⟨rfl, rfl, rfl, trivial⟩ ⟨Keeps.refl _ _, Nat.zero_le _, by simp⟩ ?_
  rintro i gg wr ⟨hK, hi, ht⟩
  (first | refine Then.go hmix ?_ | refine Sat.go hmix ?_ | refine ResK.go ?_ | skip); conv => whnf
  by_cases hlt : i < la.length
  · obtain ⟨ga, oa, rfl, hga, hata⟩ := hra (by omega)
    have ca := at_int hata hlt
    by_cases he : la[i] = n
    · refine KGO ?_
      exact ⟨ret_bool (decide_eq_true (he ▸ List.getElem_mem hlt)).symm, hK⟩
    · refine KGO ?_
      exact ⟨i + 1, ⟨rfl, rfl, v_int (by simp), trivial⟩, ⟨hK, by omega, by
        rw [List.take_succ_eq_append_getElem hlt, List.mem_append, List.mem_singleton]
        exact fun q => q.elim ht fun q => he q.symm⟩, by dsimp only; omega⟩
  · refine KGO ?_
    rw [List.take_of_length_le (by omega)] at ht
    exact ⟨ret_bool (decide_eq_false ht).symm, hK⟩
end
end Go.Proofs.YtcdpocffoapbeaaGreatDoor

-- alias Tryz
namespace Go.Proofs.YtcdpocffoapbeaaGreatDoor
set_option linter.unusedVariables false
open Go.Shelf Go.RowKit Go.Pw Go.Vc Go.Cs Go.Lib Go.Cd Go.Mg
set_option linter.unusedVariables false
set_option maxRecDepth 100000
theorem bs0I (w : World) : (Instr.buildSlice 23 0 [].toArray).run Tryz.prog w = .ok (.slice (some ⟨w.heap.size, 0, none⟩) 0 0) (w.alloc (.cells #[] 3)) := by
  simp [Instr.buildSlice, go_sem, Tryz.runUnderlying23]
section
end
end Go.Proofs.YtcdpocffoapbeaaGreatDoor

-- alias Tryz
namespace Go.Proofs.YtcdpocffoapbeaaGreatDoor
set_option linter.unusedVariables false
open Go.Shelf Go.RowKit Go.Pw Go.Vc Go.Cs Go.Lib Go.Cd
set_option linter.unusedVariables false
set_option maxRecDepth 100000
section
end
end Go.Proofs.YtcdpocffoapbeaaGreatDoor

-- alias Tryz
namespace Go.Proofs.YtcdpocffoapbeaaGreatDoor
set_option linter.unusedVariables false
open Go.Shelf Go.RowKit Go.Pw Go.Vc Go.Cs Go.Lib Go.Cd
set_option linter.unusedVariables false
set_option maxRecDepth 100000
section
end
end Go.Proofs.YtcdpocffoapbeaaGreatDoor

-- alias Tryz
namespace Go.Proofs.YtcdpocffoapbeaaGreatDoor
set_option linter.unusedVariables false
open Go.Shelf Go.RowKit Go.Pw Go.Vc Go.Cs Go.Lib Go.Cd
set_option linter.unusedVariables false
set_option maxRecDepth 100000
section
end
end Go.Proofs.YtcdpocffoapbeaaGreatDoor

-- alias Tryz
namespace Go.Proofs.YtcdpocffoapbeaaGreatDoor
set_option linter.unusedVariables false
open Go.RowKit Go.Pw Go.Vc Go.Cs Go.Lib
set_option linter.unusedVariables false
set_option maxRecDepth 100000
section
end
end Go.Proofs.YtcdpocffoapbeaaGreatDoor

-- alias Tryz
namespace Go.Proofs.YtcdpocffoapbeaaGreatDoor
set_option linter.unusedVariables false
open Go.RowKit Go.Pw Go.Vc Go.Cs Go.Lib
set_option linter.unusedVariables false
set_option maxRecDepth 100000
section
end
end Go.Proofs.YtcdpocffoapbeaaGreatDoor

-- alias Tryz
namespace Go.Proofs.YtcdpocffoapbeaaGreatDoor
set_option linter.unusedVariables false
open Go.Shelf Go.RowKit Go.Pw Go.Vc Go.Cs Go.Lib Go.Cd Go.Mg
set_option linter.unusedVariables false
set_option maxRecDepth 100000
/-! The reference's Right, Encode, Decode, Or, Same. -/
section
end
end Go.Proofs.YtcdpocffoapbeaaGreatDoor

-- alias Tryz
namespace Go.Proofs.YtcdpocffoapbeaaGreatDoor
set_option linter.unusedVariables false
open Go.Shelf Go.RowKit Go.Pw Go.Vc Go.Cs Go.Lib Go.Cd Go.Mg
set_option linter.unusedVariables false
set_option maxRecDepth 100000
/-! The reference's Encode. -/
section
end
end Go.Proofs.YtcdpocffoapbeaaGreatDoor

-- alias Tryz
namespace Go.Proofs.YtcdpocffoapbeaaGreatDoor
set_option linter.unusedVariables false
open Go.Shelf Go.RowKit Go.Pw Go.Vc Go.Cs Go.Lib Go.Cd Go.Mg
set_option linter.unusedVariables false
set_option maxRecDepth 100000
section
end
end Go.Proofs.YtcdpocffoapbeaaGreatDoor

-- alias Tryz
namespace Go.Proofs.YtcdpocffoapbeaaGreatDoor
set_option linter.unusedVariables false
open Go.Shelf Go.RowKit Go.Pw Go.Vc Go.Cs Go.Lib Go.Cd Go.Mg
set_option linter.unusedVariables false
set_option maxRecDepth 100000
/-! The references' Pick, below, ahead. -/
section
end
end Go.Proofs.YtcdpocffoapbeaaGreatDoor

-- alias Tryz
namespace Go.Proofs.YtcdpocffoapbeaaGreatDoor
set_option linter.unusedVariables false
open Go.Shelf Go.RowKit Go.Pw Go.Vc Go.Cs Go.Lib Go.Cd Go.Mg
set_option linter.unusedVariables false
set_option maxRecDepth 100000
/-! The references' Same, living, postings. -/
section
variable {w : World}
theorem pst_eta (p q : Pst) : p = q ↔ p.doc = q.doc ∧ p.places = q.places := by
  obtain ⟨a, b⟩ := p
  obtain ⟨c, d⟩ := q
  simp
set_option maxHeartbeats 2000000 in
theorem rf33_Same {va vb : Value} (la lb : List Pst) (ha : RowP w va la) (hb : RowP w vb lb) (hl : la.length ≤ 10000000) (hl2 : lb.length ≤ 10000000) (hp1 : ∀ p ∈ la, p.places.length ≤ 1000000) (hp2 : ∀ p ∈ lb, p.places.length ≤ 1000000) :
    Calls Tryz.prog 26 #[va, vb] w fun e w' => e = .returned (.bool (decide (la = lb))) ∧ Keeps w w' none_ := by
  obtain ⟨lx, rfl, ⟨⟨aa, ca, rfl, hra⟩, hpa, _, _⟩⟩ := ha
  obtain ⟨ly, rfl, ⟨⟨ab, cb, rfl, hrb⟩, hpb, _, _⟩⟩ := hb
  rw [List.length_map] at hl hl2
  have hp1 : ∀ x ∈ lx, x.p.places.length ≤ 1000000 := fun x hx => hp1 x.p (List.mem_map_of_mem hx)
  have hp2 : ∀ x ∈ ly, x.p.places.length ≤ 1000000 := fun x hx => hp2 x.p (List.mem_map_of_mem hx)
  refine calls_of_vc (args := [.slice aa lx.length ca, .slice ab ly.length cb]) Tryz.func26 rfl (Nat.le_of_ble_eq_true rfl) ?_; refine Sat.go hmix ?_; conv => whnf
  by_cases hn : lx.length = ly.length
  rotate_left
  · refine KGO ?_
    exact ⟨ret_bool (decide_eq_false fun h => hn (by have := congrArg List.length h; rwa [List.length_map, List.length_map] at this)).symm, Keeps.refl _ _⟩
  refine KGO ?_
  refine Loop.intro (ι := Nat) (fun i => [(0, .slice aa lx.length ca), (1, .slice ab ly.length cb), (5, .int .i64 (i : Nat))])
    (fun i wr => Keeps w wr none_ ∧ i ≤ lx.length ∧ (lx.map (·.p)).take i = (ly.map (·.p)).take i) (fun i => lx.length - i) 0 ⟨rfl, rfl, rfl, trivial⟩ ⟨Keeps.refl _ _, Nat.zero_le _, rfl⟩ ?_
  rintro i gg wr ⟨hK, hi, ht⟩
  (first | refine Then.go hmix ?_ | refine Sat.go hmix ?_ | refine ResK.go ?_ | skip); conv => whnf
  by_cases hlt : i < lx.length
  rotate_left
  · refine KGO ?_
    rw [List.take_of_length_le (by rw [List.length_map]; omega), List.take_of_length_le (by rw [List.length_map]; omega)] at ht
    exact ⟨ret_bool (decide_eq_true ht).symm, hK⟩
  have hlt2 : i < ly.length := by omega
  obtain ⟨ga, oa, rfl, hga, hata⟩ := hra (by omega)
  obtain ⟨gb, ob, rfl, hgb, hatb⟩ := hrb (by omega)
  have hne : lx[i].p ≠ ly[i].p → ¬ lx.map (·.p) = ly.map (·.p) := fun h e => h (by
    have h1 : (lx.map (·.p))[i]? = (ly.map (·.p))[i]? := by rw [e]
    rw [List.getElem?_map, List.getElem?_map, List.getElem?_eq_getElem hlt, List.getElem?_eq_getElem hlt2] at h1
    simpa using h1)
  have hxi := hpa _ (List.getElem_mem hlt)
  have hyi := hpb _ (List.getElem_mem hlt2)
  clear hra hrb
  refine KGO ?_
  have hcall := rf_SameInts (w := wr.drew) lx[i].p.places ly[i].p.places (hxi.keep hK.drew) (hyi.keep hK.drew) (hp1 _ (List.getElem_mem hlt)) (hp2 _ (List.getElem_mem hlt2))
  refine CallS.of (Tryz.call30 _ _) hcall ?_
  rintro e w3 ⟨rfl, k3⟩
  have K3 := hK.drew.trans0 k3
  refine ⟨_, rfl, ?_⟩; (first | refine Then.go hmix ?_ | refine Sat.go hmix ?_ | refine ResK.go ?_ | skip); conv => whnf
  by_cases hd : lx[i].p.doc = ly[i].p.doc
  · by_cases hq : lx[i].p.places = ly[i].p.places
    · rw [decide_eq_true hq]
      refine KGO ?_
      exact ⟨i + 1, ⟨rfl, rfl, v_int (by simp), trivial⟩, ⟨K3.drew, by omega, by
        have e : lx[i].p = ly[i].p := (pst_eta _ _).2 ⟨hd, hq⟩
        rw [List.take_succ_eq_append_getElem (by rw [List.length_map]; exact hlt), List.take_succ_eq_append_getElem (by rw [List.length_map]; exact hlt2), ht, List.getElem_map, List.getElem_map, e]⟩, by dsimp only; omega⟩
    · rw [decide_eq_false hq]
      refine KGO ?_
      exact ⟨ret_bool (decide_eq_false (hne fun h => hq ((pst_eta _ _).1 h).2)).symm, K3.drew⟩
  · refine KGO ?_
    exact ⟨ret_bool (decide_eq_false (hne fun h => hd ((pst_eta _ _).1 h).1)).symm, K3.drew⟩
end
end Go.Proofs.YtcdpocffoapbeaaGreatDoor

-- alias Tryz
namespace Go.Proofs.YtcdpocffoapbeaaGreatDoor
set_option linter.unusedVariables false
open Go.Shelf Go.RowKit Go.Pw Go.Vc Go.Cs Go.Lib Go.Cd Go.Mg
set_option linter.unusedVariables false
set_option maxRecDepth 100000
/-! The reference's living. -/
section
end
end Go.Proofs.YtcdpocffoapbeaaGreatDoor

-- alias Tryz
namespace Go.Proofs.YtcdpocffoapbeaaGreatDoor
set_option linter.unusedVariables false
open Go.Shelf Go.RowKit Go.Pw Go.Vc Go.Cs Go.Lib Go.Cd Go.Mg
set_option linter.unusedVariables false
set_option maxRecDepth 100000
section
end
end Go.Proofs.YtcdpocffoapbeaaGreatDoor

-- alias Tryz
namespace Go.Proofs.YtcdpocffoapbeaaGreatDoor
set_option linter.unusedVariables false
open Go.Shelf Go.RowKit Go.Pw Go.Vc Go.Cs Go.Lib Go.Cd Go.Mg
set_option linter.unusedVariables false
set_option maxRecDepth 100000
/-! The reference's ahead; orF against orP (plain). -/
section
end
end Go.Proofs.YtcdpocffoapbeaaGreatDoor

-- alias Tryz
namespace Go.Proofs.YtcdpocffoapbeaaGreatDoor
set_option linter.unusedVariables false
open Go.Shelf Go.RowKit Go.Pw Go.Vc Go.Cs Go.Lib Go.Cd Go.Mg
set_option linter.unusedVariables false
theorem mem_docs {l : List Pst} (h : rightP l = true) (d : Int) : d ∈ l.map (·.doc) ↔ atD l d ≠ [] := by
  constructor
  · intro hm
    obtain ⟨p, hp, rfl⟩ := List.mem_map.1 hm
    rw [atD_mem (right_asc h) hp]
    exact ((right_iff2.1 h).2 p hp).2.2.1
  · intro hn
    obtain ⟨p, hp, e, _⟩ := atD_ne hn
    exact List.mem_map.2 ⟨p, hp, e⟩
end Go.Proofs.YtcdpocffoapbeaaGreatDoor

-- alias Tryz
namespace Go.Proofs.YtcdpocffoapbeaaGreatDoor
set_option linter.unusedVariables false
open Go.Shelf Go.RowKit Go.Pw Go.Vc Go.Cs Go.Lib Go.Cd Go.Mg
set_option linter.unusedVariables false
end Go.Proofs.YtcdpocffoapbeaaGreatDoor
