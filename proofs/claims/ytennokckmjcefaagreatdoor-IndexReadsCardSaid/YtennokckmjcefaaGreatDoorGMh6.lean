/- Helper lemmas; no conditions of their own. -/
import Derived.Test.YtennokckmjcefaaGreatDoorGMh3
set_option linter.unusedVariables false
set_option maxHeartbeats 8000000
set_option maxRecDepth 100000
namespace Go.Proofs.YtennokckmjcefaaGreatDoor
open Go.Shelf Go.RowKit Go.Pw Go.Vc Go.Cs Go.Lib Go.Cd Go.Mg
section
variable {w : World}
theorem zqF {g : Nat} {c0 : Value} (h : Sv) (s : Sgm) (field : Int) (p : List UInt8 → Bool) (hr : RdS w h s) (hb : Bd s 1000000 1000000 900000) (hE : CEnv w) (hg : ∀ (args : Array Value) (w : World), (callFunc g args).run Tryz.prog w = .ok (.enter g args) w)
  (hp : ∀ wd u, Kp w u n_ → Calls Tryz.prog g #[.string (str wd), c0] u fun e u' => e = .returned (.bool (p wd)) ∧ Kp u u' n_) :
  Calls Tryz.prog 108 #[.agg (sgC h).toArray, .int .i64 field, .func (.func g) #[] #[c0]] w fun e w' => ∃ v, e = .returned v ∧ OwnP w' w.heap.size v (lookS s field p) ∧ Kp w w' n_ := by
 have hr0 := hr
 obtain ⟨⟨at_, ct, et, hrt⟩, _, _, _⟩ := hr
 obtain ⟨⟨ta, tn, tc⟩, hd⟩ := h
 injection et with q1 q2 q3
 dsimp only at q1 q2 q3
 subst q1 q2 q3
 refine zaa (args := [.agg (sgC ⟨⟨ta, s.terms.length, tc⟩, hd⟩).toArray, .int .i64 field, .func (.func g) #[] #[c0]]) Tryz.func108 rfl NL ?_; refine GW ?_
 obtain ⟨a_b3, v_b3, k_w1, z_w1, r_w1⟩ := new5 w 65 (sgC ⟨⟨ta, s.terms.length, tc⟩, hd⟩)
 generalize w.alloc (.cells (List.toArray (sgC ⟨⟨ta, s.terms.length, tc⟩, hd⟩)) 65) = w1 at *
 generalize hs_b3 : w.heap.size = b3 at *
 refine KGO ?_
 refine Ya (Tryz.call116 _ _) (zfh (w := w1) ⟨⟨ta, s.terms.length, tc⟩, hd⟩ s (hr0.keep k_w1) (zlv hb OM OM OM) (hE.keep k_w1)) ?_
 rintro e w2 ⟨rfl, k2⟩
 have K2 := k_w1.trans0 k2
 have v2 := v_b3.keep0 k2
 unfold sgC at v2
 dsimp only at v2
 have a3 := v2.at
 have q2 := Yb w2 n_
 clear a_b3 v_b3
 refine RT ?_
 unfold lookS
 cases hq : rightS s with
 | false =>
  refine KGO ?_
  exact ⟨_, rfl, ownP_nil _ _, K2⟩
 | true =>
 rw [if_pos rfl]
 refine KGO ?_
 have htl := hb.t
 have hst : ∀ i (hi : i < s.terms.length), ((s.terms.take (i + 1)).filter fun t => (decide (field = 0) || decide (field = t.field)) && p t.word).foldl (fun o t => orP o (plT t)) [] = if ((decide (field = 0) || decide (field = s.terms[i].field)) && p s.terms[i].word) = true then orP (((s.terms.take i).filter fun t => (decide (field = 0) || decide (field = t.field)) && p t.word).foldl (fun o t => orP o (plT t)) []) (plT s.terms[i]) else ((s.terms.take i).filter fun t => (decide (field = 0) || decide (field = t.field)) && p t.word).foldl (fun o t => orP o (plT t)) [] := fun i hi => by
  rw [yad hi, ybf, List.foldl_append, ybq]
  split <;> rfl
 have hcn : ∀ i, cntP (((s.terms.take i).filter fun t => (decide (field = 0) || decide (field = t.field)) && p t.word).foldl (fun o t => orP o (plT t)) []) ≤ 900000000000 := fun i => by
  have h1 := zhB (c := 900000) ((s.terms.take i).filter fun t => (decide (field = 0) || decide (field = t.field)) && p t.word) [] 0 (by decide) (fun t ht => (hb.x t (ybo (yav.1 ht).1)).2.2)
  have h2 : ((s.terms.take i).filter fun t => (decide (field = 0) || decide (field = t.field)) && p t.word).length ≤ 1000000 := yaw (yaK _ _) (by rw [yar]; omega)
  have h3 := yaV 900000 h2
  omega
 refine Yc (ι := Nat × Value) (fun i => [(1, .int .i64 field), (2, .func (.func g) #[] #[c0]), (6, i.2), (15, .slice ta s.terms.length tc), (16, .int .i64 (s.terms.length : Nat)), (17, .int .i64 (i.1 : Nat))])
  (fun i wr => Kp w wr n_ ∧ i.1 ≤ s.terms.length ∧ OwnP wr w.heap.size i.2 (((s.terms.take i.1).filter fun t => (decide (field = 0) || decide (field = t.field)) && p t.word).foldl (fun o t => orP o (plT t)) [])) (fun i => s.terms.length - i.1) (0, .slice none 0 0) FR ⟨K2, yal _, ownP_nil _ _⟩ ?_
 clear a3 q2 v2
 rintro ⟨i, vo⟩ gg wr ⟨hK, hi, ho⟩
 dsimp only at hi ho ⊢
 have hci := hcn i
 obtain ⟨ao, co, rfl⟩ := ho.shape
 have z0 := hK.size
 refine GW ?_
 by_cases hlt : i < s.terms.length
 rotate_left
 ·rw [yaz OM] at ho ⊢
  refine KGO ?_
  exact ⟨_, rfl, ho.base OM, hK⟩
 obtain ⟨gt, ot, rfl, hgt, hat⟩ := hrt OM
 have hx := hb.x _ (yak hlt)
 have hsti := hst i hlt
 generalize ((s.terms.take i).filter fun t => (decide (field = 0) || decide (field = t.field)) && p t.word).foldl (fun o t => orP o (plT t)) [] = OUT at *
 clear hst hcn hrt hr0
 refine KGO ?_
 refine Yg (vs := tmC s.terms[i]) (by rfl) rfl (zak (by rfl)) ?_
 obtain ⟨a_b8, k_w3, z_w3⟩ := new3 wr 141 (tmC s.terms[i])
 generalize wr.alloc (.cells (List.toArray (tmC s.terms[i])) 141) = w3 at *
 generalize hs_b8 : wr.heap.size = b8 at *
 have K3 := hK.trans0 k_w3
 have o3 := ho.keep k_w3
 refine KGO ?_
 have hd1 : decide (field = 0) = (field == 0) := by by_cases h : field = 0 <;> simp [h]
 have tail : ∀ wz, Kp w3 wz n_ → OwnP wz w.heap.size (.slice ao OUT.length co) OUT := fun wz k => o3.keep k
 by_cases f0 : field = 0
 ·refine KGO ?_
  refine Ya (hg _ _) (hp s.terms[i].word w3 K3) ?_
  rintro e w4 ⟨rfl, k4⟩
  have K4 := K3.trans0 k4
  have o4 := tail w4 k4
  have a8 := at_mono a_b8 k4
  have q4 := Yb w4 n_
  refine RT ?_
  cases hpw : p s.terms[i].word with
  | false =>
   refine KGO ?_
   exact ⟨(i + 1, .slice ao OUT.length co), FR, ⟨K4, DO, by dsimp only; rw [hsti, decide_eq_true f0, hpw]; exact o4⟩, DO⟩
  | true =>
   refine KGO ?_
   refine Ya (Tryz.call167 _ _) (zdS (w := w4) s.terms[i].list OM) ?_
   rintro e w5 ⟨⟨vp, rfl, op, _⟩, k5⟩
   rw [show (decP s.terms[i].list).getD [] = plT s.terms[i] from rfl] at op
   obtain ⟨ap, cp, rfl⟩ := op.shape
   have o5 := o4.keep k5
   have K5 := K4.trans0 k5
   have hg1 := zaZ OUT
   have hg2 := zaZ (plT s.terms[i])
   have hx3 := hx.2.2
   unfold cntP at hx3 hci
   refine RT ?_
   refine KGO ?_
   refine Ya (Tryz.call125 _ _) (po_Or (w := w5) OUT (plT s.terms[i]) o5.row op.row OM OM (fun q hq => by have := zbj _ q hq; omega) (fun q hq => by have := zbj _ q hq; omega)) ?_
   rintro e w6 ⟨vo6, rfl, o6, k6⟩
   obtain ⟨a6, c6, rfl⟩ := o6.shape
   refine RT ?_
   refine KGO ?_
   exact ⟨(i + 1, .slice a6 (orP OUT (plT s.terms[i])).length c6), FR, ⟨K5.trans0 k6, DO, by dsimp only; rw [hsti, decide_eq_true f0, hpw]; exact o6.base (by have := K5.size; omega)⟩, DO⟩
 by_cases f1 : field = s.terms[i].field
 ·refine KGO ?_
  refine Ya (hg _ _) (hp s.terms[i].word w3 K3) ?_
  rintro e w4 ⟨rfl, k4⟩
  have K4 := K3.trans0 k4
  have o4 := tail w4 k4
  have a8 := at_mono a_b8 k4
  have q4 := Yb w4 n_
  refine RT ?_
  cases hpw : p s.terms[i].word with
  | false =>
   refine KGO ?_
   exact ⟨(i + 1, .slice ao OUT.length co), FR, ⟨K4, DO, by dsimp only; rw [hsti, decide_eq_false f0, decide_eq_true f1, hpw]; exact o4⟩, DO⟩
  | true =>
   refine KGO ?_
   refine Ya (Tryz.call167 _ _) (zdS (w := w4) s.terms[i].list OM) ?_
   rintro e w5 ⟨⟨vp, rfl, op, _⟩, k5⟩
   rw [show (decP s.terms[i].list).getD [] = plT s.terms[i] from rfl] at op
   obtain ⟨ap, cp, rfl⟩ := op.shape
   have o5 := o4.keep k5
   have K5 := K4.trans0 k5
   have hg1 := zaZ OUT
   have hg2 := zaZ (plT s.terms[i])
   have hx3 := hx.2.2
   unfold cntP at hx3 hci
   refine RT ?_
   refine KGO ?_
   refine Ya (Tryz.call125 _ _) (po_Or (w := w5) OUT (plT s.terms[i]) o5.row op.row OM OM (fun q hq => by have := zbj _ q hq; omega) (fun q hq => by have := zbj _ q hq; omega)) ?_
   rintro e w6 ⟨vo6, rfl, o6, k6⟩
   obtain ⟨a6, c6, rfl⟩ := o6.shape
   refine RT ?_
   refine KGO ?_
   exact ⟨(i + 1, .slice a6 (orP OUT (plT s.terms[i])).length c6), FR, ⟨K5.trans0 k6, DO, by dsimp only; rw [hsti, decide_eq_false f0, decide_eq_true f1, hpw]; exact o6.base (by have := K5.size; omega)⟩, DO⟩
 refine KGO ?_
 exact ⟨(i + 1, .slice ao OUT.length co), FR, ⟨K3, DO, by dsimp only; rw [hsti, decide_eq_false f0, decide_eq_false f1]; exact o3⟩, DO⟩
theorem lk_1 {b : Nat} (wd x : List UInt8) (hv : VarK w b 9 [.string (str x)]) : Calls Tryz.prog 109 #[.string (str wd), .pointer (some ⟨b, 0, none⟩)] w fun e w' => e = .returned (.bool (decide (wd = x))) ∧ Kp w w' n_ := by
 have a := hv.at
 have q := Yb w n_
 refine zaa (args := [.string (str wd), .pointer (some ⟨b, 0, none⟩)]) Tryz.func109 rfl NL ?_; refine GW ?_
 refine KGO ?_
 exact ⟨ret_bool (decide_eq_decide.2 zbB), Yb _ _⟩
theorem ztr (h : Sv) (s : Sgm) (field : Int) (x : List UInt8) (hr : RdS w h s) (hb : Bd s 1000000 1000000 900000) (hE : CEnv w) :
  Calls Tryz.prog 43 #[.agg (sgC h).toArray, .int .i64 field, .string (str x)] w fun e w' => ∃ v, e = .returned v ∧ OwnP w' w.heap.size v (lookS s field (fun wd => decide (wd = x))) ∧ Kp w w' n_ := by
 refine zaa (args := [.agg (sgC h).toArray, .int .i64 field, .string (str x)]) Tryz.func43 rfl NL ?_; refine GW ?_
 obtain ⟨a_b3, v_b3, k_w1, z_w1, r_w1⟩ := new5 w 65 (sgC h)
 generalize w.alloc (.cells (List.toArray (sgC h)) 65) = w1 at *
 generalize hs_b3 : w.heap.size = b3 at *
 obtain ⟨a_b5, v_b5, k_w2, z_w2, r_w2⟩ := new5 w1 9 ([.string (str x)])
 generalize w1.alloc (.cells (List.toArray ([.string (str x)])) 9) = w2 at *
 generalize hs_b5 : w1.heap.size = b5 at *
 have a3 := at_mono a_b3 k_w2
 have K2 := k_w1.trans0 k_w2
 clear a_b3
 refine KGO ?_
 conv => arg 3; simp [ev, upd]
 have hcall := zqF (w := w2) (g := 109) (c0 := .pointer (some ⟨b5, 0, none⟩)) h s field (fun wd => decide (wd = x)) (hr.keep K2) hb (hE.keep K2) (fun _ _ => rfl) (fun wd u k => lk_1 wd x (v_b5.keep0 k))
 refine Ya (Tryz.call108 _ _) hcall ?_
 rintro e w3 ⟨v, rfl, ov, k3⟩
 obtain ⟨a, c, rfl⟩ := ov.shape
 refine RT ?_
 refine KGO ?_
 exact ⟨_, rfl, ov.base OM, K2.trans0 k3⟩
theorem pk_1 {b : Nat} {v : Value} (l : List Int) (k : Nat) (hv : VarK w b 40 [v]) (hr : RowI w v l) (hk : k < l.length) : Calls Tryz.prog 162 #[.int .i64 (k : Nat), .pointer (some ⟨b, 0, none⟩)] w fun e w' => e = .returned (.int .i64 (szI (l.getD k 0))) ∧ Kp w w' n_ := by
 obtain ⟨a, c, rfl, hra⟩ := hr
 obtain ⟨g, o, rfl, hg, hat⟩ := hra OM
 have ck := zaJ hat hk
 have av := hv.at
 have q := Yb w n_
 refine zaa (args := [.int .i64 (k : Nat), .pointer (some ⟨b, 0, none⟩)]) Tryz.func162 rfl NL ?_; refine GW ?_
 refine KGO ?_
 exact ⟨by rw [List.getD_eq_getElem?_getD, List.getElem?_eq_getElem hk]; rfl, Yb _ _⟩
theorem pk_2 {b : Nat} {v : Value} (l : List Int) (k : Nat) (q : Int) (hq : q = (k : Nat)) (hv : VarK w b 40 [v]) (hr : RowI w v l) (hk : k < l.length) : Calls Tryz.prog 162 #[.int .i64 q, .pointer (some ⟨b, 0, none⟩)] w fun e w' => e = .returned (.int .i64 (szI (l.getD k 0))) ∧ Kp w w' n_ := by
 subst hq
 exact pk_1 l k hv hr hk
theorem zdm (n : Int) : 0 ≤ szI n ∧ szI n ≤ 1099511627776 := by unfold szI; omega
theorem zsT {v : Value} (l : List Int) (hr : RowI w v l) (hl : l.length ≤ 1000000) : Calls Tryz.prog 94 #[v] w fun e w' => e = .returned (.tuple (match pickL l with | none => #[.int .i64 0, .int .i64 0, .bool false] | some i => #[.int .i64 (i : Nat), .int .i64 ((i + 1 : Nat) : Int), .bool true])) ∧ Kp w w' n_ := by
 have hr0 := hr
 obtain ⟨a, c, rfl, hra⟩ := hr
 refine zaa (args := [.slice a l.length c]) Tryz.func94 rfl NL ?_; refine GW ?_
 obtain ⟨a_b1, v_b1, k_w1, z_w1, r_w1⟩ := new5 w 40 ([.slice a l.length c])
 generalize w.alloc (.cells (List.toArray ([.slice a l.length c])) 40) = w1 at *
 generalize hs_b1 : w.heap.size = b1 at *
 refine KGO ?_
 refine Yc (ι := Nat) (fun i => [(1, .pointer (some ⟨b1, 0, none⟩)), (5, .func (.func 162) #[] #[.pointer (some ⟨b1, 0, none⟩)]), (6, .int .i64 (bestI ((List.range i).foldl (zaU l) none))), (7, .int .i64 (i : Nat))])
  (fun i wr => Kp w1 wr n_ ∧ i ≤ l.length - 1) (fun i => l.length - i) 0 ⟨rfl, by simp [upd], rfl, rfl, trivial⟩ ⟨Yb _ _, yal _⟩ ?_
 rintro i gg wr ⟨hK, hi⟩
 have Kw := k_w1.trans0 hK
 have vr := v_b1.keep0 hK
 have ar := vr.at
 have q0 := Yb wr n_
 have hstep : (List.range (i + 1)).foldl (zaU l) none = zaU l ((List.range i).foldl (zaU l) none) i := by rw [List.range_succ, List.foldl_append]; rfl
 have hlo := zju l i
 generalize hO : (List.range i).foldl (zaU l) none = o at *
 refine GW ?_
 by_cases hlt : i + 1 < l.length
 rotate_left
 ·have hil : i = l.length - 1 := OM
  have hpk : pickL l = o := by unfold pickL; rw [← hil]; exact hO
  rw [hpk]
  clear hra a_b1 hO
  cases o with
  | none =>
   have e0 : bestI none = -1 := rfl
   clear hlo
   rw [e0]
   refine KGO ?_
   exact ⟨rfl, Kw⟩
  | some b =>
   have e0 : bestI (some b) = (b : Nat) := rfl
   have hb := hlo b rfl
   clear hlo
   rw [e0]
   refine KGO ?_
   exact ⟨rfl, Kw⟩
 have sr1 := zdm (l.getD i 0)
 have sr2 := zdm (l.getD (i + 1) 0)
 clear hra a_b1 hO
 by_cases h8 : l.length ≤ 8
 ·refine KGO ?_
  refine Ya (Tryz.call162 _ _) (pk_2 (w := wr) l i _ rfl vr (hr0.keep Kw) OM) ?_
  rintro e w2 ⟨rfl, k2⟩
  refine RT ?_
  refine KGO ?_
  refine Ya (Tryz.call162 _ _) (pk_2 (w := w2) l (i + 1) _ (by simp) (vr.keep0 k2) (hr0.keep (Kw.trans0 k2)) OM) ?_
  rintro e w3 ⟨rfl, k3⟩
  have K3 := k2.trans0 k3
  refine RT ?_
  by_cases hs : szI (l.getD i 0) > 2 * szI (l.getD (i + 1) 0)
  ·refine KGO ?_
   exact ⟨i + 1, ⟨rfl, rfl, by rw [hstep]; unfold zaU; rw [if_pos ⟨h8, hs⟩]; rfl, VS, trivial⟩, ⟨hK.trans0 K3, OM⟩, DO⟩
  refine KGO ?_
  have hns : ¬(l.length ≤ 8 ∧ szI (l.getD i 0) > 2 * szI (l.getD (i + 1) 0)) := fun h => hs h.2
  cases o with
  | none =>
   have e0 : bestI none = -1 := rfl
   rw [e0]
   refine KGO ?_
   exact ⟨i + 1, ⟨rfl, rfl, by rw [hstep]; unfold zaU; rw [if_neg hns]; rfl, VS, trivial⟩, ⟨hK.trans0 K3, OM⟩, DO⟩
  | some b =>
   have e0 : bestI (some b) = (b : Nat) := rfl
   have hbi := hlo b rfl
   rw [e0]
   clear ar
   have ar := (vr.keep0 K3).at
   refine KGO ?_
   refine Ya (Tryz.call162 _ _) (pk_2 (w := w3) l i _ rfl (vr.keep0 K3) (hr0.keep (Kw.trans0 K3)) OM) ?_
   rintro e w4 ⟨rfl, k4⟩
   have K4 := Kp.trans0 K3 k4
   refine RT ?_
   refine KGO ?_
   refine Ya (Tryz.call162 _ _) (pk_2 (w := w4) l (i + 1) _ (by simp) (vr.keep0 K4) (hr0.keep (Kw.trans0 K4)) OM) ?_
   rintro e w5 ⟨rfl, k5⟩
   have K5 := K4.trans0 k5
   refine RT ?_
   refine KGO ?_
   refine Ya (Tryz.call162 _ _) (pk_2 (w := w5) l b _ rfl (vr.keep0 K5) (hr0.keep (Kw.trans0 K5)) OM) ?_
   rintro e w6 ⟨rfl, k6⟩
   have K6 := K5.trans0 k6
   refine RT ?_
   refine KGO ?_
   refine Ya (Tryz.call162 _ _) (pk_2 (w := w6) l (b + 1) _ (by simp) (vr.keep0 K6) (hr0.keep (Kw.trans0 K6)) OM) ?_
   rintro e w7 ⟨rfl, k7⟩
   have K7 := K6.trans0 k7
   have sr3 := zdm (l.getD b 0)
   have sr4 := zdm (l.getD (b + 1) 0)
   refine RT ?_
   by_cases hlt2 : szI (l.getD i 0) + szI (l.getD (i + 1) 0) < szI (l.getD b 0) + szI (l.getD (b + 1) 0)
   ·refine KGO ?_
    exact ⟨i + 1, ⟨rfl, rfl, by rw [hstep]; unfold zaU; rw [if_neg hns]; unfold sz2; dsimp only; rw [if_pos hlt2]; rfl, VS, trivial⟩, ⟨hK.trans0 K7, OM⟩, DO⟩
   refine KGO ?_
   exact ⟨i + 1, ⟨rfl, rfl, by rw [hstep]; unfold zaU; rw [if_neg hns]; unfold sz2; dsimp only; rw [if_neg hlt2]; rfl, VS, trivial⟩, ⟨hK.trans0 K7, OM⟩, DO⟩
 refine KGO ?_
 have hns : ¬(l.length ≤ 8 ∧ szI (l.getD i 0) > 2 * szI (l.getD (i + 1) 0)) := fun h => h8 h.1
 have K3 := Yb wr n_
 cases o with
 | none =>
  have e0 : bestI none = -1 := rfl
  rw [e0]
  refine KGO ?_
  exact ⟨i + 1, ⟨rfl, rfl, by rw [hstep]; unfold zaU; rw [if_neg hns]; rfl, VS, trivial⟩, ⟨hK.trans0 K3, OM⟩, DO⟩
 | some b =>
  have e0 : bestI (some b) = (b : Nat) := rfl
  have hbi := hlo b rfl
  rw [e0]
  clear ar
  have ar := (vr.keep0 K3).at
  refine KGO ?_
  refine Ya (Tryz.call162 _ _) (pk_2 (w := wr) l i _ rfl (vr.keep0 K3) (hr0.keep (Kw.trans0 K3)) OM) ?_
  rintro e w4 ⟨rfl, k4⟩
  have K4 := Kp.trans0 K3 k4
  refine RT ?_
  refine KGO ?_
  refine Ya (Tryz.call162 _ _) (pk_2 (w := w4) l (i + 1) _ (by simp) (vr.keep0 K4) (hr0.keep (Kw.trans0 K4)) OM) ?_
  rintro e w5 ⟨rfl, k5⟩
  have K5 := K4.trans0 k5
  refine RT ?_
  refine KGO ?_
  refine Ya (Tryz.call162 _ _) (pk_2 (w := w5) l b _ rfl (vr.keep0 K5) (hr0.keep (Kw.trans0 K5)) OM) ?_
  rintro e w6 ⟨rfl, k6⟩
  have K6 := K5.trans0 k6
  refine RT ?_
  refine KGO ?_
  refine Ya (Tryz.call162 _ _) (pk_2 (w := w6) l (b + 1) _ (by simp) (vr.keep0 K6) (hr0.keep (Kw.trans0 K6)) OM) ?_
  rintro e w7 ⟨rfl, k7⟩
  have K7 := K6.trans0 k7
  have sr3 := zdm (l.getD b 0)
  have sr4 := zdm (l.getD (b + 1) 0)
  refine RT ?_
  by_cases hlt2 : szI (l.getD i 0) + szI (l.getD (i + 1) 0) < szI (l.getD b 0) + szI (l.getD (b + 1) 0)
  ·refine KGO ?_
   exact ⟨i + 1, ⟨rfl, rfl, by rw [hstep]; unfold zaU; rw [if_neg hns]; unfold sz2; dsimp only; rw [if_pos hlt2]; rfl, VS, trivial⟩, ⟨hK.trans0 K7, OM⟩, DO⟩
  refine KGO ?_
  exact ⟨i + 1, ⟨rfl, rfl, by rw [hstep]; unfold zaU; rw [if_neg hns]; unfold sz2; dsimp only; rw [if_neg hlt2]; rfl, VS, trivial⟩, ⟨hK.trans0 K7, OM⟩, DO⟩
end
def zdg (n : Int) : List Int → Bool → List Int
 | [], d => if d = true then [] else [n]
 | x :: r, d => if d = false ∧ n ≤ x then (if x = n then n :: zdg n r true else n :: x :: zdg n r true) else (if x = n then zdg n r d else x :: zdg n r d)
def withL (l : List Int) (n : Int) : List Int := zdg n l false
section
variable {w : World}
theorem zlY {va : Value} (la : List Int) (n : Int) (ha : RowI w va la) (hl : la.length ≤ 100000000) :
  Calls Tryz.prog 173 #[va, .int .i64 n] w fun e w' => e = .returned (.bool (decide (n ∈ la))) ∧ Kp w w' n_ := by
 obtain ⟨a, ca, rfl, hra⟩ := ha
 refine zaa (args := [.slice a la.length ca, .int .i64 n]) Tryz.func173 rfl NL ?_; refine GW ?_
 refine Yc (ι := Nat) (fun i => [(0, .slice a la.length ca), (1, .int .i64 n), (5, .int .i64 (i : Nat))])
  (fun i wr => Kp w wr n_ ∧ i ≤ la.length ∧ n ∉ la.take i) (fun i => la.length - i) 0 FR ⟨Yb _ _, yal _, by simp⟩ ?_
 rintro i gg wr ⟨hK, hi, ht⟩
 refine GW ?_
 by_cases hlt : i < la.length
 ·obtain ⟨ga, oa, rfl, hga, hata⟩ := hra OM
  have ca := zaJ hata hlt
  by_cases he : la[i] = n
  ·refine KGO ?_
   exact ⟨ret_bool (decide_eq_true (he ▸ yak hlt)).symm, hK⟩
  refine KGO ?_
  exact ⟨i + 1, FR, ⟨hK, OM, by
   rw [yad hlt, yaj, yac]
   exact fun q => q.elim ht fun q => he q.symm⟩, DO⟩
 refine KGO ?_
 rw [yaz OM] at ht
 exact ⟨ret_bool (decide_eq_false ht).symm, hK⟩
theorem zov (n a b : Int) : Calls Tryz.prog 171 #[.int .i64 n, .int .i64 a, .int .i64 b] w fun e w' => e = .returned (.bool (decide (a ≤ n) && decide (n ≤ b))) ∧ w' = w := by
 refine zaa (args := [.int .i64 n, .int .i64 a, .int .i64 b]) Tryz.func171 rfl NL ?_; refine GW ?_
 by_cases h1 : a ≤ n
 ·refine KGO ?_
  exact ⟨ret_bool (by simp [h1]), rfl⟩
 refine KGO ?_
 exact ⟨ret_bool (by simp [h1]), rfl⟩
end
end Go.Proofs.YtennokckmjcefaaGreatDoor
namespace Go.Proofs.YtennokckmjcefaaGreatDoor
open Go.Shelf Go.RowKit Go.Pw Go.Vc Go.Cs Go.Lib Go.Cd
section
variable {w : World} {b : Nat}
theorem zch (s : St) (h : VarK w b 145 (rdC s)) : Calls Tryz.prog 119 #[.pointer (some ⟨b, 0, none⟩)] w fun e w' => e = .returned (.tuple #[]) ∧ VarK w' b 145 (rdC none) ∧ Kp w w' (one_ b) := by
 obtain ⟨x, y, hc⟩ : ∃ x y, rdC s = [x, y] := by cases s <;> exact ⟨_, _, rfl⟩
 rw [hc] at h
 refine zaa (args := [.pointer (some ⟨b, 0, none⟩)]) Tryz.func119 rfl NL ?_; refine GW ?_
 refine KGO ?_
 refine Yd (i := 0) h (by simp) (by rfl) ⟨rfl, by simp, by simp⟩ fun w1 v1 k1 => ?_
 refine GW ?_
 refine Yd (i := 1) v1 (by simp) (by rfl) ⟨rfl, by simp, by simp⟩ fun w2 v2 k2 => ?_
 refine GW ?_
 exact ⟨rfl, v2, k1.trans' k2⟩
theorem ziK {u : List UInt8} {i : Nat} (h9 : 9 ≤ i) (hi : i ≤ u.length) (hb : ∀ c ∈ u.take i, 128 ≤ c.toNat) : numD 9 false u = none := by
 have h := zee (u.take 9) 9 false (u.drop 9) (fun c hc => hb c (by
  have : u.take 9 = (u.take i).take 9 := by rw [ybz, yaJ h9]
  rw [this] at hc; exact ybo hc)) (by rw [yar]; omega)
 rw [yaB, yar, yaJ OM] at h
 rw [h]; rfl
theorem zqY {u : List UInt8} {i : Nat} (h9 : i ≤ 8) (hlt : i < u.length) (hb : ∀ c ∈ u.take i, 128 ≤ c.toNat) (hn : u[i].toNat < 128) :
  numD 9 false u = if 0 < i ∧ u[i].toNat = 0 then none else some (valL (u.take (i + 1)), u.drop (i + 1)) := by
 have hpre := zee (u.take i) 9 false (u.drop i) hb (by rw [yar]; omega)
 rw [yaB, yar, yaJ OM] at hpre
 rw [hpre, yat hlt]
 obtain ⟨k, hk⟩ : ∃ k, 9 - i = k + 1 := ⟨8 - i, OM⟩
 rw [hk]
 simp only [numD, if_neg (show ¬ 128 ≤ u[i].toNat by omega), Bool.false_or, decide_eq_true_eq]
 split
 ·rfl
 simp only [ybn]
 have hva := zhL u[i] (u.take i)
 rw [← yad hlt, yar, yaJ OM] at hva
 congr 2
 rw [hva, Nat.mod_eq_of_lt hn, ycc]
theorem zmh {u : List UInt8} (hb : ∀ c ∈ u, 128 ≤ c.toNat) : numD 9 false u = none := by
 by_cases h9 : 9 ≤ u.length
 ·exact ziK h9 (yag _) (by rw [yaD]; exact hb)
 have hpre := zee u 9 false [] hb OM
 rw [yaA] at hpre
 rw [hpre]
 obtain ⟨k, hk⟩ : ∃ k, 9 - u.length = k + 1 := ⟨8 - u.length, OM⟩
 rw [hk]; rfl
theorem zin {d : List UInt8} {k : Nat} (h : k < d.length) : valL (d.drop k) = d[k].toNat % 128 + 128 * valL (d.drop (k + 1)) := by
 rw [yat h]; rfl
theorem zsM : ∀ q : Fin 256, IntKind.i64.wrap (IntKind.u8.wrap ↑(BitVec.ofInt IntKind.u8.bits ((q.val : Nat) : Int) &&& BitVec.ofInt IntKind.u8.bits 127).toNat) = ((q.val % 128 : Nat) : Int) := by decide +kernel
theorem zrw {q : Nat} (h : q < 256) : IntKind.i64.wrap (IntKind.u8.wrap ↑(BitVec.ofInt IntKind.u8.bits (q : Int) &&& BitVec.ofInt IntKind.u8.bits 127).toNat) = ((q % 128 : Nat) : Int) := zsM ⟨q, h⟩
theorem zbo (s : St) (h : VarK w b 145 (rdC s)) (hs : ∀ u, s = some u → u.length ≤ 140737488355328) :
  Calls Tryz.prog 59 #[.pointer (some ⟨b, 0, none⟩)] w fun e w' => e = .returned (.int .i64 ((numR s).1 : Nat)) ∧ VarK w' b 145 (rdC (numR s).2) ∧ Kp w w' (one_ b) := by
 obtain ⟨u, x, hc, hr, hux⟩ : ∃ u x, rdC s = [.string (str u), .bool x] ∧ (numR s = match numD 9 false u with | none => (0, none) | some (n, r) => (n, some r)) ∧ (s = none ∧ u = [] ∨ s = some u ∧ x = false) := by
  cases s with
  | none => exact ⟨[], true, rfl, rfl, .inl ⟨rfl, rfl⟩⟩
  | some u => exact ⟨u, false, rfl, rfl, .inr ⟨rfl, rfl⟩⟩
 have hul : u.length ≤ 140737488355328 := by
  rcases hux with ⟨_, rfl⟩ | ⟨e, _⟩
  ·simp
  exact hs u e
 rw [hr]
 have h0 := h
 rw [hc] at h
 have ha := h.at
 have hsz : (str u).size = u.length := rfl
 have hby : ∀ i (hi : i < u.length), (zaB (str u) i).toNat = u[i].toNat := fun i hi => by unfold zaB; simp [str, hi]
 refine zaa (args := [.pointer (some ⟨b, 0, none⟩)]) Tryz.func59 rfl NL ?_; refine GW ?_
 refine Yc (ι := Nat) (fun i => [(0, .pointer (some ⟨b, 0, none⟩)), (3, .int .i64 (i : Nat))])
  (fun i wr => Kp w wr n_ ∧ i ≤ u.length ∧ ∀ c ∈ u.take i, 128 ≤ c.toNat) (fun i => u.length - i) 0 FR ⟨Yb _ _, OM, by simp⟩ ?_
 rintro i g wr ⟨hK, hi, hb⟩
 refine GW ?_
 by_cases hlt : i < u.length
 ·have hbi := hby i hlt
  obtain ⟨c, hcu⟩ : ∃ c, u[i] = c := ⟨_, rfl⟩
  have hcl := c.toNat_lt
  rw [hcu] at hbi
  by_cases hbig : 128 ≤ c.toNat
  ·refine KGO ?_
   exact ⟨i + 1, FR, ⟨hK, OM, by
    rw [yad hlt]
    intro c' hc'
    rcases yaj.1 hc' with h' | h'
    ·exact hb c' h'
    rw [yac.1 h', hcu]; exact hbig⟩, DO⟩
  by_cases h8 : 8 < i
  ·have hend := ziK (u := u) (i := i) OM hi hb
   refine KGO ?_
   refine Ya (Tryz.call119 _ _) (zch s (h0.keep0 hK)) ?_
   rintro e w2 ⟨rfl, v2, k2⟩
   refine RT ?_
   rw [hend]
   exact ⟨rfl, v2, (hK.of_none (c := one_ b)).trans' k2⟩
  have hend := zqY OM hlt hb (by rw [hcu]; omega)
  rw [hcu] at hend
  by_cases hz : 0 < i ∧ c.toNat = 0
  ·rw [if_pos hz] at hend
   obtain ⟨hz1, hz2⟩ := hz
   refine KGO ?_
   refine Ya (Tryz.call119 _ _) (zch s (h0.keep0 hK)) ?_
   rintro e w2 ⟨rfl, v2, k2⟩
   refine RT ?_
   rw [hend]
   exact ⟨rfl, v2, (hK.of_none (c := one_ b)).trans' k2⟩
  rw [if_neg hz] at hend
  have hd : (u.take (i + 1)).length = i + 1 := by rw [yar]; omega
  obtain ⟨d, hde⟩ : ∃ d, u.take (i + 1) = d := ⟨_, rfl⟩
  have hdg : ∀ k (hk : k < d.length), u[k]'(by rw [← hde, yar] at hk; omega) = d[k] := fun k hk => by subst hde; simp
  rw [hde] at hd hend
  by_cases hi0 : 0 < i
  ·have hc0 : ¬ c.toNat = 0 := fun e => hz ⟨hi0, e⟩
   refine KGO ?_
   refine Yc (ι := Nat) (fun k => [(0, .pointer (some ⟨b, 0, none⟩)), (3, .int .i64 (i : Nat)), (4, .int .i64 (valL (d.drop k) : Nat)), (5, .int .i64 ((k : Int) - 1))])
    (fun k wr => Kp w wr n_ ∧ k ≤ i + 1) (fun k => k) (i + 1) ⟨rfl, rfl, v_int (by rw [ybD OM]; rfl), v_int OM, trivial⟩ ⟨hK, yag _⟩ ?_
   rintro k g wr ⟨hK, hk⟩
   refine GW ?_
   have hv8 := zhY (d.drop k)
   rw [yau] at hv8
   by_cases hk0 : 0 < k
   ·have hle8 : 128 ^ (d.length - k) ≤ 128 ^ 8 := Nat.pow_le_pow_right (by decide) OM
    have hstep := zin (d := d) (k := k - 1) OM
    rw [show k - 1 + 1 = k by omega] at hstep
    have hkl : k - 1 < u.length := OM
    have hbk := hby (k - 1) hkl
    rw [hdg (k - 1) OM] at hbk
    obtain ⟨e, he⟩ : ∃ e, d[k - 1]'OM = e := ⟨_, rfl⟩
    rw [he] at hbk hstep
    have hel := e.toNat_lt
    obtain ⟨v, hv⟩ : ∃ v, valL (d.drop k) = v := ⟨_, rfl⟩
    rw [hv] at hv8 hstep ⊢
    have hv72 : v < 72057594037927936 := OM
    have hidx : ((k : Int) - 1) = ((k - 1 : Nat) : Int) := OM
    rw [hidx]
    refine KGO ?_
    rw [hbk, zrw OM]
    refine KGO ?_
    exact ⟨k - 1, ⟨rfl, rfl, v_int (by rw [hstep]; omega), rfl, trivial⟩, ⟨hK, OM⟩, DO⟩
   have hk0 : k = 0 := OM
   subst hk0
   refine KGO ?_
   refine Cut.fromI (l := ((i : Nat) : Int) + 1) OM OM OM ?_
   refine GW ?_
   refine Yd (i := 0) (h.keep0 hK) (by simp) (by rfl) ⟨rfl, by simp, by simp⟩ fun w2 v2 k2 => ?_
   refine KGO ?_
   rw [hend]
   refine ⟨rfl, ?_, (hK.of_none (c := one_ b)).trans' k2⟩
   have e2 : (str u).extract ((i : Int) + 1).toNat (str u).size = str (u.drop (i + 1)) := by rw [hsz, show ((i : Int) + 1).toNat = i + 1 by omega]; exact zbc u _
   show VarK w2 b 145 [.string (str (u.drop (i + 1))), .bool false]
   rw [← e2]
   rcases hux with ⟨_, hu⟩ | ⟨_, hx0⟩
   ·rw [hu] at hlt; simp at hlt
   rw [hx0] at v2; exact v2
  refine KGO ?_
  refine Yc (ι := Nat) (fun k => [(0, .pointer (some ⟨b, 0, none⟩)), (3, .int .i64 (i : Nat)), (4, .int .i64 (valL (d.drop k) : Nat)), (5, .int .i64 ((k : Int) - 1))])
   (fun k wr => Kp w wr n_ ∧ k ≤ i + 1) (fun k => k) (i + 1) ⟨rfl, rfl, v_int (by rw [ybD OM]; rfl), v_int OM, trivial⟩ ⟨hK, yag _⟩ ?_
  rintro k g wr ⟨hK, hk⟩
  refine GW ?_
  have hv8 := zhY (d.drop k)
  rw [yau] at hv8
  by_cases hk0 : 0 < k
  ·have hle8 : 128 ^ (d.length - k) ≤ 128 ^ 8 := Nat.pow_le_pow_right (by decide) OM
   have hstep := zin (d := d) (k := k - 1) OM
   rw [show k - 1 + 1 = k by omega] at hstep
   have hkl : k - 1 < u.length := OM
   have hbk := hby (k - 1) hkl
   rw [hdg (k - 1) OM] at hbk
   obtain ⟨e, he⟩ : ∃ e, d[k - 1]'OM = e := ⟨_, rfl⟩
   rw [he] at hbk hstep
   have hel := e.toNat_lt
   obtain ⟨v, hv⟩ : ∃ v, valL (d.drop k) = v := ⟨_, rfl⟩
   rw [hv] at hv8 hstep ⊢
   have hv72 : v < 72057594037927936 := OM
   have hidx : ((k : Int) - 1) = ((k - 1 : Nat) : Int) := OM
   rw [hidx]
   refine KGO ?_
   rw [hbk, zrw OM]
   refine KGO ?_
   exact ⟨k - 1, ⟨rfl, rfl, v_int (by rw [hstep]; omega), rfl, trivial⟩, ⟨hK, OM⟩, DO⟩
  have hk0 : k = 0 := OM
  subst hk0
  refine KGO ?_
  refine Cut.fromI (l := ((i : Nat) : Int) + 1) OM OM OM ?_
  refine GW ?_
  refine Yd (i := 0) (h.keep0 hK) (by simp) (by rfl) ⟨rfl, by simp, by simp⟩ fun w2 v2 k2 => ?_
  refine KGO ?_
  rw [hend]
  refine ⟨rfl, ?_, (hK.of_none (c := one_ b)).trans' k2⟩
  have e2 : (str u).extract ((i : Int) + 1).toNat (str u).size = str (u.drop (i + 1)) := by rw [hsz, show ((i : Int) + 1).toNat = i + 1 by omega]; exact zbc u _
  show VarK w2 b 145 [.string (str (u.drop (i + 1))), .bool false]
  rw [← e2]
  rcases hux with ⟨_, hu⟩ | ⟨_, hx0⟩
  ·rw [hu] at hlt; simp at hlt
  rw [hx0] at v2; exact v2
 have hii : i = u.length := OM
 rw [hii, yaD] at hb
 have hend := zmh hb
 refine KGO ?_
 refine Ya (Tryz.call119 _ _) (zch s (h0.keep0 hK)) ?_
 rintro e w2 ⟨rfl, v2, k2⟩
 refine RT ?_
 rw [hend]
 exact ⟨rfl, v2, (hK.of_none (c := one_ b)).trans' k2⟩
end
abbrev byC (c : UInt8) : List Value := [.int .u8 c.toNat]
theorem zpt (l : List UInt8) : l.flatMap byC = Go.Lib.byteCells l := by
 induction l with
 | nil => rfl
 | cons c l ih => simp only [yao, ih]; rfl
theorem tyB : RowTy 91 5 byC 1 1 := ⟨Tryz.underlying91, ⟨_, zhZ, rfl⟩, by decide, fun _ => rfl, fun x u hu => by rw [yac.1 hu]; rfl⟩
theorem bs1B (c : UInt8) (w : World) : (Instr.buildSlice 91 1 [(0, .int .u8 c.toNat)].toArray).run Tryz.prog w = .ok (.slice (some ⟨w.heap.size, 0, none⟩) 1 1) (w.alloc (.cells (List.toArray (byC c)) 5)) := by
 simp [Instr.buildSlice, go_sem, Tryz.runUnderlying91, byC]
abbrev OwnB8 (w : World) (B : Nat) (v : Value) (l : List UInt8) : Prop := w.ownsRow B 5 1 v l.length (l.flatMap byC)
section
variable {w : World} {b : Nat}
theorem zbR (n : Nat) (hn : n < 2 ^ 63) : Calls Tryz.prog 72 #[.int .i64 n] w fun e w' => e = .returned (.string (str (numE n))) ∧ Kp w w' n_ := by
 refine zaa (args := [.int .i64 n]) Tryz.func72 rfl NL ?_; refine GW ?_
 refine KGO ?_
 refine Yc (ι := Nat × List UInt8 × Option Addr × Nat) (fun i => [(0, .int .i64 (i.1 : Nat)), (3, .slice i.2.2.1 i.2.1.length i.2.2.2)])
  (fun i wr => Kp w wr n_ ∧ OwnB8 wr w.heap.size (.slice i.2.2.1 i.2.1.length i.2.2.2) i.2.1 ∧ i.2.1 ++ numE i.1 = numE n ∧ i.1 < 2 ^ 63) (fun i => i.1) (n, [], none, 0) FR
  ⟨Yb _ _, World.ownsRow_nil _ _ _ _, rfl, hn⟩ ?_
 rintro ⟨m, pre, a, c⟩ g wr ⟨hK, ho, he, hm⟩
 dsimp only at ho he hm ⊢
 refine GW ?_
 have hlen := congrArg List.length he
 have hnl := zap hn
 have hml := zca m
 rw [yaa] at hlen
 by_cases hlt : 128 ≤ m
 ·refine KGO ?_
  rw [tmod_nat]
  refine KGO ?_
  rw [show ((m % 128 : Nat) : Int) + 128 = ((m % 128 + 128 : Nat) : Int) by omega, zhU OM]
  refine Ye (bs1B _ _) ?_
  have k4 : Kp wr (wr.alloc (.cells (List.toArray (byC (b8 (m % 128 + 128)))) 5)) n_ := (Yb _ _).alloc _
  have h4 := zdr wr 5 (byC (b8 (m % 128 + 128)))
  have o4 := own_keep0 ho k4
  generalize wr.alloc (.cells (List.toArray (byC (b8 (m % 128 + 128)))) 5) = w4 at *
  generalize wr.heap.size = g4 at *
  refine KGO ?_
  have K4 := hK.trans0 k4
  refine tyB.app1 (b8 (m % 128 + 128)) o4 K4.size h4 OM OM fun v5 w5 o5 k5 => ?_
  obtain ⟨a5, c5, rfl⟩ := zab o5
  have K5 := zav o4 k5 K4 (yag _)
  refine KGO ?_
  rw [zli]
  refine KGO ?_
  rw [zkX hlt hm] at he
  exact ⟨(m / 128, pre ++ [b8 (m % 128 + 128)], a5, c5), ⟨v_int (wrap_i64 OM OM), rfl, trivial⟩, ⟨K5, o5, by rw [← he]; simp, OM⟩, DO⟩
 refine KGO ?_
 rw [zhU OM]
 refine Ye (bs1B _ _) ?_
 have k4 : Kp wr (wr.alloc (.cells (List.toArray (byC (b8 m))) 5)) n_ := (Yb _ _).alloc _
 have h4 := zdr wr 5 (byC (b8 m))
 have o4 := own_keep0 ho k4
 generalize wr.alloc (.cells (List.toArray (byC (b8 m))) 5) = w4 at *
 generalize wr.heap.size = g4 at *
 refine KGO ?_
 have K4 := hK.trans0 k4
 refine tyB.app1 (b8 m) o4 K4.size h4 OM OM fun v5 w5 o5 k5 => ?_
 obtain ⟨a5, c5, rfl⟩ := zab o5
 have K5 := zav o4 k5 K4 (yag _)
 refine KGO ?_
 rw [zhc OM] at he
 rw [he] at o5 ⊢
 have o6 : w5.ownsRow w.heap.size 5 1 (.slice a5 (numE n).length c5) (numE n).length (Go.Lib.byteCells (numE n)) := by rw [← zpt]; exact o5
 refine RunV.str (l := numE n) Tryz.underlying91 Tryz.underlying5 Tryz.underlying9 o6 ?_
 refine KGO ?_
 exact ⟨rfl, K5⟩
theorem ziW (l : List Nat) {v : Value} (hv : RowI w v (iL l)) (hb : ∀ n ∈ l, n < 2 ^ 63) (hl : l.length ≤ 1000000) :
  Calls Tryz.prog 75 #[v] w fun e w' => e = .returned (.string (str (numsE l))) ∧ Kp w w' n_ := by
 obtain ⟨a, cap, rfl, hr⟩ := hv
 rw [zbl]
 refine zaa (args := [.slice a l.length cap]) Tryz.func75 rfl NL ?_; refine GW ?_
 refine KGO ?_
 refine Ya (Tryz.call72 _ _) (zbR l.length OM) ?_
 rintro e w1 ⟨rfl, k1⟩
 refine RT ?_
 have hln := zap (show l.length < 2 ^ 63 by omega)
 refine Yc (ι := Nat) (fun i => [(0, .slice a l.length cap), (3, .string (str (numE l.length ++ (l.take i).flatMap numE))), (4, .int .i64 (i : Nat))])
  (fun i wr => Kp w wr n_ ∧ i ≤ l.length) (fun i => l.length - i) 0 ⟨rfl, v_str (by simp), rfl, trivial⟩ ⟨k1, OM⟩ ?_
 rintro i g wr ⟨hK, hi⟩
 refine GW ?_
 by_cases hlt : i < l.length
 ·obtain ⟨gb, o, rfl, hgb, hat⟩ := hr (by rw [zbl]; omega)
  have hca := zaJ hat (by rw [zbl]; exact hlt)
  have hgi : (iL l)[i]'(by rw [zbl]; exact hlt) = ((l[i] : Nat) : Int) := by simp [iL]
  rw [hgi] at hca
  have hbi := hb l[i] (yak hlt)
  have hni := zap hbi
  have hfl := ziu (l.take i) (fun n hn => hb n (ybo hn))
  rw [yar] at hfl
  have hs1 : (str (numE l.length ++ (l.take i).flatMap numE)).size = (numE l.length).length + ((l.take i).flatMap numE).length := by rw [← yaa]; rfl
  have hs2 : (str (numE l[i])).size = (numE l[i]).length := rfl
  have hcat : str (numE l.length ++ (l.take i).flatMap numE) ++ str (numE l[i]) = str (numE l.length ++ (l.take (i + 1)).flatMap numE) := by
   rw [yad hlt, yaC, ← yap, ybN]
   exact (zdp _ _).symm
  obtain ⟨X, hX⟩ : ∃ X, str (numE l.length ++ (l.take i).flatMap numE) = X := ⟨_, rfl⟩
  rw [hX] at hs1 hcat ⊢
  refine KGO ?_
  refine Ya (Tryz.call72 _ _) (zbR l[i] hbi) ?_
  rintro e w3 ⟨rfl, k3⟩
  refine RT ?_
  refine Ym OM ?_
  refine KGO ?_
  rw [hcat]
  exact ⟨i + 1, FR, ⟨hK.trans0 k3, OM⟩, DO⟩
 have hnn : i = l.length := OM
 subst hnn
 refine KGO ?_
 refine ⟨?_, hK⟩
 rw [yaD]; rfl
theorem zml (s : ByteArray) (w : World) : (Instr.build 145 [(0, .string s)].toArray).run Tryz.prog w = .ok (.agg #[.string s, .bool false]) w := by
 simp [Instr.build, go_sem, Tryz.runUnderlying145]
theorem zfy (s : ByteArray) : Calls Tryz.prog 58 #[.string s] w fun e w' => e = .returned (.pointer (some ⟨w.heap.size, 0, none⟩)) ∧ VarK w' w.heap.size 145 (rdC (some (L s))) ∧ Kp w w' n_ := by
 refine zaa (args := [.string s]) Tryz.func58 rfl NL ?_; refine GW ?_
 refine Ye (zml s w) ?_
 refine GW ?_
 refine ⟨rfl, ?_, (Yb _ _).alloc _⟩
 exact Yk w 145 [.string s, .bool false]
theorem zdK (s : St) (h : VarK w b 145 (rdC s)) (hs : ∀ u, s = some u → u.length ≤ 140737488355328) : Calls Tryz.prog 64 #[.pointer (some ⟨b, 0, none⟩)] w fun e w' => e = .returned (.bool (decide (s = some []))) ∧ Kp w w' n_ := by
 cases s with
 | none =>
  have ha : At w b 0 [.string ⟨#[]⟩, .bool true] := h.at
  refine zaa (args := [.pointer (some ⟨b, 0, none⟩)]) Tryz.func64 rfl NL ?_; refine GW ?_
  refine KGO ?_
  exact ⟨rfl, Yb _ _⟩
 | some u =>
  have ha : At w b 0 [.string (str u), .bool false] := h.at
  have hsz : (str u).size = u.length := rfl
  refine zaa (args := [.pointer (some ⟨b, 0, none⟩)]) Tryz.func64 rfl NL ?_; refine GW ?_
  by_cases hu : u.length = 0
  ·refine KGO ?_
   refine ⟨ret_bool ?_, Yb _ _⟩
   rw [hsz, hu, yan hu]; rfl
  refine KGO ?_
  refine ⟨ret_bool ?_, Yb _ _⟩
  rw [hsz]
  have : u ≠ [] := fun e => hu (by rw [e]; rfl)
  simp [this, hu]
end
end Go.Proofs.YtennokckmjcefaaGreatDoor
