/- Helper lemmas that the proved statement rests on; no conditions of their own. -/
import Derived.Test.YtennokckmjcefaaGreatDoorGMh3
set_option linter.unusedVariables false
set_option maxHeartbeats 8000000
set_option maxRecDepth 100000
namespace Go.Proofs.YtennokckmjcefaaGreatDoor
open Go.Shelf Go.RowKit Go.Pw Go.Vc Go.Cs Go.Lib Go.Cd Go.Mg
section
variable {w : World}
theorem zla {g : Nat} {c0 : Value} (h : Sv) (s : Sgm) (field : Int) (p : List UInt8 → Bool) (hr : RdS w h s) (hb : Bd s 1000000 1000000 900000) (hE : CEnv w) (hg : ∀ (args : Array Value) (w : World), (callFunc g args).run Tryz.prog w = .ok (.enter g args) w)
  (hp : ∀ wd u, Kp w u n_ → Calls Tryz.prog g #[.string (str wd), c0] u fun e u' => e = .returned (.bool (p wd)) ∧ Kp u u' n_) :
  Calls Tryz.prog 108 #[.agg (sgC h).toArray, .int .i64 field, .func (.func g) #[] #[c0]] w fun e w' => ∃ v, e = .returned v ∧ OwnP w' w.heap.size v (lookS s field p) ∧ Kp w w' n_ := by
 have hr0 := hr
 obtain ⟨⟨at_, ct, et, hrt⟩, _, _, _⟩ := hr
 obtain ⟨⟨ta, tn, tc⟩, hd⟩ := h
 injection et with q1 q2 q3
 dsimp only at q1 q2 q3
 subst q1 q2 q3
 refine zaa (args := [.agg (sgC ⟨⟨ta, s.terms.length, tc⟩, hd⟩).toArray, .int .i64 field, .func (.func g) #[] #[c0]]) Tryz.func108 rfl NL ?_; refine GW ?_
 obtain ⟨a_b3, v_b3, k_w1, z_w1, r_w1⟩ := new5 w 65 (sgC ⟨⟨ta, s.terms.length, tc⟩, hd⟩)
 generalize w.alloc (.cells (List.toArray (sgC ⟨⟨ta, s.terms.length, tc⟩, hd⟩)) 65) = w1 at *
 generalize hs_b3 : w.heap.size = b3 at *
 refine KGO ?_
 refine CallS.of (Tryz.call116 _ _) (zfb (w := w1) ⟨⟨ta, s.terms.length, tc⟩, hd⟩ s (hr0.keep k_w1) (zli hb (by omega) (by omega) (by omega)) (hE.keep k_w1)) ?_
 rintro e w2 ⟨rfl, k2⟩
 have K2 := k_w1.trans0 k2
 have v2 := v_b3.keep0 k2
 unfold sgC at v2
 dsimp only at v2
 have a3 := v2.at
 have q2 := Kp.refl w2 n_
 clear a_b3 v_b3
 refine RT ?_
 unfold lookS
 cases hq : rightS s with
 | false =>
  refine KGO ?_
  exact ⟨_, rfl, zbp _ _, K2⟩
 | true =>
 rw [if_pos rfl]
 refine KGO ?_
 have htl := hb.t
 have hst : ∀ i (hi : i < s.terms.length), ((s.terms.take (i + 1)).filter fun t => (decide (field = 0) || decide (field = t.field)) && p t.word).foldl (fun o t => orP o (plT t)) [] = if ((decide (field = 0) || decide (field = s.terms[i].field)) && p s.terms[i].word) = true then orP (((s.terms.take i).filter fun t => (decide (field = 0) || decide (field = t.field)) && p t.word).foldl (fun o t => orP o (plT t)) []) (plT s.terms[i]) else ((s.terms.take i).filter fun t => (decide (field = 0) || decide (field = t.field)) && p t.word).foldl (fun o t => orP o (plT t)) [] := fun i hi => by
  rw [List.take_succ_eq_append_getElem hi, List.filter_append, List.foldl_append, List.filter_cons]
  split <;> rfl
 have hcn : ∀ i, cntP (((s.terms.take i).filter fun t => (decide (field = 0) || decide (field = t.field)) && p t.word).foldl (fun o t => orP o (plT t)) []) ≤ 900000000000 := fun i => by
  have h1 := zhn (c := 900000) ((s.terms.take i).filter fun t => (decide (field = 0) || decide (field = t.field)) && p t.word) [] 0 (by decide) (fun t ht => (hb.x t (List.mem_of_mem_take (List.mem_filter.1 ht).1)).2.2)
  have h2 : ((s.terms.take i).filter fun t => (decide (field = 0) || decide (field = t.field)) && p t.word).length ≤ 1000000 := Nat.le_trans (List.length_filter_le _ _) (by rw [List.length_take]; omega)
  have h3 := Nat.mul_le_mul_right 900000 h2
  omega
 refine Loop.intro (ι := Nat × Value) (fun i => [(1, .int .i64 field), (2, .func (.func g) #[] #[c0]), (6, i.2), (15, .slice ta s.terms.length tc), (16, .int .i64 (s.terms.length : Nat)), (17, .int .i64 (i.1 : Nat))])
  (fun i wr => Kp w wr n_ ∧ i.1 ≤ s.terms.length ∧ OwnP wr w.heap.size i.2 (((s.terms.take i.1).filter fun t => (decide (field = 0) || decide (field = t.field)) && p t.word).foldl (fun o t => orP o (plT t)) [])) (fun i => s.terms.length - i.1) (0, .slice none 0 0) ⟨rfl, rfl, rfl, rfl, rfl, rfl, trivial⟩ ⟨K2, Nat.zero_le _, zbp _ _⟩ ?_
 clear a3 q2 v2
 rintro ⟨i, vo⟩ gg wr ⟨hK, hi, ho⟩
 dsimp only at hi ho ⊢
 have hci := hcn i
 obtain ⟨ao, co, rfl⟩ := ho.shape
 have z0 := hK.size
 refine GW ?_
 by_cases hlt : i < s.terms.length
 rotate_left
 ·rw [List.take_of_length_le (by omega)] at ho ⊢
  refine KGO ?_
  exact ⟨_, rfl, ho.base (by omega), hK⟩
 obtain ⟨gt, ot, rfl, hgt, hat⟩ := hrt (by omega)
 have hx := hb.x _ (List.getElem_mem hlt)
 have hsti := hst i hlt
 generalize ((s.terms.take i).filter fun t => (decide (field = 0) || decide (field = t.field)) && p t.word).foldl (fun o t => orP o (plT t)) [] = OUT at *
 clear hst hcn hrt hr0
 refine KGO ?_
 refine Store.fresh (vs := tmC s.terms[i]) (by rfl) rfl (zar (by rfl)) ?_
 obtain ⟨a_b8, k_w3, z_w3⟩ := new3 wr 141 (tmC s.terms[i])
 generalize wr.alloc (.cells (List.toArray (tmC s.terms[i])) 141) = w3 at *
 generalize hs_b8 : wr.heap.size = b8 at *
 have K3 := hK.trans0 k_w3
 have o3 := ho.keep k_w3
 refine KGO ?_
 have hd1 : decide (field = 0) = (field == 0) := by by_cases h : field = 0 <;> simp [h]
 have tail : ∀ wz, Kp w3 wz n_ → OwnP wz w.heap.size (.slice ao OUT.length co) OUT := fun wz k => o3.keep k
 by_cases f0 : field = 0
 ·refine KGO ?_
  refine CallS.of (hg _ _) (hp s.terms[i].word w3 K3) ?_
  rintro e w4 ⟨rfl, k4⟩
  have K4 := K3.trans0 k4
  have o4 := tail w4 k4
  have a8 := zai a_b8 k4
  have q4 := Kp.refl w4 n_
  refine RT ?_
  cases hpw : p s.terms[i].word with
  | false =>
   refine KGO ?_
   exact ⟨(i + 1, .slice ao OUT.length co), ⟨rfl, rfl, rfl, rfl, rfl, v_int (by simp), trivial⟩, ⟨K4, by dsimp only; omega, by dsimp only; rw [hsti, decide_eq_true f0, hpw]; exact o4⟩, by dsimp only; omega⟩
  | true =>
   refine KGO ?_
   refine CallS.of (Tryz.call167 _ _) (zdG (w := w4) s.terms[i].list (by omega)) ?_
   rintro e w5 ⟨⟨vp, rfl, op, _⟩, k5⟩
   rw [show (decP s.terms[i].list).getD [] = plT s.terms[i] from rfl] at op
   obtain ⟨ap, cp, rfl⟩ := op.shape
   have o5 := o4.keep k5
   have K5 := K4.trans0 k5
   have hg1 := zbL OUT
   have hg2 := zbL (plT s.terms[i])
   have hx3 := hx.2.2
   unfold cntP at hx3 hci
   refine RT ?_
   refine KGO ?_
   refine CallS.of (Tryz.call125 _ _) (po_Or (w := w5) OUT (plT s.terms[i]) o5.row op.row (by omega) (by omega) (fun q hq => by have := zbt _ q hq; omega) (fun q hq => by have := zbt _ q hq; omega)) ?_
   rintro e w6 ⟨vo6, rfl, o6, k6⟩
   obtain ⟨a6, c6, rfl⟩ := o6.shape
   refine RT ?_
   refine KGO ?_
   exact ⟨(i + 1, .slice a6 (orP OUT (plT s.terms[i])).length c6), ⟨rfl, rfl, rfl, rfl, rfl, v_int (by simp), trivial⟩, ⟨K5.trans0 k6, by dsimp only; omega, by dsimp only; rw [hsti, decide_eq_true f0, hpw]; exact o6.base (by have := K5.size; omega)⟩, by dsimp only; omega⟩
 ·by_cases f1 : field = s.terms[i].field
  ·refine KGO ?_
   refine CallS.of (hg _ _) (hp s.terms[i].word w3 K3) ?_
   rintro e w4 ⟨rfl, k4⟩
   have K4 := K3.trans0 k4
   have o4 := tail w4 k4
   have a8 := zai a_b8 k4
   have q4 := Kp.refl w4 n_
   refine RT ?_
   cases hpw : p s.terms[i].word with
   | false =>
    refine KGO ?_
    exact ⟨(i + 1, .slice ao OUT.length co), ⟨rfl, rfl, rfl, rfl, rfl, v_int (by simp), trivial⟩, ⟨K4, by dsimp only; omega, by dsimp only; rw [hsti, decide_eq_false f0, decide_eq_true f1, hpw]; exact o4⟩, by dsimp only; omega⟩
   | true =>
    refine KGO ?_
    refine CallS.of (Tryz.call167 _ _) (zdG (w := w4) s.terms[i].list (by omega)) ?_
    rintro e w5 ⟨⟨vp, rfl, op, _⟩, k5⟩
    rw [show (decP s.terms[i].list).getD [] = plT s.terms[i] from rfl] at op
    obtain ⟨ap, cp, rfl⟩ := op.shape
    have o5 := o4.keep k5
    have K5 := K4.trans0 k5
    have hg1 := zbL OUT
    have hg2 := zbL (plT s.terms[i])
    have hx3 := hx.2.2
    unfold cntP at hx3 hci
    refine RT ?_
    refine KGO ?_
    refine CallS.of (Tryz.call125 _ _) (po_Or (w := w5) OUT (plT s.terms[i]) o5.row op.row (by omega) (by omega) (fun q hq => by have := zbt _ q hq; omega) (fun q hq => by have := zbt _ q hq; omega)) ?_
    rintro e w6 ⟨vo6, rfl, o6, k6⟩
    obtain ⟨a6, c6, rfl⟩ := o6.shape
    refine RT ?_
    refine KGO ?_
    exact ⟨(i + 1, .slice a6 (orP OUT (plT s.terms[i])).length c6), ⟨rfl, rfl, rfl, rfl, rfl, v_int (by simp), trivial⟩, ⟨K5.trans0 k6, by dsimp only; omega, by dsimp only; rw [hsti, decide_eq_false f0, decide_eq_true f1, hpw]; exact o6.base (by have := K5.size; omega)⟩, by dsimp only; omega⟩
  ·refine KGO ?_
   exact ⟨(i + 1, .slice ao OUT.length co), ⟨rfl, rfl, rfl, rfl, rfl, v_int (by simp), trivial⟩, ⟨K3, by dsimp only; omega, by dsimp only; rw [hsti, decide_eq_false f0, decide_eq_false f1]; exact o3⟩, by dsimp only; omega⟩
theorem lk_1 {b : Nat} (wd x : List UInt8) (hv : VarK w b 9 [.string (str x)]) : Calls Tryz.prog 109 #[.string (str wd), .pointer (some ⟨b, 0, none⟩)] w fun e w' => e = .returned (.bool (decide (wd = x))) ∧ Kp w w' n_ := by
 have a := hv.at
 have q := Kp.refl w n_
 refine zaa (args := [.string (str wd), .pointer (some ⟨b, 0, none⟩)]) Tryz.func109 rfl NL ?_; refine GW ?_
 refine KGO ?_
 exact ⟨zal (decide_eq_decide.2 zcD), Kp.refl _ _⟩
theorem px_1 {b : Nat} (wd x : List UInt8) (hv : VarK w b 9 [.string (str x)]) : Calls Tryz.prog 110 #[.string (str wd), .pointer (some ⟨b, 0, none⟩)] w fun e w' => e = .returned (.bool (hasPrefix wd x)) ∧ Kp w w' n_ := by
 have a := hv.at
 have q := Kp.refl w n_
 refine zaa (args := [.string (str wd), .pointer (some ⟨b, 0, none⟩)]) Tryz.func110 rfl NL ?_; refine GW ?_
 refine KGO ?_
 refine CallS.of (Tryz.call111 _ _) (zfo (str wd) (str x) w) ?_
 rintro e _ ⟨rfl, rfl⟩
 refine RT ?_
 exact ⟨rfl, Kp.refl _ _⟩
theorem zoR (h : Sv) (s : Sgm) (field : Int) (x : List UInt8) (hr : RdS w h s) (hb : Bd s 1000000 1000000 900000) (hE : CEnv w) :
  Calls Tryz.prog 43 #[.agg (sgC h).toArray, .int .i64 field, .string (str x)] w fun e w' => ∃ v, e = .returned v ∧ OwnP w' w.heap.size v (lookS s field (fun wd => decide (wd = x))) ∧ Kp w w' n_ := by
 refine zaa (args := [.agg (sgC h).toArray, .int .i64 field, .string (str x)]) Tryz.func43 rfl NL ?_; refine GW ?_
 obtain ⟨a_b3, v_b3, k_w1, z_w1, r_w1⟩ := new5 w 65 (sgC h)
 generalize w.alloc (.cells (List.toArray (sgC h)) 65) = w1 at *
 generalize hs_b3 : w.heap.size = b3 at *
 obtain ⟨a_b5, v_b5, k_w2, z_w2, r_w2⟩ := new5 w1 9 ([.string (str x)])
 generalize w1.alloc (.cells (List.toArray ([.string (str x)])) 9) = w2 at *
 generalize hs_b5 : w1.heap.size = b5 at *
 have a3 := zai a_b3 k_w2
 have K2 := k_w1.trans0 k_w2
 clear a_b3
 refine KGO ?_
 conv => arg 3; simp [ev, upd]
 have hcall := zla (w := w2) (g := 109) (c0 := .pointer (some ⟨b5, 0, none⟩)) h s field (fun wd => decide (wd = x)) (hr.keep K2) hb (hE.keep K2) (fun _ _ => rfl) (fun wd u k => lk_1 wd x (v_b5.keep0 k))
 refine CallS.of (Tryz.call108 _ _) hcall ?_
 rintro e w3 ⟨v, rfl, ov, k3⟩
 obtain ⟨a, c, rfl⟩ := ov.shape
 refine RT ?_
 refine KGO ?_
 exact ⟨_, rfl, ov.base (by omega), K2.trans0 k3⟩
theorem ziq (h : Sv) (s : Sgm) (field : Int) (x : List UInt8) (hr : RdS w h s) (hb : Bd s 1000000 1000000 900000) (hE : CEnv w) :
  Calls Tryz.prog 44 #[.agg (sgC h).toArray, .int .i64 field, .string (str x)] w fun e w' => ∃ v, e = .returned v ∧ OwnP w' w.heap.size v (lookS s field (fun wd => hasPrefix wd x)) ∧ Kp w w' n_ := by
 refine zaa (args := [.agg (sgC h).toArray, .int .i64 field, .string (str x)]) Tryz.func44 rfl NL ?_; refine GW ?_
 obtain ⟨a_b3, v_b3, k_w1, z_w1, r_w1⟩ := new5 w 65 (sgC h)
 generalize w.alloc (.cells (List.toArray (sgC h)) 65) = w1 at *
 generalize hs_b3 : w.heap.size = b3 at *
 obtain ⟨a_b5, v_b5, k_w2, z_w2, r_w2⟩ := new5 w1 9 ([.string (str x)])
 generalize w1.alloc (.cells (List.toArray ([.string (str x)])) 9) = w2 at *
 generalize hs_b5 : w1.heap.size = b5 at *
 have a3 := zai a_b3 k_w2
 have K2 := k_w1.trans0 k_w2
 clear a_b3
 refine KGO ?_
 conv => arg 3; simp [ev, upd]
 have hcall := zla (w := w2) (g := 110) (c0 := .pointer (some ⟨b5, 0, none⟩)) h s field (fun wd => hasPrefix wd x) (hr.keep K2) hb (hE.keep K2) (fun _ _ => rfl) (fun wd u k => px_1 wd x (v_b5.keep0 k))
 refine CallS.of (Tryz.call108 _ _) hcall ?_
 rintro e w3 ⟨v, rfl, ov, k3⟩
 obtain ⟨a, c, rfl⟩ := ov.shape
 refine RT ?_
 refine KGO ?_
 exact ⟨_, rfl, ov.base (by omega), K2.trans0 k3⟩
theorem pk_1 {b : Nat} {v : Value} (l : List Int) (k : Nat) (hv : VarK w b 40 [v]) (hr : RowI w v l) (hk : k < l.length) : Calls Tryz.prog 162 #[.int .i64 (k : Nat), .pointer (some ⟨b, 0, none⟩)] w fun e w' => e = .returned (.int .i64 (szI (l.getD k 0))) ∧ Kp w w' n_ := by
 obtain ⟨a, c, rfl, hra⟩ := hr
 obtain ⟨g, o, rfl, hg, hat⟩ := hra (by omega)
 have ck := zaY hat hk
 have av := hv.at
 have q := Kp.refl w n_
 refine zaa (args := [.int .i64 (k : Nat), .pointer (some ⟨b, 0, none⟩)]) Tryz.func162 rfl NL ?_; refine GW ?_
 refine KGO ?_
 exact ⟨by rw [List.getD_eq_getElem?_getD, List.getElem?_eq_getElem hk]; rfl, Kp.refl _ _⟩
theorem pk_2 {b : Nat} {v : Value} (l : List Int) (k : Nat) (q : Int) (hq : q = (k : Nat)) (hv : VarK w b 40 [v]) (hr : RowI w v l) (hk : k < l.length) : Calls Tryz.prog 162 #[.int .i64 q, .pointer (some ⟨b, 0, none⟩)] w fun e w' => e = .returned (.int .i64 (szI (l.getD k 0))) ∧ Kp w w' n_ := by
 subst hq
 exact pk_1 l k hv hr hk
theorem zdf (n : Int) : 0 ≤ szI n ∧ szI n ≤ 1099511627776 := by unfold szI; omega
theorem zsd {v : Value} (l : List Int) (hr : RowI w v l) (hl : l.length ≤ 1000000) : Calls Tryz.prog 94 #[v] w fun e w' => e = .returned (.tuple (match pickL l with | none => #[.int .i64 0, .int .i64 0, .bool false] | some i => #[.int .i64 (i : Nat), .int .i64 ((i + 1 : Nat) : Int), .bool true])) ∧ Kp w w' n_ := by
 have hr0 := hr
 obtain ⟨a, c, rfl, hra⟩ := hr
 refine zaa (args := [.slice a l.length c]) Tryz.func94 rfl NL ?_; refine GW ?_
 obtain ⟨a_b1, v_b1, k_w1, z_w1, r_w1⟩ := new5 w 40 ([.slice a l.length c])
 generalize w.alloc (.cells (List.toArray ([.slice a l.length c])) 40) = w1 at *
 generalize hs_b1 : w.heap.size = b1 at *
 refine KGO ?_
 refine Loop.intro (ι := Nat) (fun i => [(1, .pointer (some ⟨b1, 0, none⟩)), (5, .func (.func 162) #[] #[.pointer (some ⟨b1, 0, none⟩)]), (6, .int .i64 (bestI ((List.range i).foldl (stepPick l) none))), (7, .int .i64 (i : Nat))])
  (fun i wr => Kp w1 wr n_ ∧ i ≤ l.length - 1) (fun i => l.length - i) 0 ⟨rfl, by simp [upd], rfl, rfl, trivial⟩ ⟨Kp.refl _ _, Nat.zero_le _⟩ ?_
 rintro i gg wr ⟨hK, hi⟩
 have Kw := k_w1.trans0 hK
 have vr := v_b1.keep0 hK
 have ar := vr.at
 have q0 := Kp.refl wr n_
 have hstep : (List.range (i + 1)).foldl (stepPick l) none = stepPick l ((List.range i).foldl (stepPick l) none) i := by rw [List.range_succ, List.foldl_append]; rfl
 have hlo := zjn l i
 generalize hO : (List.range i).foldl (stepPick l) none = o at *
 refine GW ?_
 by_cases hlt : i + 1 < l.length
 rotate_left
 ·have hil : i = l.length - 1 := by omega
  have hpk : pickL l = o := by unfold pickL; rw [← hil]; exact hO
  rw [hpk]
  clear hra a_b1 hO
  cases o with
  | none =>
   have e0 : bestI none = -1 := rfl
   clear hlo
   rw [e0]
   refine KGO ?_
   exact ⟨rfl, Kw⟩
  | some b =>
   have e0 : bestI (some b) = (b : Nat) := rfl
   have hb := hlo b rfl
   clear hlo
   rw [e0]
   refine KGO ?_
   exact ⟨rfl, Kw⟩
 have sr1 := zdf (l.getD i 0)
 have sr2 := zdf (l.getD (i + 1) 0)
 clear hra a_b1 hO
 by_cases h8 : l.length ≤ 8
 ·refine KGO ?_
  refine CallS.of (Tryz.call162 _ _) (pk_2 (w := wr) l i _ rfl vr (hr0.keep Kw) (by omega)) ?_
  rintro e w2 ⟨rfl, k2⟩
  refine RT ?_
  refine KGO ?_
  refine CallS.of (Tryz.call162 _ _) (pk_2 (w := w2) l (i + 1) _ (by simp) (vr.keep0 k2) (hr0.keep (Kw.trans0 k2)) (by omega)) ?_
  rintro e w3 ⟨rfl, k3⟩
  have K3 := k2.trans0 k3
  refine RT ?_
  by_cases hs : szI (l.getD i 0) > 2 * szI (l.getD (i + 1) 0)
  ·refine KGO ?_
   exact ⟨i + 1, ⟨rfl, rfl, by rw [hstep]; unfold stepPick; rw [if_pos ⟨h8, hs⟩]; rfl, v_int (by simp), trivial⟩, ⟨hK.trans0 K3, by omega⟩, by dsimp only; omega⟩
  ·refine KGO ?_
   have hns : ¬(l.length ≤ 8 ∧ szI (l.getD i 0) > 2 * szI (l.getD (i + 1) 0)) := fun h => hs h.2
   cases o with
   | none =>
    have e0 : bestI none = -1 := rfl
    rw [e0]
    refine KGO ?_
    exact ⟨i + 1, ⟨rfl, rfl, by rw [hstep]; unfold stepPick; rw [if_neg hns]; rfl, v_int (by simp), trivial⟩, ⟨hK.trans0 K3, by omega⟩, by dsimp only; omega⟩
   | some b =>
    have e0 : bestI (some b) = (b : Nat) := rfl
    have hbi := hlo b rfl
    rw [e0]
    clear ar
    have ar := (vr.keep0 K3).at
    refine KGO ?_
    refine CallS.of (Tryz.call162 _ _) (pk_2 (w := w3) l i _ rfl (vr.keep0 K3) (hr0.keep (Kw.trans0 K3)) (by omega)) ?_
    rintro e w4 ⟨rfl, k4⟩
    have K4 := Kp.trans0 K3 k4
    refine RT ?_
    refine KGO ?_
    refine CallS.of (Tryz.call162 _ _) (pk_2 (w := w4) l (i + 1) _ (by simp) (vr.keep0 K4) (hr0.keep (Kw.trans0 K4)) (by omega)) ?_
    rintro e w5 ⟨rfl, k5⟩
    have K5 := K4.trans0 k5
    refine RT ?_
    refine KGO ?_
    refine CallS.of (Tryz.call162 _ _) (pk_2 (w := w5) l b _ rfl (vr.keep0 K5) (hr0.keep (Kw.trans0 K5)) (by omega)) ?_
    rintro e w6 ⟨rfl, k6⟩
    have K6 := K5.trans0 k6
    refine RT ?_
    refine KGO ?_
    refine CallS.of (Tryz.call162 _ _) (pk_2 (w := w6) l (b + 1) _ (by simp) (vr.keep0 K6) (hr0.keep (Kw.trans0 K6)) (by omega)) ?_
    rintro e w7 ⟨rfl, k7⟩
    have K7 := K6.trans0 k7
    have sr3 := zdf (l.getD b 0)
    have sr4 := zdf (l.getD (b + 1) 0)
    refine RT ?_
    by_cases hlt2 : szI (l.getD i 0) + szI (l.getD (i + 1) 0) < szI (l.getD b 0) + szI (l.getD (b + 1) 0)
    ·refine KGO ?_
     exact ⟨i + 1, ⟨rfl, rfl, by rw [hstep]; unfold stepPick; rw [if_neg hns]; unfold sz2; dsimp only; rw [if_pos hlt2]; rfl, v_int (by simp), trivial⟩, ⟨hK.trans0 K7, by omega⟩, by dsimp only; omega⟩
    ·refine KGO ?_
     exact ⟨i + 1, ⟨rfl, rfl, by rw [hstep]; unfold stepPick; rw [if_neg hns]; unfold sz2; dsimp only; rw [if_neg hlt2]; rfl, v_int (by simp), trivial⟩, ⟨hK.trans0 K7, by omega⟩, by dsimp only; omega⟩
 ·refine KGO ?_
  have hns : ¬(l.length ≤ 8 ∧ szI (l.getD i 0) > 2 * szI (l.getD (i + 1) 0)) := fun h => h8 h.1
  have K3 := Kp.refl wr n_
  cases o with
  | none =>
   have e0 : bestI none = -1 := rfl
   rw [e0]
   refine KGO ?_
   exact ⟨i + 1, ⟨rfl, rfl, by rw [hstep]; unfold stepPick; rw [if_neg hns]; rfl, v_int (by simp), trivial⟩, ⟨hK.trans0 K3, by omega⟩, by dsimp only; omega⟩
  | some b =>
   have e0 : bestI (some b) = (b : Nat) := rfl
   have hbi := hlo b rfl
   rw [e0]
   clear ar
   have ar := (vr.keep0 K3).at
   refine KGO ?_
   refine CallS.of (Tryz.call162 _ _) (pk_2 (w := wr) l i _ rfl (vr.keep0 K3) (hr0.keep (Kw.trans0 K3)) (by omega)) ?_
   rintro e w4 ⟨rfl, k4⟩
   have K4 := Kp.trans0 K3 k4
   refine RT ?_
   refine KGO ?_
   refine CallS.of (Tryz.call162 _ _) (pk_2 (w := w4) l (i + 1) _ (by simp) (vr.keep0 K4) (hr0.keep (Kw.trans0 K4)) (by omega)) ?_
   rintro e w5 ⟨rfl, k5⟩
   have K5 := K4.trans0 k5
   refine RT ?_
   refine KGO ?_
   refine CallS.of (Tryz.call162 _ _) (pk_2 (w := w5) l b _ rfl (vr.keep0 K5) (hr0.keep (Kw.trans0 K5)) (by omega)) ?_
   rintro e w6 ⟨rfl, k6⟩
   have K6 := K5.trans0 k6
   refine RT ?_
   refine KGO ?_
   refine CallS.of (Tryz.call162 _ _) (pk_2 (w := w6) l (b + 1) _ (by simp) (vr.keep0 K6) (hr0.keep (Kw.trans0 K6)) (by omega)) ?_
   rintro e w7 ⟨rfl, k7⟩
   have K7 := K6.trans0 k7
   have sr3 := zdf (l.getD b 0)
   have sr4 := zdf (l.getD (b + 1) 0)
   refine RT ?_
   by_cases hlt2 : szI (l.getD i 0) + szI (l.getD (i + 1) 0) < szI (l.getD b 0) + szI (l.getD (b + 1) 0)
   ·refine KGO ?_
    exact ⟨i + 1, ⟨rfl, rfl, by rw [hstep]; unfold stepPick; rw [if_neg hns]; unfold sz2; dsimp only; rw [if_pos hlt2]; rfl, v_int (by simp), trivial⟩, ⟨hK.trans0 K7, by omega⟩, by dsimp only; omega⟩
   ·refine KGO ?_
    exact ⟨i + 1, ⟨rfl, rfl, by rw [hstep]; unfold stepPick; rw [if_neg hns]; unfold sz2; dsimp only; rw [if_neg hlt2]; rfl, v_int (by simp), trivial⟩, ⟨hK.trans0 K7, by omega⟩, by dsimp only; omega⟩
end
def withGo (n : Int) : List Int → Bool → List Int
 | [], d => if d = true then [] else [n]
 | x :: r, d => if d = false ∧ n ≤ x then (if x = n then n :: withGo n r true else n :: x :: withGo n r true) else (if x = n then withGo n r d else x :: withGo n r d)
def withL (l : List Int) (n : Int) : List Int := withGo n l false
section
end
section
end
end Go.Proofs.YtennokckmjcefaaGreatDoor
namespace Go.Proofs.YtennokckmjcefaaGreatDoor
open Go.Shelf Go.RowKit Go.Pw Go.Vc Go.Cs Go.Lib Go.Cd
section
end
section
end
section
end
end Go.Proofs.YtennokckmjcefaaGreatDoor
namespace Go.Proofs.YtennokckmjcefaaGreatDoor
open Go.RowKit Go.Pw Go.Vc Go.Cs Go.Lib
section
end
section
end
end Go.Proofs.YtennokckmjcefaaGreatDoor
namespace Go.Proofs.YtennokckmjcefaaGreatDoor
open Go.Shelf Go.RowKit Go.Pw Go.Vc Go.Cs Go.Lib Go.Cd Go.Mg
section
end
section
end
section
end
section
end
section
variable {w : World}
theorem zjo (p q : Pst) : p = q ↔ p.doc = q.doc ∧ p.places = q.places := by
 obtain ⟨a, b⟩ := p
 obtain ⟨c, d⟩ := q
 simp
theorem ziW {va vb : Value} (la lb : List Pst) (ha : RowP w va la) (hb : RowP w vb lb) (hl : la.length ≤ 10000000) (hl2 : lb.length ≤ 10000000) (hp1 : ∀ p ∈ la, p.places.length ≤ 1000000) (hp2 : ∀ p ∈ lb, p.places.length ≤ 1000000) :
  Calls Tryz.prog 23 #[va, vb] w fun e w' => e = .returned (.bool (decide (la = lb))) ∧ Kp w w' n_ := by
 obtain ⟨lx, rfl, ⟨⟨aa, ca, rfl, hra⟩, hpa, _, _⟩⟩ := ha
 obtain ⟨ly, rfl, ⟨⟨ab, cb, rfl, hrb⟩, hpb, _, _⟩⟩ := hb
 rw [List.length_map] at hl hl2
 have hp1 : ∀ x ∈ lx, x.p.places.length ≤ 1000000 := fun x hx => hp1 x.p (List.mem_map_of_mem hx)
 have hp2 : ∀ x ∈ ly, x.p.places.length ≤ 1000000 := fun x hx => hp2 x.p (List.mem_map_of_mem hx)
 refine zaa (args := [.slice aa lx.length ca, .slice ab ly.length cb]) Tryz.func23 rfl NL ?_; refine GW ?_
 by_cases hn : lx.length = ly.length
 rotate_left
 ·refine KGO ?_
  exact ⟨zal (decide_eq_false fun h => hn (by have := congrArg List.length h; rwa [List.length_map, List.length_map] at this)).symm, Kp.refl _ _⟩
 refine KGO ?_
 refine Loop.intro (ι := Nat) (fun i => [(0, .slice aa lx.length ca), (1, .slice ab ly.length cb), (5, .int .i64 (i : Nat))])
  (fun i wr => Kp w wr n_ ∧ i ≤ lx.length ∧ (lx.map (·.p)).take i = (ly.map (·.p)).take i) (fun i => lx.length - i) 0 ⟨rfl, rfl, rfl, trivial⟩ ⟨Kp.refl _ _, Nat.zero_le _, rfl⟩ ?_
 rintro i gg wr ⟨hK, hi, ht⟩
 refine GW ?_
 by_cases hlt : i < lx.length
 rotate_left
 ·refine KGO ?_
  rw [List.take_of_length_le (by rw [List.length_map]; omega), List.take_of_length_le (by rw [List.length_map]; omega)] at ht
  exact ⟨zal (decide_eq_true ht).symm, hK⟩
 have hlt2 : i < ly.length := by omega
 obtain ⟨ga, oa, rfl, hga, hata⟩ := hra (by omega)
 obtain ⟨gb, ob, rfl, hgb, hatb⟩ := hrb (by omega)
 have hne : lx[i].p ≠ ly[i].p → ¬ lx.map (·.p) = ly.map (·.p) := fun h e => h (by
  have h1 : (lx.map (·.p))[i]? = (ly.map (·.p))[i]? := by rw [e]
  rw [List.getElem?_map, List.getElem?_map, List.getElem?_eq_getElem hlt, List.getElem?_eq_getElem hlt2] at h1
  simpa using h1)
 have hxi := hpa _ (List.getElem_mem hlt)
 have hyi := hpb _ (List.getElem_mem hlt2)
 clear hra hrb
 refine KGO ?_
 have hcall := zfr (w := wr.drew) lx[i].p.places ly[i].p.places (hxi.keep hK.drew) (hyi.keep hK.drew) (hp1 _ (List.getElem_mem hlt)) (hp2 _ (List.getElem_mem hlt2))
 refine CallS.of (Tryz.call36 _ _) hcall ?_
 rintro e w3 ⟨rfl, k3⟩
 have K3 := hK.drew.trans0 k3
 refine RT ?_
 by_cases hd : lx[i].p.doc = ly[i].p.doc
 ·by_cases hq : lx[i].p.places = ly[i].p.places
  ·rw [decide_eq_true hq]
   refine KGO ?_
   exact ⟨i + 1, ⟨rfl, rfl, v_int (by simp), trivial⟩, ⟨K3.drew, by omega, by
    have e : lx[i].p = ly[i].p := (zjo _ _).2 ⟨hd, hq⟩
    rw [List.take_succ_eq_append_getElem (by rw [List.length_map]; exact hlt), List.take_succ_eq_append_getElem (by rw [List.length_map]; exact hlt2), ht, List.getElem_map, List.getElem_map, e]⟩, by dsimp only; omega⟩
  ·rw [decide_eq_false hq]
   refine KGO ?_
   exact ⟨zal (decide_eq_false (hne fun h => hq ((zjo _ _).1 h).2)).symm, K3.drew⟩
 ·refine KGO ?_
  exact ⟨zal (decide_eq_false (hne fun h => hd ((zjo _ _).1 h).1)).symm, K3.drew⟩
end
section
end
section
end
section
end
theorem zds (n : Int) : ∀ l : List Int, (∀ x ∈ l, n < x) → withGo n l true = l
 | [], _ => rfl
 | x :: r, h => by
  have hx := h x List.mem_cons_self
  rw [withGo, if_neg (by simp), if_neg (by omega), zds n r fun y hy => h y (List.mem_cons_of_mem _ hy)]
theorem zdY (n : Int) : ∀ l : List Int, l.Pairwise (· < ·) → ∀ y, y ∈ withL l n ↔ y = n ∨ y ∈ l
 | [], _, y => by simp [withL, withGo]
 | x :: r, h, y => by
  rw [List.pairwise_cons] at h
  have ih := zdY n r h.2 y
  unfold withL at ih ⊢
  rw [withGo]
  by_cases h1 : n ≤ x
  ·rw [if_pos ⟨rfl, h1⟩, zds n r fun z hz => by have := h.1 z hz; omega]
   by_cases h2 : x = n
   ·rw [if_pos h2]; simp [h2]
   ·rw [if_neg h2]; simp
  ·rw [if_neg (fun e => h1 e.2), if_neg (by omega), List.mem_cons, ih, List.mem_cons]
   constructor <;> (intro e; rcases e with e | e | e <;> simp [e])
theorem zfI (n : Int) : ∀ l : List Int, l.Pairwise (· < ·) → (withL l n).Pairwise (· < ·)
 | [], _ => by simp [withL, withGo]
 | x :: r, h => by
  have hc := List.pairwise_cons.1 h
  have ih := zfI n r hc.2
  have hm := zdY n r hc.2
  unfold withL at ih hm ⊢
  rw [withGo]
  by_cases h1 : n ≤ x
  ·have ht := zds n r fun z hz => by have := hc.1 z hz; omega
   rw [if_pos ⟨rfl, h1⟩, ht]
   by_cases h2 : x = n
   ·rw [if_pos h2, ← h2]; exact h
   ·rw [if_neg h2, List.pairwise_cons]
    refine ⟨fun z hz => ?_, h⟩
    rcases List.mem_cons.1 hz with rfl | hz
    ·omega
    ·have := hc.1 z hz; omega
  ·rw [if_neg (fun e => h1 e.2), if_neg (by omega), List.pairwise_cons]
   refine ⟨fun z hz => ?_, ih⟩
   rcases (hm z).1 hz with rfl | hz
   ·omega
   ·exact hc.1 z hz
theorem zjT {l : List Int} : AscB ltI l ↔ l.Pairwise (· < ·) := by
 unfold AscB
 simp only [ltI, decide_eq_true_eq]
theorem zhu {l : List Pst} (h : rightP l = true) (d : Int) : d ∈ l.map (·.doc) ↔ atD l d ≠ [] := by
 constructor
 ·intro hm
  obtain ⟨p, hp, rfl⟩ := List.mem_map.1 hm
  rw [zcM (zbg h) hp]
  exact ((zaA.1 h).2 p hp).2.2.1
 ·intro hn
  obtain ⟨p, hp, e, _⟩ := zoo hn
  exact List.mem_map.2 ⟨p, hp, e⟩
def postsT (l : List Trm) (k : Int × List UInt8) : List Pst := match l.find? (fun t => decide (t.key = k)) with | some t => plT t | none => []
theorem zaF (x : Trm) (l : List Trm) (k : Int × List UInt8) : postsT (x :: l) k = if x.key = k then plT x else postsT l k := by
 unfold postsT
 rw [List.find?_cons]
 by_cases h : x.key = k
 ·rw [if_pos h, decide_eq_true h]
 ·rw [if_neg h, decide_eq_false h]
theorem zgt {l : List Trm} {k : Int × List UInt8} (h : ∀ t ∈ l, ltK k t.key = true) : postsT l k = [] := by
 unfold postsT
 rw [List.find?_eq_none.2 fun t ht => ?_]
 have := h t ht
 simp only [decide_eq_true_eq]
 intro e
 rw [e, stoK.irr] at this; cases this
def AscK (l : List Trm) : Prop := l.Pairwise fun a b => ltK a.key b.key = true
theorem merge_mem : ∀ (n : Nat) (a b : List Trm), a.length + b.length ≤ n → ∀ z ∈ mergeT a b, (∃ t ∈ a, t.key = z.1.key) ∨ ∃ t ∈ b, t.key = z.1.key := by
 intro n a b _ z hz
 obtain ⟨⟨o1, o2⟩, hm, rfl⟩ := List.mem_map.1 hz
 obtain ⟨h1, h2, h3⟩ := (zaP cmpT a b).1 _ hm
 dsimp only at h1 h2 h3
 cases o2 with
 | some t => exact .inr ⟨t, h3 t rfl, by cases o1 <;> rfl⟩
 | none =>
  cases o1 with
  | none => simp at h1
  | some s => exact .inl ⟨s, h2 s rfl, rfl⟩
theorem zbk : ∀ (n : Nat) (a b : List Trm), a.length + b.length ≤ n → AscK a → AscK b → ∀ z ∈ mergeT a b, z.2 = orP (postsT a z.1.key) (postsT b z.1.key)
 | _, [], [], _, _, _, z, hz => by rw [zcz] at hz; cases hz
 | 0, x :: a, b, h, _, _, _, _ => by simp at h
 | 0, [], y :: b, h, _, _, _, _ => by simp at h
 | n + 1, x :: a, [], h, ha, hb, z, hz => by
  have hc := List.pairwise_cons.1 ha
  rw [zbZ] at hz
  rcases List.mem_cons.1 hz with rfl | hz
  ·rw [zaF, if_pos rfl]; rfl
  ·have hl : a.length + ([] : List Trm).length ≤ n := by simp at h ⊢; omega
   have ih := zbk n a [] hl hc.2 hb z hz
   rw [zaF, if_neg, ih]
   intro e
   rcases merge_mem n a [] hl z hz with ⟨t, ht, e2⟩ | ⟨t, ht, _⟩
   ·have := hc.1 t ht
    rw [e2, e, stoK.irr] at this; cases this
   ·cases ht
 | n + 1, [], y :: b, h, ha, hb, z, hz => by
  have hc := List.pairwise_cons.1 hb
  rw [zcA] at hz
  rcases List.mem_cons.1 hz with rfl | hz
  ·rw [zaF, if_pos rfl]; rfl
  ·have hl : ([] : List Trm).length + b.length ≤ n := by simp at h ⊢; omega
   have ih := zbk n [] b hl ha hc.2 z hz
   rw [zaF, if_neg, ih]
   intro e
   rcases merge_mem n [] b hl z hz with ⟨t, ht, _⟩ | ⟨t, ht, e2⟩
   ·cases ht
   ·have := hc.1 t ht
    rw [e2, e, stoK.irr] at this; cases this
 | n + 1, x :: a, y :: b, h, ha, hb, z, hz => by
  have hca := List.pairwise_cons.1 ha
  have hcb := List.pairwise_cons.1 hb
  have l1 := zfk x y
  have l2 := zjI x y
  simp only [List.length_cons] at h
  rw [zbW] at hz
  by_cases h1 : cmpT x y < 0
  ·rw [if_pos h1] at hz
   have hxy := l1.1 h1
   have hyb : ∀ t ∈ y :: b, ltK x.key t.key = true := fun t ht => by
    rcases List.mem_cons.1 ht with rfl | ht
    ·exact hxy
    ·exact stoK.tr _ _ _ hxy (hcb.1 t ht)
   rcases List.mem_cons.1 hz with rfl | hz
   ·rw [zgt hyb, zaF, if_pos rfl]
   ·have hl : a.length + (y :: b).length ≤ n := by rw [List.length_cons]; omega
    have ih := zbk n a (y :: b) hl hca.2 hb z hz
    rw [zaF x, if_neg, ih]
    intro e
    rcases merge_mem n a (y :: b) hl z hz with ⟨t, ht, e2⟩ | ⟨t, ht, e2⟩
    ·have := hca.1 t ht
     rw [e2, e, stoK.irr] at this; cases this
    ·have := hyb t ht
     rw [e2, e, stoK.irr] at this; cases this
  ·rw [if_neg h1] at hz
   by_cases h2 : cmpT x y = 0
   ·rw [if_pos h2] at hz
    have he := l2.1 h2
    rcases List.mem_cons.1 hz with rfl | hz
    ·rw [zaF, if_pos he, zaF, if_pos rfl]
    ·have hl : a.length + b.length ≤ n := by omega
     have ih := zbk n a b hl hca.2 hcb.2 z hz
     have hne : ¬ y.key = z.1.key := fun e => by
      rcases merge_mem n a b hl z hz with ⟨t, ht, e2⟩ | ⟨t, ht, e2⟩
      ·have := hca.1 t ht
       rw [e2, he, e, stoK.irr] at this; cases this
      ·have := hcb.1 t ht
       rw [e2, e, stoK.irr] at this; cases this
     rw [zaF x, if_neg (by rw [he]; exact hne), zaF y, if_neg hne, ih]
   ·rw [if_neg h2] at hz
    have hyx : ltK y.key x.key = true := by
     cases hk : ltK y.key x.key with
     | true => rfl
     | false => exact absurd (l2.2 (stoK.tri _ _ (by cases hq : ltK x.key y.key with | false => rfl | true => exact absurd (l1.2 hq) h1) hk)) h2
    have hxa : ∀ t ∈ x :: a, ltK y.key t.key = true := fun t ht => by
     rcases List.mem_cons.1 ht with rfl | ht
     ·exact hyx
     ·exact stoK.tr _ _ _ hyx (hca.1 t ht)
    rcases List.mem_cons.1 hz with rfl | hz
    ·rw [zgt hxa, zaF, if_pos rfl]
    ·have hl : (x :: a).length + b.length ≤ n := by rw [List.length_cons]; omega
     have ih := zbk n (x :: a) b hl ha hcb.2 z hz
     rw [zaF y, if_neg, ih]
     intro e
     rcases merge_mem n (x :: a) b hl z hz with ⟨t, ht, e2⟩ | ⟨t, ht, e2⟩
     ·have := hxa t ht
      rw [e2, e, stoK.irr] at this; cases this
     ·have := hcb.1 t ht
      rw [e2, e, stoK.irr] at this; cases this
theorem zcm (t : Trm) : rightP (plT t) = true := by
 unfold plT
 cases h : decP t.list with
 | none => rfl
 | some l => exact (zcV.1 h).1
theorem zaK (l : List Trm) (k : Int × List UInt8) : rightP (postsT l k) = true := by
 unfold postsT
 cases l.find? fun t => decide (t.key = k) with
 | none => rfl
 | some t => exact zcm t
theorem zcN (s : Sgm) : rightS (validS s) = true := by
 unfold validS
 cases h : rightS s with
 | true => rw [if_pos rfl]; exact h
 | false => rw [if_neg (by decide)]; rfl
theorem zdq {x y : List Int} (hx : AscB ltI x) (hy : AscB ltI y) : AscB ltI (unI x y) := (zde _ x y (Nat.le_refl _) hx hy).1
theorem zmx {x y z : List Int} (hx : AscB ltI x) (hy : AscB ltI y) (hz : AscB ltI z) : unI (unI x y) z = unI x (unI y z) :=
 zbu stoI _ _ (zdq (zdq hx hy) hz) (zdq hx (zdq hy hz)) fun w => by
  rw [zcj (zdq hx hy) hz, zcj hx hy, zcj hx (zdq hy hz), zcj hy hz, or_assoc]
theorem zcW {docs : List Int} {t : Trm} (h : okTerm docs t = true) : plT t ≠ [] ∧ t.list = encP (plT t) := by
 unfold okTerm at h
 rw [Bool.and_eq_true] at h
 have h := h.2
 unfold okList at h
 unfold plT
 cases hd : decP t.list with
 | none => rw [hd] at h; cases h
 | some l =>
  rw [hd] at h
  refine ⟨fun e => ?_, (zcV.1 hd).2.symm⟩
  have e : l = [] := e
  rw [e] at h
  simp at h
theorem zdH {x y : Int × List UInt8} (h : ltK x y = true) : x ≠ y := fun e => by
 rw [e, stoK.irr] at h; cases h
theorem zhX : ∀ a b : List Trm, AscK a → AscK b → (∀ t, t ∈ a ↔ t ∈ b) → a = b
 | [], [], _, _, _ => rfl
 | [], y :: b, _, _, h => by have := (h y).2 List.mem_cons_self; cases this
 | x :: a, [], _, _, h => by have := (h x).1 List.mem_cons_self; cases this
 | x :: a, y :: b, ha, hb, h => by
  have hca := List.pairwise_cons.1 ha
  have hcb := List.pairwise_cons.1 hb
  have e : x = y := by
   rcases List.mem_cons.1 ((h x).1 List.mem_cons_self) with e | h1
   ·exact e
   ·rcases List.mem_cons.1 ((h y).2 List.mem_cons_self) with e | h2
    ·exact e.symm
    ·exact absurd rfl (zdH (stoK.tr _ _ _ (hca.1 y h2) (hcb.1 x h1)))
  subst e
  rw [zhX a b hca.2 hcb.2 fun t => ⟨fun ht => ?_, fun ht => ?_⟩]
  ·rcases List.mem_cons.1 ((h t).1 (List.mem_cons_of_mem _ ht)) with e | h1
   ·rw [e] at ht; exact absurd rfl (zdH (hca.1 x ht))
   ·exact h1
  ·rcases List.mem_cons.1 ((h t).2 (List.mem_cons_of_mem _ ht)) with e | h1
   ·rw [e] at ht; exact absurd rfl (zdH (hcb.1 x ht))
   ·exact h1
theorem zcB : ∀ (l : List Trm), AscK l → ∀ t ∈ l, postsT l t.key = plT t
 | x :: l, h, t, ht => by
  have hc := List.pairwise_cons.1 h
  rw [zaF]
  rcases List.mem_cons.1 ht with rfl | ht
  ·rw [if_pos rfl]
  ·rw [if_neg (zdH (hc.1 t ht)), zcB l hc.2 t ht]
theorem zeM {l : List Trm} {k : Int × List UInt8} (h : postsT l k ≠ []) : ∃ t ∈ l, t.key = k ∧ plT t = postsT l k := by
 unfold postsT at h ⊢
 cases hf : l.find? fun t => decide (t.key = k) with
 | none => rw [hf] at h; exact absurd rfl h
 | some t => exact ⟨t, List.mem_of_find?_eq_some hf, of_decide_eq_true (List.find?_some (p := fun t => decide (Trm.key t = k)) hf), rfl⟩
theorem znE {a b : Sgm} (ha : rightS a = true) (hb : rightS b = true) (h : ∀ k, postsT a.terms k = postsT b.terms k) : ∀ t ∈ a.terms, t ∈ b.terms := fun t ht => by
 have ha := zan.1 ha
 have hb := zan.1 hb
 have h1 := zcW (ha.2.1 t ht)
 have h2 := zcB _ ha.2.2 t ht
 obtain ⟨u, hu, e1, e2⟩ := zeM (l := b.terms) (k := t.key) (by rw [← h, h2]; exact h1.1)
 have h3 := zcW (hb.2.1 u hu)
 have e3 : plT u = plT t := by rw [e2, ← h, h2]
 have e4 : u.list = t.list := by rw [h3.2, h1.2, e3]
 have e5 : u = t := by
  obtain ⟨f, wd, ls⟩ := u
  obtain ⟨f2, wd2, ls2⟩ := t
  unfold Trm.key at e1
  injection e1 with e6 e7
  dsimp only at e4 e6 e7
  rw [e4, e6, e7]
 exact e5 ▸ hu
theorem zrK {a b : Sgm} (ha : rightS a = true) (hb : rightS b = true) (hd : a.docs = b.docs) (h : ∀ k, postsT a.terms k = postsT b.terms k) : a = b := by
 have ht := zhX a.terms b.terms (zan.1 ha).2.2 (zan.1 hb).2.2 fun t => ⟨znE ha hb h t, znE hb ha (fun k => (h k).symm) t⟩
 cases a
 cases b
 dsimp only at ht hd
 rw [ht, hd]
end Go.Proofs.YtennokckmjcefaaGreatDoor
