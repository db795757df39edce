/- Helper lemmas that the proved statement rests on; no conditions of their own. -/
import Derived.Test.YtennokckmjcefaaGreatDoorGMh3
set_option linter.unusedVariables false
set_option maxHeartbeats 4000000
set_option maxRecDepth 100000
namespace Go.Proofs.YtennokckmjcefaaGreatDoor
open Go.Shelf Go.RowKit Go.Pw Go.Vc Go.Cs Go.Lib Go.Cd Go.Mg
section
variable {w : World}
theorem zoz {g : Nat} {c0 : Value} (h : Sv) (s : Sgm) (field : Int) (p : List UInt8 → Bool) (hr : RdS w h s) (hb : Bd s 1000000 1000000 900000) (hE : CEnv w) (hg : ∀ (args : Array Value) (w : World), (callFunc g args).run Tryz.prog w = .ok (.enter g args) w)
  (hp : ∀ wd u, Kp w u n_ → Calls Tryz.prog g #[.string (str wd), c0] u fun e u' => e = .returned (.bool (p wd)) ∧ Kp u u' n_) :
  Calls Tryz.prog 108 #[.agg (sgC h).toArray, .int .i64 field, .func (.func g) #[] #[c0]] w fun e w' => ∃ v, e = .returned v ∧ OwnP w' w.heap.size v (lookS s field p) ∧ Kp w w' n_ := by
 have hr0 := hr
 obtain ⟨⟨at_, ct, et, hrt⟩, _, _, _⟩ := hr
 obtain ⟨⟨ta, tn, tc⟩, hd⟩ := h
 injection et with q1 q2 q3
 dsimp only at q1 q2 q3
 subst q1 q2 q3
 refine zaa (args := [.agg (sgC ⟨⟨ta, s.terms.length, tc⟩, hd⟩).toArray, .int .i64 field, .func (.func g) #[] #[c0]]) Tryz.func108 rfl NL ?_; refine GW ?_
 obtain ⟨a_b3, v_b3, k_w1, z_w1, r_w1⟩ := new5 w 65 (sgC ⟨⟨ta, s.terms.length, tc⟩, hd⟩)
 generalize w.alloc (.cells (List.toArray (sgC ⟨⟨ta, s.terms.length, tc⟩, hd⟩)) 65) = w1 at *
 generalize hs_b3 : w.heap.size = b3 at *
 refine KGO ?_
 refine CallS.of (Tryz.call116 _ _) (zjW (w := w1) ⟨⟨ta, s.terms.length, tc⟩, hd⟩ s (hr0.keep k_w1) (zmW hb (by omega) (by omega) (by omega)) (hE.keep k_w1)) ?_
 rintro e w2 ⟨rfl, k2⟩
 have K2 := k_w1.trans0 k2
 have v2 := v_b3.keep0 k2
 unfold sgC at v2
 dsimp only at v2
 have a3 := v2.at
 have q2 := Kp.refl w2 n_
 clear a_b3 v_b3
 refine RT ?_
 unfold lookS
 cases hq : rightS s with
 | false =>
  refine KGO ?_
  exact ⟨_, rfl, zbp _ _, K2⟩
 | true =>
 rw [if_pos rfl]
 refine KGO ?_
 have htl := hb.t
 have hst : ∀ i (hi : i < s.terms.length), ((s.terms.take (i + 1)).filter fun t => (decide (field = 0) || decide (field = t.field)) && p t.word).foldl (fun o t => orP o (plT t)) [] = if ((decide (field = 0) || decide (field = s.terms[i].field)) && p s.terms[i].word) = true then orP (((s.terms.take i).filter fun t => (decide (field = 0) || decide (field = t.field)) && p t.word).foldl (fun o t => orP o (plT t)) []) (plT s.terms[i]) else ((s.terms.take i).filter fun t => (decide (field = 0) || decide (field = t.field)) && p t.word).foldl (fun o t => orP o (plT t)) [] := fun i hi => by
  rw [List.take_succ_eq_append_getElem hi, List.filter_append, List.foldl_append, List.filter_cons]
  split <;> rfl
 have hcn : ∀ i, cntP (((s.terms.take i).filter fun t => (decide (field = 0) || decide (field = t.field)) && p t.word).foldl (fun o t => orP o (plT t)) []) ≤ 900000000000 := fun i => by
  have h1 := zgD (c := 900000) ((s.terms.take i).filter fun t => (decide (field = 0) || decide (field = t.field)) && p t.word) [] 0 (by decide) (fun t ht => (hb.x t (List.mem_of_mem_take (List.mem_filter.1 ht).1)).2.2)
  have h2 : ((s.terms.take i).filter fun t => (decide (field = 0) || decide (field = t.field)) && p t.word).length ≤ 1000000 := Nat.le_trans (List.length_filter_le _ _) (by rw [List.length_take]; omega)
  have h3 := Nat.mul_le_mul_right 900000 h2
  omega
 refine Loop.intro (ι := Nat × Value) (fun i => [(1, .int .i64 field), (2, .func (.func g) #[] #[c0]), (6, i.2), (15, .slice ta s.terms.length tc), (16, .int .i64 (s.terms.length : Nat)), (17, .int .i64 (i.1 : Nat))])
  (fun i wr => Kp w wr n_ ∧ i.1 ≤ s.terms.length ∧ OwnP wr w.heap.size i.2 (((s.terms.take i.1).filter fun t => (decide (field = 0) || decide (field = t.field)) && p t.word).foldl (fun o t => orP o (plT t)) [])) (fun i => s.terms.length - i.1) (0, .slice none 0 0) ⟨rfl, rfl, rfl, rfl, rfl, rfl, trivial⟩ ⟨K2, Nat.zero_le _, zbp _ _⟩ ?_
 clear a3 q2 v2
 rintro ⟨i, vo⟩ gg wr ⟨hK, hi, ho⟩
 dsimp only at hi ho ⊢
 have hci := hcn i
 obtain ⟨ao, co, rfl⟩ := ho.shape
 have z0 := hK.size
 refine GW ?_
 by_cases hlt : i < s.terms.length
 rotate_left
 ·rw [List.take_of_length_le (by omega)] at ho ⊢
  refine KGO ?_
  exact ⟨_, rfl, ho.base (by omega), hK⟩
 obtain ⟨gt, ot, rfl, hgt, hat⟩ := hrt (by omega)
 have hx := hb.x _ (List.getElem_mem hlt)
 have hsti := hst i hlt
 generalize ((s.terms.take i).filter fun t => (decide (field = 0) || decide (field = t.field)) && p t.word).foldl (fun o t => orP o (plT t)) [] = OUT at *
 clear hst hcn hrt hr0
 refine KGO ?_
 refine Store.fresh (vs := tmC s.terms[i]) (by rfl) rfl (zax (by rfl)) ?_
 obtain ⟨a_b8, k_w3, z_w3⟩ := new3 wr 141 (tmC s.terms[i])
 generalize wr.alloc (.cells (List.toArray (tmC s.terms[i])) 141) = w3 at *
 generalize hs_b8 : wr.heap.size = b8 at *
 have K3 := hK.trans0 k_w3
 have o3 := ho.keep k_w3
 refine KGO ?_
 have hd1 : decide (field = 0) = (field == 0) := by by_cases h : field = 0 <;> simp [h]
 have tail : ∀ wz, Kp w3 wz n_ → OwnP wz w.heap.size (.slice ao OUT.length co) OUT := fun wz k => o3.keep k
 by_cases f0 : field = 0
 ·refine KGO ?_
  refine CallS.of (hg _ _) (hp s.terms[i].word w3 K3) ?_
  rintro e w4 ⟨rfl, k4⟩
  have K4 := K3.trans0 k4
  have o4 := tail w4 k4
  have a8 := zam a_b8 k4
  have q4 := Kp.refl w4 n_
  refine RT ?_
  cases hpw : p s.terms[i].word with
  | false =>
   refine KGO ?_
   exact ⟨(i + 1, .slice ao OUT.length co), ⟨rfl, rfl, rfl, rfl, rfl, v_int (by simp), trivial⟩, ⟨K4, by dsimp only; omega, by dsimp only; rw [hsti, decide_eq_true f0, hpw]; exact o4⟩, by dsimp only; omega⟩
  | true =>
   refine KGO ?_
   refine CallS.of (Tryz.call167 _ _) (zdw (w := w4) s.terms[i].list (by omega)) ?_
   rintro e w5 ⟨⟨vp, rfl, op, _⟩, k5⟩
   rw [show (decP s.terms[i].list).getD [] = plT s.terms[i] from rfl] at op
   obtain ⟨ap, cp, rfl⟩ := op.shape
   have o5 := o4.keep k5
   have K5 := K4.trans0 k5
   have hg1 := zbF OUT
   have hg2 := zbF (plT s.terms[i])
   have hx3 := hx.2.2
   unfold cntP at hx3 hci
   refine RT ?_
   refine KGO ?_
   refine CallS.of (Tryz.call125 _ _) (po_Or (w := w5) OUT (plT s.terms[i]) o5.row op.row (by omega) (by omega) (fun q hq => by have := zbq _ q hq; omega) (fun q hq => by have := zbq _ q hq; omega)) ?_
   rintro e w6 ⟨vo6, rfl, o6, k6⟩
   obtain ⟨a6, c6, rfl⟩ := o6.shape
   refine RT ?_
   refine KGO ?_
   exact ⟨(i + 1, .slice a6 (orP OUT (plT s.terms[i])).length c6), ⟨rfl, rfl, rfl, rfl, rfl, v_int (by simp), trivial⟩, ⟨K5.trans0 k6, by dsimp only; omega, by dsimp only; rw [hsti, decide_eq_true f0, hpw]; exact o6.base (by have := K5.size; omega)⟩, by dsimp only; omega⟩
 ·by_cases f1 : field = s.terms[i].field
  ·refine KGO ?_
   refine CallS.of (hg _ _) (hp s.terms[i].word w3 K3) ?_
   rintro e w4 ⟨rfl, k4⟩
   have K4 := K3.trans0 k4
   have o4 := tail w4 k4
   have a8 := zam a_b8 k4
   have q4 := Kp.refl w4 n_
   refine RT ?_
   cases hpw : p s.terms[i].word with
   | false =>
    refine KGO ?_
    exact ⟨(i + 1, .slice ao OUT.length co), ⟨rfl, rfl, rfl, rfl, rfl, v_int (by simp), trivial⟩, ⟨K4, by dsimp only; omega, by dsimp only; rw [hsti, decide_eq_false f0, decide_eq_true f1, hpw]; exact o4⟩, by dsimp only; omega⟩
   | true =>
    refine KGO ?_
    refine CallS.of (Tryz.call167 _ _) (zdw (w := w4) s.terms[i].list (by omega)) ?_
    rintro e w5 ⟨⟨vp, rfl, op, _⟩, k5⟩
    rw [show (decP s.terms[i].list).getD [] = plT s.terms[i] from rfl] at op
    obtain ⟨ap, cp, rfl⟩ := op.shape
    have o5 := o4.keep k5
    have K5 := K4.trans0 k5
    have hg1 := zbF OUT
    have hg2 := zbF (plT s.terms[i])
    have hx3 := hx.2.2
    unfold cntP at hx3 hci
    refine RT ?_
    refine KGO ?_
    refine CallS.of (Tryz.call125 _ _) (po_Or (w := w5) OUT (plT s.terms[i]) o5.row op.row (by omega) (by omega) (fun q hq => by have := zbq _ q hq; omega) (fun q hq => by have := zbq _ q hq; omega)) ?_
    rintro e w6 ⟨vo6, rfl, o6, k6⟩
    obtain ⟨a6, c6, rfl⟩ := o6.shape
    refine RT ?_
    refine KGO ?_
    exact ⟨(i + 1, .slice a6 (orP OUT (plT s.terms[i])).length c6), ⟨rfl, rfl, rfl, rfl, rfl, v_int (by simp), trivial⟩, ⟨K5.trans0 k6, by dsimp only; omega, by dsimp only; rw [hsti, decide_eq_false f0, decide_eq_true f1, hpw]; exact o6.base (by have := K5.size; omega)⟩, by dsimp only; omega⟩
  ·refine KGO ?_
   exact ⟨(i + 1, .slice ao OUT.length co), ⟨rfl, rfl, rfl, rfl, rfl, v_int (by simp), trivial⟩, ⟨K3, by dsimp only; omega, by dsimp only; rw [hsti, decide_eq_false f0, decide_eq_false f1]; exact o3⟩, by dsimp only; omega⟩
theorem lk_1 {b : Nat} (wd x : List UInt8) (hv : VarK w b 9 [.string (str x)]) : Calls Tryz.prog 109 #[.string (str wd), .pointer (some ⟨b, 0, none⟩)] w fun e w' => e = .returned (.bool (decide (wd = x))) ∧ Kp w w' n_ := by
 have a := hv.at
 have q := Kp.refl w n_
 refine zaa (args := [.string (str wd), .pointer (some ⟨b, 0, none⟩)]) Tryz.func109 rfl NL ?_; refine GW ?_
 refine KGO ?_
 exact ⟨zal (decide_eq_decide.2 zbY), Kp.refl _ _⟩
theorem zqL (h : Sv) (s : Sgm) (field : Int) (x : List UInt8) (hr : RdS w h s) (hb : Bd s 1000000 1000000 900000) (hE : CEnv w) :
  Calls Tryz.prog 43 #[.agg (sgC h).toArray, .int .i64 field, .string (str x)] w fun e w' => ∃ v, e = .returned v ∧ OwnP w' w.heap.size v (lookS s field (fun wd => decide (wd = x))) ∧ Kp w w' n_ := by
 refine zaa (args := [.agg (sgC h).toArray, .int .i64 field, .string (str x)]) Tryz.func43 rfl NL ?_; refine GW ?_
 obtain ⟨a_b3, v_b3, k_w1, z_w1, r_w1⟩ := new5 w 65 (sgC h)
 generalize w.alloc (.cells (List.toArray (sgC h)) 65) = w1 at *
 generalize hs_b3 : w.heap.size = b3 at *
 obtain ⟨a_b5, v_b5, k_w2, z_w2, r_w2⟩ := new5 w1 9 ([.string (str x)])
 generalize w1.alloc (.cells (List.toArray ([.string (str x)])) 9) = w2 at *
 generalize hs_b5 : w1.heap.size = b5 at *
 have a3 := zam a_b3 k_w2
 have K2 := k_w1.trans0 k_w2
 clear a_b3
 refine KGO ?_
 conv => arg 3; simp [ev, upd]
 have hcall := zoz (w := w2) (g := 109) (c0 := .pointer (some ⟨b5, 0, none⟩)) h s field (fun wd => decide (wd = x)) (hr.keep K2) hb (hE.keep K2) (fun _ _ => rfl) (fun wd u k => lk_1 wd x (v_b5.keep0 k))
 refine CallS.of (Tryz.call108 _ _) hcall ?_
 rintro e w3 ⟨v, rfl, ov, k3⟩
 obtain ⟨a, c, rfl⟩ := ov.shape
 refine RT ?_
 refine KGO ?_
 exact ⟨_, rfl, ov.base (by omega), K2.trans0 k3⟩
end
def withGo (n : Int) : List Int → Bool → List Int
 | [], d => if d = true then [] else [n]
 | x :: r, d => if d = false ∧ n ≤ x then (if x = n then n :: withGo n r true else n :: x :: withGo n r true) else (if x = n then withGo n r d else x :: withGo n r d)
def withL (l : List Int) (n : Int) : List Int := withGo n l false
section
end
section
end
end Go.Proofs.YtennokckmjcefaaGreatDoor
namespace Go.Proofs.YtennokckmjcefaaGreatDoor
open Go.Shelf Go.RowKit Go.Pw Go.Vc Go.Cs Go.Lib Go.Cd
section
end
section
end
section
end
end Go.Proofs.YtennokckmjcefaaGreatDoor
namespace Go.Proofs.YtennokckmjcefaaGreatDoor
open Go.RowKit Go.Pw Go.Vc Go.Cs Go.Lib
section
end
section
end
end Go.Proofs.YtennokckmjcefaaGreatDoor
namespace Go.Proofs.YtennokckmjcefaaGreatDoor
open Go.Shelf Go.RowKit Go.Pw Go.Vc Go.Cs Go.Lib Go.Cd Go.Mg
section
end
section
end
section
end
section
end
section
end
section
end
section
end
section
end
theorem zdl (n : Int) : ∀ l : List Int, (∀ x ∈ l, n < x) → withGo n l true = l
 | [], _ => rfl
 | x :: r, h => by
  have hx := h x List.mem_cons_self
  rw [withGo, if_neg (by simp), if_neg (by omega), zdl n r fun y hy => h y (List.mem_cons_of_mem _ hy)]
theorem zfB (n : Int) : ∀ l : List Int, l.Pairwise (· < ·) → ∀ y, y ∈ withL l n ↔ y = n ∨ y ∈ l
 | [], _, y => by simp [withL, withGo]
 | x :: r, h, y => by
  rw [List.pairwise_cons] at h
  have ih := zfB n r h.2 y
  unfold withL at ih ⊢
  rw [withGo]
  by_cases h1 : n ≤ x
  ·rw [if_pos ⟨rfl, h1⟩, zdl n r fun z hz => by have := h.1 z hz; omega]
   by_cases h2 : x = n
   ·rw [if_pos h2]; simp [h2]
   ·rw [if_neg h2]; simp
  ·rw [if_neg (fun e => h1 e.2), if_neg (by omega), List.mem_cons, ih, List.mem_cons]
   constructor <;> (intro e; rcases e with e | e | e <;> simp [e])
theorem zhK (n : Int) : ∀ l : List Int, l.Pairwise (· < ·) → (withL l n).Pairwise (· < ·)
 | [], _ => by simp [withL, withGo]
 | x :: r, h => by
  have hc := List.pairwise_cons.1 h
  have ih := zhK n r hc.2
  have hm := zfB n r hc.2
  unfold withL at ih hm ⊢
  rw [withGo]
  by_cases h1 : n ≤ x
  ·have ht := zdl n r fun z hz => by have := hc.1 z hz; omega
   rw [if_pos ⟨rfl, h1⟩, ht]
   by_cases h2 : x = n
   ·rw [if_pos h2, ← h2]; exact h
   ·rw [if_neg h2, List.pairwise_cons]
    refine ⟨fun z hz => ?_, h⟩
    rcases List.mem_cons.1 hz with rfl | hz
    ·omega
    ·have := hc.1 z hz; omega
  ·rw [if_neg (fun e => h1 e.2), if_neg (by omega), List.pairwise_cons]
   refine ⟨fun z hz => ?_, ih⟩
   rcases (hm z).1 hz with rfl | hz
   ·omega
   ·exact hc.1 z hz
theorem ziX {l : List Int} : AscB ltI l ↔ l.Pairwise (· < ·) := by
 unfold AscB
 simp only [ltI, decide_eq_true_eq]
theorem zgI {l : List Pst} (h : rightP l = true) (d : Int) : d ∈ l.map (·.doc) ↔ atD l d ≠ [] := by
 constructor
 ·intro hm
  obtain ⟨p, hp, rfl⟩ := List.mem_map.1 hm
  rw [zcB (zbh h) hp]
  exact ((zas.1 h).2 p hp).2.2.1
 ·intro hn
  obtain ⟨p, hp, e, _⟩ := zmP hn
  exact List.mem_map.2 ⟨p, hp, e⟩
def postsT (l : List Trm) (k : Int × List UInt8) : List Pst := match l.find? (fun t => decide (t.key = k)) with | some t => plT t | none => []
theorem zaE (x : Trm) (l : List Trm) (k : Int × List UInt8) : postsT (x :: l) k = if x.key = k then plT x else postsT l k := by
 unfold postsT
 rw [List.find?_cons]
 by_cases h : x.key = k
 ·rw [if_pos h, decide_eq_true h]
 ·rw [if_neg h, decide_eq_false h]
theorem zfO {l : List Trm} {k : Int × List UInt8} (h : ∀ t ∈ l, ltK k t.key = true) : postsT l k = [] := by
 unfold postsT
 rw [List.find?_eq_none.2 fun t ht => ?_]
 have := h t ht
 simp only [decide_eq_true_eq]
 intro e
 rw [e, stoK.irr] at this; cases this
def AscK (l : List Trm) : Prop := l.Pairwise fun a b => ltK a.key b.key = true
theorem merge_mem : ∀ (n : Nat) (a b : List Trm), a.length + b.length ≤ n → ∀ z ∈ mergeT a b, (∃ t ∈ a, t.key = z.1.key) ∨ ∃ t ∈ b, t.key = z.1.key := by
 intro n a b _ z hz
 obtain ⟨⟨o1, o2⟩, hm, rfl⟩ := List.mem_map.1 hz
 obtain ⟨h1, h2, h3⟩ := (zaO cmpT a b).1 _ hm
 dsimp only at h1 h2 h3
 cases o2 with
 | some t => exact .inr ⟨t, h3 t rfl, by cases o1 <;> rfl⟩
 | none =>
  cases o1 with
  | none => simp at h1
  | some s => exact .inl ⟨s, h2 s rfl, rfl⟩
theorem zbi : ∀ (n : Nat) (a b : List Trm), a.length + b.length ≤ n → AscK a → AscK b → ∀ z ∈ mergeT a b, z.2 = orP (postsT a z.1.key) (postsT b z.1.key)
 | _, [], [], _, _, _, z, hz => by rw [zct] at hz; cases hz
 | 0, x :: a, b, h, _, _, _, _ => by simp at h
 | 0, [], y :: b, h, _, _, _, _ => by simp at h
 | n + 1, x :: a, [], h, ha, hb, z, hz => by
  have hc := List.pairwise_cons.1 ha
  rw [zbS] at hz
  rcases List.mem_cons.1 hz with rfl | hz
  ·rw [zaE, if_pos rfl]; rfl
  ·have hl : a.length + ([] : List Trm).length ≤ n := by simp at h ⊢; omega
   have ih := zbi n a [] hl hc.2 hb z hz
   rw [zaE, if_neg, ih]
   intro e
   rcases merge_mem n a [] hl z hz with ⟨t, ht, e2⟩ | ⟨t, ht, _⟩
   ·have := hc.1 t ht
    rw [e2, e, stoK.irr] at this; cases this
   ·cases ht
 | n + 1, [], y :: b, h, ha, hb, z, hz => by
  have hc := List.pairwise_cons.1 hb
  rw [zcu] at hz
  rcases List.mem_cons.1 hz with rfl | hz
  ·rw [zaE, if_pos rfl]; rfl
  ·have hl : ([] : List Trm).length + b.length ≤ n := by simp at h ⊢; omega
   have ih := zbi n [] b hl ha hc.2 z hz
   rw [zaE, if_neg, ih]
   intro e
   rcases merge_mem n [] b hl z hz with ⟨t, ht, _⟩ | ⟨t, ht, e2⟩
   ·cases ht
   ·have := hc.1 t ht
    rw [e2, e, stoK.irr] at this; cases this
 | n + 1, x :: a, y :: b, h, ha, hb, z, hz => by
  have hca := List.pairwise_cons.1 ha
  have hcb := List.pairwise_cons.1 hb
  have l1 := zeO x y
  have l2 := ziL x y
  simp only [List.length_cons] at h
  rw [zbQ] at hz
  by_cases h1 : cmpT x y < 0
  ·rw [if_pos h1] at hz
   have hxy := l1.1 h1
   have hyb : ∀ t ∈ y :: b, ltK x.key t.key = true := fun t ht => by
    rcases List.mem_cons.1 ht with rfl | ht
    ·exact hxy
    ·exact stoK.tr _ _ _ hxy (hcb.1 t ht)
   rcases List.mem_cons.1 hz with rfl | hz
   ·rw [zfO hyb, zaE, if_pos rfl]
   ·have hl : a.length + (y :: b).length ≤ n := by rw [List.length_cons]; omega
    have ih := zbi n a (y :: b) hl hca.2 hb z hz
    rw [zaE x, if_neg, ih]
    intro e
    rcases merge_mem n a (y :: b) hl z hz with ⟨t, ht, e2⟩ | ⟨t, ht, e2⟩
    ·have := hca.1 t ht
     rw [e2, e, stoK.irr] at this; cases this
    ·have := hyb t ht
     rw [e2, e, stoK.irr] at this; cases this
  ·rw [if_neg h1] at hz
   by_cases h2 : cmpT x y = 0
   ·rw [if_pos h2] at hz
    have he := l2.1 h2
    rcases List.mem_cons.1 hz with rfl | hz
    ·rw [zaE, if_pos he, zaE, if_pos rfl]
    ·have hl : a.length + b.length ≤ n := by omega
     have ih := zbi n a b hl hca.2 hcb.2 z hz
     have hne : ¬ y.key = z.1.key := fun e => by
      rcases merge_mem n a b hl z hz with ⟨t, ht, e2⟩ | ⟨t, ht, e2⟩
      ·have := hca.1 t ht
       rw [e2, he, e, stoK.irr] at this; cases this
      ·have := hcb.1 t ht
       rw [e2, e, stoK.irr] at this; cases this
     rw [zaE x, if_neg (by rw [he]; exact hne), zaE y, if_neg hne, ih]
   ·rw [if_neg h2] at hz
    have hyx : ltK y.key x.key = true := by
     cases hk : ltK y.key x.key with
     | true => rfl
     | false => exact absurd (l2.2 (stoK.tri _ _ (by cases hq : ltK x.key y.key with | false => rfl | true => exact absurd (l1.2 hq) h1) hk)) h2
    have hxa : ∀ t ∈ x :: a, ltK y.key t.key = true := fun t ht => by
     rcases List.mem_cons.1 ht with rfl | ht
     ·exact hyx
     ·exact stoK.tr _ _ _ hyx (hca.1 t ht)
    rcases List.mem_cons.1 hz with rfl | hz
    ·rw [zfO hxa, zaE, if_pos rfl]
    ·have hl : (x :: a).length + b.length ≤ n := by rw [List.length_cons]; omega
     have ih := zbi n (x :: a) b hl ha hcb.2 z hz
     rw [zaE y, if_neg, ih]
     intro e
     rcases merge_mem n (x :: a) b hl z hz with ⟨t, ht, e2⟩ | ⟨t, ht, e2⟩
     ·have := hxa t ht
      rw [e2, e, stoK.irr] at this; cases this
     ·have := hcb.1 t ht
      rw [e2, e, stoK.irr] at this; cases this
theorem zch (t : Trm) : rightP (plT t) = true := by
 unfold plT
 cases h : decP t.list with
 | none => rfl
 | some l => exact (zcM.1 h).1
theorem zaH (l : List Trm) (k : Int × List UInt8) : rightP (postsT l k) = true := by
 unfold postsT
 cases l.find? fun t => decide (t.key = k) with
 | none => rfl
 | some t => exact zch t
theorem zcC (s : Sgm) : rightS (validS s) = true := by
 unfold validS
 cases h : rightS s with
 | true => rw [if_pos rfl]; exact h
 | false => rw [if_neg (by decide)]; rfl
theorem zdi {x y : List Int} (hx : AscB ltI x) (hy : AscB ltI y) : AscB ltI (unI x y) := (zcU _ x y (Nat.le_refl _) hx hy).1
theorem zlm {x y z : List Int} (hx : AscB ltI x) (hy : AscB ltI y) (hz : AscB ltI z) : unI (unI x y) z = unI x (unI y z) :=
 zdb stoI _ _ (zdi (zdi hx hy) hz) (zdi hx (zdi hy hz)) fun w => by
  rw [zce (zdi hx hy) hz, zce hx hy, zce hx (zdi hy hz), zce hy hz, or_assoc]
theorem zcN {docs : List Int} {t : Trm} (h : okTerm docs t = true) : plT t ≠ [] ∧ t.list = encP (plT t) := by
 unfold okTerm at h
 rw [Bool.and_eq_true] at h
 have h := h.2
 unfold okList at h
 unfold plT
 cases hd : decP t.list with
 | none => rw [hd] at h; cases h
 | some l =>
  rw [hd] at h
  refine ⟨fun e => ?_, (zcM.1 hd).2.symm⟩
  have e : l = [] := e
  rw [e] at h
  simp at h
theorem zdx {x y : Int × List UInt8} (h : ltK x y = true) : x ≠ y := fun e => by
 rw [e, stoK.irr] at h; cases h
theorem zhf : ∀ a b : List Trm, AscK a → AscK b → (∀ t, t ∈ a ↔ t ∈ b) → a = b
 | [], [], _, _, _ => rfl
 | [], y :: b, _, _, h => by have := (h y).2 List.mem_cons_self; cases this
 | x :: a, [], _, _, h => by have := (h x).1 List.mem_cons_self; cases this
 | x :: a, y :: b, ha, hb, h => by
  have hca := List.pairwise_cons.1 ha
  have hcb := List.pairwise_cons.1 hb
  have e : x = y := by
   rcases List.mem_cons.1 ((h x).1 List.mem_cons_self) with e | h1
   ·exact e
   ·rcases List.mem_cons.1 ((h y).2 List.mem_cons_self) with e | h2
    ·exact e.symm
    ·exact absurd rfl (zdx (stoK.tr _ _ _ (hca.1 y h2) (hcb.1 x h1)))
  subst e
  rw [zhf a b hca.2 hcb.2 fun t => ⟨fun ht => ?_, fun ht => ?_⟩]
  ·rcases List.mem_cons.1 ((h t).1 (List.mem_cons_of_mem _ ht)) with e | h1
   ·rw [e] at ht; exact absurd rfl (zdx (hca.1 x ht))
   ·exact h1
  ·rcases List.mem_cons.1 ((h t).2 (List.mem_cons_of_mem _ ht)) with e | h1
   ·rw [e] at ht; exact absurd rfl (zdx (hcb.1 x ht))
   ·exact h1
theorem zcv : ∀ (l : List Trm), AscK l → ∀ t ∈ l, postsT l t.key = plT t
 | x :: l, h, t, ht => by
  have hc := List.pairwise_cons.1 h
  rw [zaE]
  rcases List.mem_cons.1 ht with rfl | ht
  ·rw [if_pos rfl]
  ·rw [if_neg (zdx (hc.1 t ht)), zcv l hc.2 t ht]
theorem zes {l : List Trm} {k : Int × List UInt8} (h : postsT l k ≠ []) : ∃ t ∈ l, t.key = k ∧ plT t = postsT l k := by
 unfold postsT at h ⊢
 cases hf : l.find? fun t => decide (t.key = k) with
 | none => rw [hf] at h; exact absurd rfl h
 | some t => exact ⟨t, List.mem_of_find?_eq_some hf, of_decide_eq_true (List.find?_some (p := fun t => decide (Trm.key t = k)) hf), rfl⟩
theorem zmq {a b : Sgm} (ha : rightS a = true) (hb : rightS b = true) (h : ∀ k, postsT a.terms k = postsT b.terms k) : ∀ t ∈ a.terms, t ∈ b.terms := fun t ht => by
 have ha := zao.1 ha
 have hb := zao.1 hb
 have h1 := zcN (ha.2.1 t ht)
 have h2 := zcv _ ha.2.2 t ht
 obtain ⟨u, hu, e1, e2⟩ := zes (l := b.terms) (k := t.key) (by rw [← h, h2]; exact h1.1)
 have h3 := zcN (hb.2.1 u hu)
 have e3 : plT u = plT t := by rw [e2, ← h, h2]
 have e4 : u.list = t.list := by rw [h3.2, h1.2, e3]
 have e5 : u = t := by
  obtain ⟨f, wd, ls⟩ := u
  obtain ⟨f2, wd2, ls2⟩ := t
  unfold Trm.key at e1
  injection e1 with e6 e7
  dsimp only at e4 e6 e7
  rw [e4, e6, e7]
 exact e5 ▸ hu
theorem zpS {a b : Sgm} (ha : rightS a = true) (hb : rightS b = true) (hd : a.docs = b.docs) (h : ∀ k, postsT a.terms k = postsT b.terms k) : a = b := by
 have ht := zhf a.terms b.terms (zao.1 ha).2.2 (zao.1 hb).2.2 fun t => ⟨zmq ha hb h t, zmq hb ha (fun k => (h k).symm) t⟩
 cases a
 cases b
 dsimp only at ht hd
 rw [ht, hd]
theorem zel {l : List Pst} (dead : List Int) (h : rightP l = true) : rightP (liveP dead l) = true := by
 have h := zas.1 h
 exact zas.2 ⟨List.Pairwise.filter _ h.1, fun p hp => h.2 p (List.mem_filter.1 hp).1⟩
theorem zkj {f : Int} {wd : List UInt8} {l : List Pst} (h : rightP l = true) : plT ⟨f, wd, encP l⟩ = l := by
 unfold plT
 dsimp only
 rw [zdS h]; rfl
theorem zjQ (dead : List Int) : ∀ (L : List (Trm × List Pst)), (∀ z ∈ L, rightP z.2 = true) → L.Pairwise (fun y z => ltK y.1.key z.1.key = true) → ∀ k,
  postsT (L.filterMap (termOf dead)) k = match L.find? (fun z => decide (z.1.key = k)) with | some z => liveP dead z.2 | none => []
 | [], _, _, k => rfl
 | z :: L, hr, hp, k => by
  have hc := List.pairwise_cons.1 hp
  have ih := zjQ dead L (fun y hy => hr y (List.mem_cons_of_mem _ hy)) hc.2 k
  rw [List.filterMap_cons, List.find?_cons]
  by_cases hk : z.1.key = k
  ·rw [decide_eq_true hk]
   by_cases hn : liveP dead z.2 = []
   ·have hno : L.find? (fun y => decide (y.1.key = k)) = none := List.find?_eq_none.2 fun y hy => by
     simp only [decide_eq_true_eq]
     intro e
     exact zdx (hc.1 y hy) (by rw [hk, e])
    unfold termOf
    rw [if_pos hn]
    dsimp only
    unfold termOf at ih
    rw [ih, hno, hn]
   ·have ht : termOf dead z = some ⟨z.1.field, z.1.word, encP (liveP dead z.2)⟩ := if_neg hn
    rw [ht]
    dsimp only
    rw [zaE, if_pos hk, zkj (zel dead (hr z List.mem_cons_self))]
  ·rw [decide_eq_false hk]
   by_cases hn : liveP dead z.2 = []
   ·have ht : termOf dead z = none := if_pos hn
    rw [ht]
    exact ih
   ·have ht : termOf dead z = some ⟨z.1.field, z.1.word, encP (liveP dead z.2)⟩ := if_neg hn
    rw [ht]
    dsimp only
    rw [zaE, if_neg hk]
    exact ih
theorem zbT : ∀ (n : Nat) (a b : List Trm), a.length + b.length ≤ n → AscK a → AscK b → (mergeT a b).Pairwise fun y z => ltK y.1.key z.1.key = true
 | _, [], [], _, _, _ => by rw [zct]; exact .nil
 | 0, x :: a, b, h, _, _ => by simp at h
 | 0, [], y :: b, h, _, _ => by simp at h
 | n + 1, x :: a, [], h, ha, hb => by
  have hc := List.pairwise_cons.1 ha
  have hl : a.length + ([] : List Trm).length ≤ n := by simp at h ⊢; omega
  rw [zbS, List.pairwise_cons]
  refine ⟨fun z hz => ?_, zbT n a [] hl hc.2 hb⟩
  rcases merge_mem n a [] hl z hz with ⟨t, ht, e⟩ | ⟨t, ht, _⟩
  ·rw [← e]; exact hc.1 t ht
  ·cases ht
 | n + 1, [], y :: b, h, ha, hb => by
  have hc := List.pairwise_cons.1 hb
  have hl : ([] : List Trm).length + b.length ≤ n := by simp at h ⊢; omega
  rw [zcu, List.pairwise_cons]
  refine ⟨fun z hz => ?_, zbT n [] b hl ha hc.2⟩
  rcases merge_mem n [] b hl z hz with ⟨t, ht, _⟩ | ⟨t, ht, e⟩
  ·cases ht
  ·rw [← e]; exact hc.1 t ht
 | n + 1, x :: a, y :: b, h, ha, hb => by
  have hca := List.pairwise_cons.1 ha
  have hcb := List.pairwise_cons.1 hb
  have l1 := zeO x y
  have l2 := ziL x y
  simp only [List.length_cons] at h
  rw [zbQ]
  by_cases h1 : cmpT x y < 0
  ·have hxy := l1.1 h1
   have hl : a.length + (y :: b).length ≤ n := by rw [List.length_cons]; omega
   rw [if_pos h1, List.pairwise_cons]
   refine ⟨fun z hz => ?_, zbT n a (y :: b) hl hca.2 hb⟩
   rcases merge_mem n a (y :: b) hl z hz with ⟨t, ht, e⟩ | ⟨t, ht, e⟩
   ·rw [← e]; exact hca.1 t ht
   ·rw [← e]
    rcases List.mem_cons.1 ht with rfl | ht
    ·exact hxy
    ·exact stoK.tr _ _ _ hxy (hcb.1 t ht)
  ·by_cases h2 : cmpT x y = 0
   ·have he := l2.1 h2
    have hl : a.length + b.length ≤ n := by omega
    rw [if_neg h1, if_pos h2, List.pairwise_cons]
    refine ⟨fun z hz => ?_, zbT n a b hl hca.2 hcb.2⟩
    rcases merge_mem n a b hl z hz with ⟨t, ht, e⟩ | ⟨t, ht, e⟩
    ·rw [← e, ← he]; exact hca.1 t ht
    ·rw [← e]; exact hcb.1 t ht
   ·have hyx : ltK y.key x.key = true := by
     cases hk : ltK y.key x.key with
     | true => rfl
     | false => exact absurd (l2.2 (stoK.tri _ _ (by cases hq : ltK x.key y.key with | false => rfl | true => exact absurd (l1.2 hq) h1) hk)) h2
    have hl : (x :: a).length + b.length ≤ n := by rw [List.length_cons]; omega
    rw [if_neg h1, if_neg h2, List.pairwise_cons]
    refine ⟨fun z hz => ?_, zbT n (x :: a) b hl ha hcb.2⟩
    rcases merge_mem n (x :: a) b hl z hz with ⟨t, ht, e⟩ | ⟨t, ht, e⟩
    ·rw [← e]
     rcases List.mem_cons.1 ht with rfl | ht
     ·exact hyx
     ·exact stoK.tr _ _ _ hyx (hca.1 t ht)
    ·rw [← e]; exact hcb.1 t ht
theorem zdz : ∀ (n : Nat) (a b : List Trm), a.length + b.length ≤ n → ∀ t, t ∈ a ∨ t ∈ b → ∃ z ∈ mergeT a b, z.1.key = t.key
 | _, [], [], _, t, ht => by rcases ht with h | h <;> cases h
 | 0, x :: a, b, h, _, _ => by simp at h
 | 0, [], y :: b, h, _, _ => by simp at h
 | n + 1, x :: a, [], h, t, ht => by
  have hl : a.length + ([] : List Trm).length ≤ n := by simp at h ⊢; omega
  rw [zbS]
  rcases ht with ht | ht
  ·rcases List.mem_cons.1 ht with rfl | ht
   ·exact ⟨_, List.mem_cons_self, rfl⟩
   ·obtain ⟨z, hz, e⟩ := zdz n a [] hl t (.inl ht)
    exact ⟨z, List.mem_cons_of_mem _ hz, e⟩
  ·cases ht
 | n + 1, [], y :: b, h, t, ht => by
  have hl : ([] : List Trm).length + b.length ≤ n := by simp at h ⊢; omega
  rw [zcu]
  rcases ht with ht | ht
  ·cases ht
  ·rcases List.mem_cons.1 ht with rfl | ht
   ·exact ⟨_, List.mem_cons_self, rfl⟩
   ·obtain ⟨z, hz, e⟩ := zdz n [] b hl t (.inr ht)
    exact ⟨z, List.mem_cons_of_mem _ hz, e⟩
 | n + 1, x :: a, y :: b, h, t, ht => by
  simp only [List.length_cons] at h
  have l2 := ziL x y
  have up : ∀ {a' b' : List Trm} {q : Trm × List Pst}, a'.length + b'.length ≤ n → t ∈ a' ∨ t ∈ b' → ∃ z ∈ q :: mergeT a' b', z.1.key = t.key := fun hl hm => by
   obtain ⟨z, hz, e⟩ := zdz n _ _ hl t hm
   exact ⟨z, List.mem_cons_of_mem _ hz, e⟩
  rw [zbQ]
  by_cases h1 : cmpT x y < 0
  ·rw [if_pos h1]
   rcases ht with ht | ht
   ·rcases List.mem_cons.1 ht with rfl | ht
    ·exact ⟨_, List.mem_cons_self, rfl⟩
    ·exact up (by rw [List.length_cons]; omega) (.inl ht)
   ·exact up (by rw [List.length_cons]; omega) (.inr ht)
  ·by_cases h2 : cmpT x y = 0
   ·rw [if_neg h1, if_pos h2]
    rcases ht with ht | ht <;> rcases List.mem_cons.1 ht with rfl | ht
    ·exact ⟨_, List.mem_cons_self, (l2.1 h2).symm⟩
    ·exact up (by omega) (.inl ht)
    ·exact ⟨_, List.mem_cons_self, rfl⟩
    ·exact up (by omega) (.inr ht)
   ·rw [if_neg h1, if_neg h2]
    rcases ht with ht | ht
    ·exact up (by rw [List.length_cons]; omega) (.inl ht)
    ·rcases List.mem_cons.1 ht with rfl | ht
     ·exact ⟨_, List.mem_cons_self, rfl⟩
     ·exact up (by rw [List.length_cons]; omega) (.inr ht)
theorem znA (a b : Sgm) (dead : List Int) (k : Int × List UInt8) : postsT (twoS a b dead).terms k = liveP dead (orP (postsT (validS a).terms k) (postsT (validS b).terms k)) := by
 have ha := (zao.1 (zcC a)).2.2
 have hb := (zao.1 (zcC b)).2.2
 generalize hA : (validS a).terms = A at *
 generalize hB : (validS b).terms = B at *
 have hm := zbi _ A B (Nat.le_refl _) ha hb
 have hf := zjQ dead (mergeT A B) (fun z hz => by rw [hm z hz]; exact zdy (zaH _ _) (zaH _ _)) (zbT _ A B (Nat.le_refl _) ha hb) k
 unfold twoS
 rw [hA, hB]
 dsimp only
 rw [hf]
 cases hq : (mergeT A B).find? fun z => decide (z.1.key = k) with
 | some z =>
  have e : z.1.key = k := of_decide_eq_true (List.find?_some (p := fun z : Trm × List Pst => decide (z.1.key = k)) hq)
  dsimp only
  rw [hm z (List.mem_of_find?_eq_some hq), e]
 | none =>
  have hno : ∀ t, t ∈ A ∨ t ∈ B → ¬ t.key = k := fun t ht e => by
   obtain ⟨z, hz, e2⟩ := zdz _ A B (Nat.le_refl _) t ht
   have := List.find?_eq_none.1 hq z hz
   exact this (decide_eq_true (e2.trans e))
  have hn : ∀ {l : List Trm}, (∀ t ∈ l, ¬ t.key = k) → postsT l k = [] := fun {l} h => by
   unfold postsT
   rw [List.find?_eq_none.2 fun t ht => by simpa using h t ht]
  rw [hn fun t ht => hno t (.inl ht), hn fun t ht => hno t (.inr ht)]
  rfl
theorem zil {docs : List Int} {t : Trm} (h : okTerm docs t = true) : ∀ p ∈ plT t, p.doc ∈ docs := by
 unfold okTerm at h
 rw [Bool.and_eq_true] at h
 have h := h.2
 unfold okList at h
 unfold plT
 cases hd : decP t.list with
 | none => rw [hd] at h; cases h
 | some l =>
  rw [hd] at h
  dsimp only at h
  rw [Bool.and_eq_true, List.all_eq_true] at h
  intro p hp
  exact of_decide_eq_true (h.2 p hp)
theorem zeh {docs : List Int} {l : List Trm} (h : ∀ t ∈ l, okTerm docs t = true) {k : Int × List UInt8} {d : Int} (hd : atD (postsT l k) d ≠ []) : d ∈ docs := by
 have hm := (zgI (zaH l k) d).2 hd
 obtain ⟨p, hp, rfl⟩ := List.mem_map.1 hm
 obtain ⟨t, ht, _, e⟩ := zes (l := l) (k := k) (fun e => by rw [e] at hp; cases hp)
 exact zil (h t ht) p (by rw [e]; exact hp)
theorem zdL (a b : Sgm) (dead : List Int) : rightS (twoS a b dead) = true := by
 have ha := zao.1 (zcC a)
 have hb := zao.1 (zcC b)
 have hm := zbi _ (validS a).terms (validS b).terms (Nat.le_refl _) ha.2.2 hb.2.2
 have hp := zbT _ (validS a).terms (validS b).terms (Nat.le_refl _) ha.2.2 hb.2.2
 unfold twoS
 generalize validS a = A at *
 generalize validS b = B at *
 refine zao.2 ⟨⟨zbB stoI _, fun n hn => ?_⟩, fun t ht => ?_, ?_⟩
 ·have hn := (zaZ stoI _ _).1 hn
  rcases List.mem_append.1 (List.mem_filter.1 hn).1 with h | h
  ·exact ha.1.2 n h
  ·exact hb.1.2 n h
 ·obtain ⟨z, hz, he⟩ := List.mem_filterMap.1 ht
  have hne : liveP dead z.2 ≠ [] := fun e => by unfold termOf at he; rw [if_pos e] at he; cases he
  have hte : t = ⟨z.1.field, z.1.word, encP (liveP dead z.2)⟩ := by unfold termOf at he; rw [if_neg hne] at he; injection he with he; exact he.symm
  have hzr : rightP z.2 = true := by rw [hm z hz]; exact zdy (zaH _ _) (zaH _ _)
  have hfw : decide (1 ≤ z.1.field ∧ z.1.field ≤ 5) = true ∧ decide (wordsOf z.1.word = [z.1.word]) = true := by
   rcases merge_mem _ A.terms B.terms (Nat.le_refl _) z hz with ⟨u, hu, e⟩ | ⟨u, hu, e⟩
   ·have h := ha.2.1 u hu
    unfold okTerm at h
    rw [Bool.and_eq_true, Bool.and_eq_true] at h
    unfold Trm.key at e
    injection e with e1 e2
    rw [← e1, ← e2]; exact h.1
   ·have h := hb.2.1 u hu
    unfold okTerm at h
    rw [Bool.and_eq_true, Bool.and_eq_true] at h
    unfold Trm.key at e
    injection e with e1 e2
    rw [← e1, ← e2]; exact h.1
  rw [hte]
  unfold okTerm
  rw [Bool.and_eq_true, Bool.and_eq_true]
  refine ⟨hfw, ?_⟩
  unfold okList
  dsimp only
  rw [zdS (zel dead hzr)]
  dsimp only
  rw [Bool.and_eq_true, List.all_eq_true]
  refine ⟨by cases hl : liveP dead z.2 with | nil => exact absurd hl hne | cons => rfl, fun x hx => decide_eq_true ?_⟩
  obtain ⟨hx1, hx2⟩ := List.mem_filter.1 hx
  refine (zaZ stoI _ _).2 (List.mem_filter.2 ⟨?_, hx2⟩)
  have h1 := (zgI hzr x.doc).1 (List.mem_map_of_mem hx1)
  rw [hm z hz, zgQ (zaH _ _) (zaH _ _)] at h1
  rw [List.mem_append]
  by_cases h2 : atD (postsT A.terms z.1.key) x.doc = []
  ·right
   refine zeh hb.2.1 (k := z.1.key) fun h3 => h1 ?_
   rw [zgc]; exact ⟨h2, h3⟩
  ·exact .inl (zeh ha.2.1 h2)
 ·refine List.Pairwise.filterMap (termOf dead) (fun y z h b1 h1 b2 h2 => ?_) hp
  have key : ∀ {q : Trm × List Pst} {t : Trm}, termOf dead q = some t → t.key = q.1.key := fun {q t} e => by
   unfold termOf at e
   split at e
   ·cases e
   ·injection e with e; rw [← e]
  rw [key h1, key h2]; exact h
theorem ziu (a b : Sgm) (dead : List Int) (d : Int) : d ∈ (twoS a b dead).docs ↔ (d ∈ (validS a).docs ∨ d ∈ (validS b).docs) ∧ d ∉ dead := by
 unfold twoS
 dsimp only
 unfold sortI
 rw [zaZ stoI, List.mem_filter, List.mem_append]
 simp
theorem zbz {s : Sgm} (h : rightS s = true) : validS s = s := if_pos h
theorem zha (dead : List Int) : ∀ (l : List Pst) (d : Int), atD (liveP dead l) d = if d ∈ dead then [] else atD l d
 | [], d => by simp [liveP, atD]
 | p :: l, d => by
  have ih := zha dead l d
  unfold liveP at ih ⊢
  rw [List.filter_cons]
  by_cases hp : p.doc ∈ dead
  ·rw [if_neg (by simp [hp]), ih, zaJ]
   by_cases hd : d ∈ dead
   ·rw [if_pos hd, if_pos hd]
   ·rw [if_neg hd, if_neg hd, if_neg (fun e : p.doc = d => hd (e ▸ hp))]
  ·rw [if_pos (by simp [hp]), zaJ, ih, zaJ]
   by_cases he : p.doc = d
   ·rw [if_pos he, if_pos he, if_neg (he ▸ hp)]
   ·rw [if_neg he, if_neg he]
end Go.Proofs.YtennokckmjcefaaGreatDoor
