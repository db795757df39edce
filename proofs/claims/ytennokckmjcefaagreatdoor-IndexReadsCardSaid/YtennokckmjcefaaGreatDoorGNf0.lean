/- Helper lemmas; no conditions of their own. -/
import Derived.Test.YtennokckmjcefaaGreatDoorMl7
set_option linter.unusedVariables false
set_option maxHeartbeats 8000000
set_option maxRecDepth 100000
namespace Go.Proofs.YtennokckmjcefaaGreatDoor
open Go.Shelf Go.RowKit Go.Pw Go.Vc Go.Cs Go.Lib Go.Cd Go.Mg
theorem zjo {s : St} (h : stL s ≠ 0) : (textR s).1.length + 1 + stL (textR s).2 ≤ stL s := by
 have h1 := zkM (numR s).1 (numR s).2
 have h2 := zcj h
 unfold textR
 omega
theorem zkI : ∀ (k : Nat) (s : St), ∀ n ∈ (numsG k s).1, n < 2 ^ 63
 | 0, s => by unfold numsG; intro n h; cases h
 | k + 1, s => by
  unfold numsG
  have hl := zaW s
  cases hq : numR s with
  | mk n r =>
   rw [hq] at hl
   cases r with
   | none => intro n h; cases h
   | some r =>
    have ih := zkI k (some r)
    dsimp only
    cases hg : numsG k (some r) with
    | mk l s' =>
     rw [hg] at ih
     intro m hm
     rcases yah.1 hm with rfl | hm
     ·exact hl
     exact ih m hm
theorem zlz (s : St) : ∀ n ∈ (numsR s).1, n < 2 ^ 63 := by
 unfold numsR
 cases hq : numR s with
 | mk n r =>
  cases r with
  | none => intro n h; cases h
  | some r =>
   dsimp only
   split
   ·intro n h; cases h
   have h1 := zkI n (some r)
   cases hg : numsG n (some r) with
   | mk l s' =>
    rw [hg] at h1
    cases s' with
    | none => intro n h; cases h
    | some x => exact h1
theorem zno {s : Sgm} (h : rightS s = true) (hl : (serS s).length ≤ 10000000) : SmS s ∧ s.docs.length ≤ 10000000 := by
 unfold serS at hl
 rw [if_pos h, yaa, yaa] at hl
 have h1 : s.docs.length ≤ (numsE (toN s.docs)).length := by
  have h2 := zcO (toN s.docs)
  have h3 : (toN s.docs).length = s.docs.length := by unfold toN; exact List.length_map _
  unfold numsE
  rw [yaa]; omega
 have h2 := zdT termE (fun t => (zfu t)) s.terms
 refine ⟨⟨OM, OM, fun t ht => ?_⟩, OM⟩
 have h3 := zbU termE s.terms t ht
 have h4 : (termE t).length = (numE t.field.toNat).length + ((textE t.word).length + (textE t.list).length) := by unfold termE; rw [List.length_append, List.length_append]
 have h5 := (zcN t.word).2
 have h6 := (zcN t.list).2
 exact ⟨OM, OM⟩
def wtG (l : List Sgm) : Nat := (l.map fun s => (serS s).length + 1).sum
theorem wtG_snoc (l : List Sgm) (s : Sgm) : wtG (l ++ [s]) = wtG l + ((serS s).length + 1) := by unfold wtG; rw [List.map_append, List.sum_append]; simp
theorem zpj {l : List Sgm} : ∀ s ∈ l, (serS s).length + 1 ≤ wtG l := by
 unfold wtG
 induction l with
 | nil => intro t h; cases h
 | cons a l ih =>
  intro t h
  rw [yas, yaY]
  rcases yah.1 h with rfl | h
  ·omega
  have := ih t h; omega
theorem zjM (l : List Sgm) : l.length ≤ wtG l := by
 unfold wtG
 induction l with
 | nil => exact yag _
 | cons a l ih => rw [yas, yaY, yab]; omega
theorem znG {l : List Sgm} {D : List Nat} {c : Nat} (hw : wtG l ≤ c) (hD : D.length ≤ c) (hd : ∀ n ∈ D, n < 2 ^ 63) (hc : c ≤ 1000000000) : (serX ⟨l, iL D⟩).length ≤ 18 + 20 * c := by
 have hl := zjM l
 have h1 := zap (n := l.length) OM
 have h2 : (numsE (toN (iL D))).length ≤ 9 + 9 * D.length := by
  have e : ∀ l : List Nat, toN (iL l) = l := fun l => by
   induction l with
   | nil => rfl
   | cons a l ih => show (a : Int).toNat :: toN (iL l) = _; rw [ih]; rfl
  rw [e D]
  unfold numsE
  have h2 := zap (n := D.length) OM
  have h3 := zbC D hd
  rw [yaa]; omega
 have h3 : ∀ l : List Sgm, wtG l ≤ c → (l.flatMap segE).length ≤ 10 * wtG l := by
  intro l
  induction l with
  | nil => intro _; exact yal _
  | cons a l ih =>
   intro h
   unfold wtG at h ih ⊢
   rw [yas, yaY] at h ⊢
   have i1 := ih OM
   have i2 : (segE a).length ≤ 9 + (serS a).length := zcH OM
   rw [yao, yaa]
   omega
 have h4 := h3 l hw
 unfold serX
 dsimp only
 rw [yaa, yaa]
 omega
theorem IxM.fp_ge {w : World} {b : Nat} {sv dv : Sl} {l : List (Sv × Sgm)} {x : Ix} (h : IxM w b sv dv l x) : ∀ q, fpX b sv dv l q → b ≤ q := fun q e => by
 rcases e with e | e | e | ⟨p, hp, e | e⟩
 ·omega
 ·have := (h.sg.lt q e).1; omega
 ·have := (h.dd.lt q e).1; omega
 ·have := ((h.el p hp).t.lt q e).1; omega
 have := ((h.el p hp).d.lt q e).1; omega
section
variable {w : World}
theorem zpf (u : List UInt8) (hu : u.length ≤ 10000000) (hE : CEnv w) : Calls Tryz.prog 12 #[.string (str u)] w fun e w' =>
  (match zbA u with
  | none => e = .returned (.tuple #[.pointer none, .bool false])
  | some x => ∃ b sv dv l, e = .returned (.tuple #[.pointer (some ⟨b, 0, none⟩), .bool true]) ∧ w.heap.size ≤ b ∧ IxM w' b sv dv l x) ∧ Kp w w' n_ := by
 refine zaa (args := [.string (str u)]) Tryz.func12 rfl NL ?_; refine GW ?_
 refine Ya (Tryz.call50 _ _) (zjG (w := w) (str u)) ?_
 rintro e w1 ⟨rfl, h1, k1⟩
 have hstr : L (str u) = u := rfl
 rw [hstr] at h1
 obtain ⟨rb, hrb⟩ : ∃ rb, w.heap.size = rb := ⟨_, rfl⟩
 rw [hrb] at h1 ⊢
 refine RT ?_
 refine KGO ?_
 refine Ye (zlf _) ?_
 refine KGO ?_
 obtain ⟨a_b5, v_b5, k_w2, z_w2, r_w2⟩ := new5 w1 84 ([.slice none 0 0, .slice none 0 0])
 generalize w1.alloc (.cells (List.toArray ([.slice none 0 0, .slice none 0 0])) 84) = w2 at *
 generalize hs_b5 : w1.heap.size = b5 at *
 have h2 := h1.keep0 k_w2
 have K2 := k1.trans0 k_w2
 have hrb5 : rb < b5 := by have := h1.lt; omega
 have x2 : IxM w2 b5 ⟨none, 0, 0⟩ ⟨none, 0, 0⟩ [] ⟨[], []⟩ := ⟨v_b5, World.ownsRow_nil _ _ _ _, World.ownsRow_nil _ _ _ _, (fun p h => by cases h), rfl, (fun p h => by cases h)⟩
 refine KGO ?_
 refine Ya (Tryz.call51 _ _) (zcx (w := w2) (some u) h2 (fun x e => by injection e with e; subst e; omega)) ?_
 rintro e w3 ⟨rfl, h3, k3⟩
 have hlt := zaW (some u)
 have hnl := zbs (some u)
 rw [show stL (some u) = u.length from rfl] at hnl
 have hpar : parX u = match (segsR (numR (some u)).1 (numR (some u)).2).1 with | none => none | some l => if (numsR (segsR (numR (some u)).1 (numR (some u)).2).2).2 = some [] then some ⟨l, iL (numsR (segsR (numR (some u)).1 (numR (some u)).2).2).1⟩ else none := rfl
 have x3 : IxM w3 b5 ⟨none, 0, 0⟩ ⟨none, 0, 0⟩ [] ⟨[], []⟩ := x2.keepF k3 fun q e e' => by have := x2.fp_ge q e; have e' : q = rb := e'; omega
 have K3 : Kp w w3 n_ := keeps_new K2 k3 OM
 generalize numR (some u) = q at *
 obtain ⟨n0, s0⟩ := q
 dsimp only at h3 hlt hnl hpar ⊢
 clear h1 h2 k1 k3 x2 v_b5 a_b5 K2
 refine RT ?_
 refine Yc (ι := Nat × St × Sl × List (Sv × Sgm)) (fun q => [(0, .string (str u)), (4, .pointer (some ⟨rb, 0, none⟩)), (5, .pointer (some ⟨b5, 0, none⟩)), (6, .int .i64 (q.1 : Nat))])
  (fun q wr => Kp w wr n_ ∧ VarK wr rb 139 (rdC q.2.1) ∧ IxM wr b5 q.2.2.1 ⟨none, 0, 0⟩ q.2.2.2 ⟨q.2.2.2.map (·.2), []⟩ ∧ q.1 ≤ n0 ∧ (segsR n0 s0).1 = (segsR q.1 q.2.1).1.map (q.2.2.2.map (·.2) ++ ·) ∧ (segsR n0 s0).2 = (segsR q.1 q.2.1).2 ∧ wtG (q.2.2.2.map (·.2)) + stL q.2.1 ≤ u.length ∧ ∀ p ∈ q.2.2.2, rightS p.2 = true)
  (fun q => q.1) (n0, s0, ⟨none, 0, 0⟩, []) FR ⟨K3, h3, x3, yag _, by cases (segsR n0 s0).1 <;> rfl, rfl, by show 0 + stL s0 ≤ _; omega, fun p h => by cases h⟩ ?_
 clear h3 x3 K3
 rintro ⟨k, st, sv, l⟩ gg wr ⟨hK, hv, hX, hkn, hs1, hs2, hwt, hri⟩
 dsimp only at hv hX hkn hs1 hs2 hwt hri ⊢
 have hll := zjM (l.map (·.2))
 rw [yaf] at hll
 have zr := hK.size
 refine GW ?_
 by_cases hx : 0 < k ∧ stL st ≠ 0
 ·obtain ⟨hk0, hs0⟩ := hx
  obtain ⟨k, rfl⟩ : ∃ k', k = k' + 1 := ⟨k - 1, OM⟩
  rw [segsR, if_neg hs0] at hs1 hs2
  have hwr := zjo hs0
  have hsu : ∀ x, st = some x → x.length ≤ 140737488355328 := fun x e => by subst e; simp only [stL] at hwt; omega
  refine KGO ?_
  refine Ya (Tryz.call52 _ _) (zeO (w := wr) st hv) ?_
  rintro e w4 ⟨rfl, k4⟩
  have hv4 := hv.keep0 k4
  have X4 := hX.keep0 k4
  have K4 := hK.trans0 k4
  refine RT ?_
  refine KGO ?_
  refine Ya (Tryz.call54 _ _) (zhx (w := w4) st hv4 hsu) ?_
  rintro e w5 ⟨rfl, h5, k5⟩
  have X5 := X4.keepF k5 fun q e e' => by have := X4.fp_ge q e; have e' : q = rb := e'; omega
  have K5 : Kp w w5 n_ := keeps_new K4 k5 OM
  clear hv hX hv4 X4 k4 k5 hsu
  generalize (textR st).1 = T at *
  generalize (textR st).2 = st' at *
  refine RT ?_
  refine Ya (Tryz.call53 _ _) (zss (w := w5) T OM (hE.keep K5)) ?_
  rintro e w6 ⟨⟨hg, rfl, hog⟩, k6⟩
  have X6 := X5.keep0 k6
  have h6 := h5.keep0 k6
  have K6 := K5.trans0 k6
  have z5 := K5.size
  have hb5 := X5.var.lt
  refine RT ?_
  cases hrs : readS T with
  | none =>
   rw [hrs] at hs1
   have hno : zbA u = none := by unfold zbA; rw [hpar, hs1]; rfl
   refine KGO ?_
   refine Yg (vs := sgC hg) (by rfl) rfl (zak (by rfl)) ?_
   obtain ⟨a_b7, k_w7, z_w7⟩ := new3 w6 65 (sgC hg)
   generalize w6.alloc (.cells (List.toArray (sgC hg)) 65) = w7 at *
   generalize hs_b7 : w6.heap.size = b7 at *
   refine KGO ?_
   rw [hno]
   exact ⟨rfl, K6.trans0 k_w7⟩
  | some g =>
   have og := hog g hrs
   obtain ⟨hgr, hgs⟩ := (zfo OM).1 hrs
   rw [hrs] at hs1 hs2
   dsimp only at hs1 hs2
   refine KGO ?_
   refine Yg (vs := sgC hg) (by rfl) rfl (zak (by rfl)) ?_
   obtain ⟨a_b7, k_w7, z_w7⟩ := new3 w6 65 (sgC hg)
   generalize w6.alloc (.cells (List.toArray (sgC hg)) 65) = w7 at *
   generalize hs_b7 : w6.heap.size = b7 at *
   have X7 := X6.keep0 k_w7
   have X6s : ∀ q, sv.v.ownBlock = some q → q < b7 := fun q e => by have := (X6.sg.lt q e).2; omega
   have h7 := h6.keep0 k_w7
   have og7 := og.keep k_w7
   have K7 := K6.trans0 k_w7
   have q7 := Yb w7 n_
   obtain ⟨aS, cS, es⟩ := zab X7.sg
   obtain ⟨sa, sn, sc⟩ := sv
   injection es with e1 e2 e3
   dsimp only at e1 e2 e3
   subst e1 e2 e3
   have a57 := X7.var.at
   dsimp only at a57
   have a7 : At w7 b7 0 [.slice hg.t.a hg.t.n hg.t.c, .slice hg.d.a hg.d.n hg.d.c] := a_b7
   clear hrs hs0 hog X5 X6 h5 h6 K5 K6 k6 k_w7 K4
   refine KGO ?_
   have hown : ∀ q, own_ (.slice sa l.length sc) q → q < w7.heap.size ∧ b5 + 1 ≤ q := fun q e => ⟨(X7.sg.lt q e).2, (X7.sg.lt q e).1⟩
   have hn5 : ¬ own_ (.slice sa l.length sc) b5 := fun e => by have := hown b5 e; omega
   have hn7 : ¬ own_ (.slice sa l.length sc) b7 := fun e => by have := (X6s b7 e); omega
   refine Yh (fun v => Kp w7 v (own_ (.slice sa l.length sc))) (fun _ => true) (by simp) (by decide +kernel) (by decide +kernel) (Yb _ _).drew ?_
   refine KGO ?_
   refine Yf (by rfl) (fun v hv => zaI a57 hv hn5 0 _ rfl) ?_
   refine KGO ?_
   refine HeldG (sgC hg) (by rfl) (by rfl) (fun v hv => zaI a7 hv hn7) (by rfl) ?_
   refine KGO ?_
   refine Ye (bs1Sg hg _) ?_
   have kd := (Yb w7 n_).drew
   obtain ⟨a_b8, v_b8, k_w8, z_w8, r_w8⟩ := new5 w7.drew 65 (sgC hg)
   generalize w7.drew.alloc (.cells (List.toArray (sgC hg)) 65) = w8 at *
   generalize hs_b8 : w7.drew.heap.size = b8 at *
   have k78 := kd.trans0 k_w8
   refine ⟨k78.of_none, ?_⟩
   have X8 := X7.keep0 k78
   have h8 := h7.keep0 k78
   have K8 := K7.trans0 k78
   have z8 := k78.size
   refine KGO ?_
   refine tySg.app1W (hg, g) X8.sg (by have := X8.var.lt; omega) a_b8 OM OM fun v9 w9 o9 k9 f9 => ?_
   obtain ⟨a9, c9, rfl⟩ := zab o9
   refine ⟨k78.of_none.trans' k9, ?_⟩
   have vv9 := X8.var.keep k9 hn5
   refine KGO ?_
   refine Yd (i := 0) vv9 (by simp) (by rfl) ⟨rfl, by simp, by simp⟩ fun w10 v10 k10 => ?_
   refine KGO ?_
   have og8 := og7.keep k78
   have hst2 : stL st' + (T.length + 1) ≤ stL st := OM
   refine ⟨(k, st', ⟨a9, _, c9⟩, l ++ [(hg, g)]), ⟨rfl, rfl, rfl, v_int OM, trivial⟩, ⟨?_, ?_, ⟨v10, zal o9 k10 OM, World.ownsRow_nil _ _ _ _, fun p hp => ?_, rfl, fun p hp q e e' => by cases e'⟩, DO, ?_, hs2, ?_, fun p hp => ?_⟩, DO⟩
   ·exact (K8.trans k9 fun q hq e => by have := hown q e; omega).trans k10 fun q hq e => by have e : q = b5 := e; omega
   ·have hnr : ¬ own_ (.slice sa l.length sc) rb := fun e => by have := hown rb e; omega
    exact (h8.keep k9 hnr).keep k10 (show ¬ rb = b5 by omega)
   ·have ep : OwS w8 (b5 + 1) p.1 p.2 := by
     rcases yaj.1 hp with hp | hp
     ·exact X8.el p hp
     rw [yac.1 hp]
     exact og8.base OM
    exact ⟨zal (own_keep ep.t k9 (zas ep.t X8.sg (by decide))) k10 OM, zal (own_keep ep.d k9 (zas ep.d X8.sg (by decide))) k10 OM⟩
   ·rw [hs1, Option.map_map]
    congr 1
    funext z
    simp
   ·dsimp only
    rw [yaL, List.map_singleton, wtG_snoc, hgs]
    omega
   rcases yaj.1 hp with hp | hp
   ·exact hri p hp
   rw [yac.1 hp]; exact hgr
 have hfin : (segsR n0 s0).1 = some (l.map (·.2)) ∧ (segsR n0 s0).2 = st := by
  have hz : segsR k st = (some [], st) := by
   cases k with
   | zero => rfl
   | succ k =>
    have hs0 : stL st = 0 := Decidable.byContradiction fun h => hx ⟨OM, h⟩
    rw [segsR, if_pos hs0]
  rw [hz] at hs1 hs2
  exact ⟨by rw [hs1]; simp, hs2⟩
 rw [hfin.1, hfin.2] at hpar
 dsimp only at hpar
 clear hfin hs1 hs2
 have hnw := zff st
 have hn63 := zlz st
 have hsm : ∀ s ∈ l.map (·.2), SmS s ∧ s.docs.length ≤ 10000000 := fun s hs => by
  obtain ⟨p, hp, rfl⟩ := yay.1 hs
  have := zpj p.2 hs
  exact zno (hri p hp) OM
 have hsu : stL st ≤ 140737488355328 / 16 := OM
 have hrd : zbA u = match parX u with | none => none | some x => if zaS x = true ∧ serX x = u then some x else none := rfl
 by_cases hk0 : 0 < k
 rotate_left
 refine KGO ?_
 generalize wr = wz at *
 rotate_left
 have hs0 : stL st = 0 := Decidable.byContradiction fun h => hx ⟨hk0, h⟩
 refine KGO ?_
 refine Ya (Tryz.call52 _ _) (zeO (w := wr) st hv) ?_
 rintro e wz ⟨rfl, kz⟩
 replace hv := hv.keep0 kz
 replace hX := hX.keep0 kz
 replace hK := hK.trans0 kz
 clear kz zr
 refine RT ?_
 refine KGO ?_
 all_goals
  clear hx hk0
  have zz := hK.size
  have hb5z := hX.var.lt
  refine Ya (Tryz.call55 _ _) (zkt (w := wz) st hv (by unfold stLen; exact hsu)) ?_
  rintro e w6 ⟨v6, rfl, o6, h6, k6⟩
  have X6 := hX.keepF k6 fun q e e' => by have := hX.fp_ge q e; have e' : q = rb := e'; omega
  have K6 : Kp w w6 n_ := keeps_new hK k6 OM
  have hlt6 : ∀ p ∈ l, ∀ q, p.1.d.v.ownBlock = some q → q < wz.heap.size := fun p hp q e => ((hX.el p hp).d.lt q e).2
  generalize hq : numsR st = q at *
  obtain ⟨D, st2⟩ := q
  dsimp only at o6 h6 hpar hnw hn63
  obtain ⟨aD, cD, rfl⟩ := zab o6
  rw [zbl] at *
  refine RT ?_
  refine KGO ?_
  refine Yd (i := 1) X6.var (by simp) (by rfl) ⟨rfl, by simp, by simp⟩ fun w7 v7 k7 => ?_
  have o6b : OwnI w6 (b5 + 1) (.slice aD D.length cD) (iL D) := own_base o6 (show b5 + 1 ≤ wz.heap.size by omega)
  have X7 : IxM w7 b5 sv ⟨aD, D.length, cD⟩ l ⟨l.map (·.2), iL D⟩ := ⟨v7, zal X6.sg k7 OM, zal o6b k7 OM, fun p hp => ⟨zal (X6.el p hp).t k7 OM, zal (X6.el p hp).d k7 OM⟩, rfl, fun p hp q e e' => by have := hlt6 p hp q e; have := (o6.lt q e').1; omega⟩
  have h7 := h6.keep k7 (show ¬ rb = b5 by omega)
  have K7 : Kp w w7 n_ := keeps_new K6 k7 OM
  clear X6 h6 hX hv hK K6 o6 o6b v7 hlt6
  refine KGO ?_
  have hdu : ∀ x, st2 = some x → x.length ≤ 140737488355328 := fun x e => by subst e; have : x.length = stL (some x) := rfl; omega
  refine Ya (Tryz.call56 _ _) (zhV (w := w7) st2 h7 hdu) ?_
  rintro e w8 ⟨rfl, k8⟩
  have X8 := X7.keep0 k8
  have K8 := K7.trans0 k8
  refine RT ?_
  by_cases hdone : st2 = some []
  rotate_left
  ·rw [decide_eq_false hdone]
   rw [if_neg hdone] at hpar
   have hno : zbA u = none := by rw [hrd, hpar]
   refine KGO ?_
   rw [hno]
   exact ⟨rfl, K8⟩
  rw [decide_eq_true hdone]
  rw [if_pos hdone] at hpar
  rw [hpar] at hrd
  dsimp only at hrd
  have hil : (iL D).length = D.length := zbl D
  have hlm : (l.map (·.2)).length = l.length := yaf _
  generalize hXX : (⟨l.map (·.2), iL D⟩ : Ix) = XX at *
  have hsg : XX.segs = l.map (·.2) := by rw [← hXX]
  have hdd : XX.dead = iL D := by rw [← hXX]
  refine KGO ?_
  refine Ya (Tryz.call57 _ _) (zqW (w := w8) (x := XX) X8.v (own_rowO X8.dd) X8.eq (by rw [hsg, hlm]; omega) (by rw [hdd, hil]; omega) (fun s hs => by rw [hsg] at hs; have := (hsm s hs).2; omega)) ?_
  rintro e w9 ⟨rfl, k9⟩
  have X9 := X8.keep0 k9
  have K9 := K8.trans0 k9
  refine RT ?_
  cases hva : zaS XX with
  | false =>
   have hno : zbA u = none := by rw [hrd, hva]; rfl
   refine KGO ?_
   rw [hno]
   exact ⟨rfl, K9⟩
  | true =>
  have hsb : SerB XX := ⟨fun s hs => by rw [hsg] at hs; have := hsm s hs; exact ⟨this.1, OM⟩, by rw [hsg, hlm]; omega, by rw [hdd, hil]; omega, fun d hd => by
   rw [hdd] at hd
   obtain ⟨n, hn, rfl⟩ := yay.1 hd
   have := hn63 n hn
   omega, by rw [← hXX]; exact yaw (znG (c := u.length) OM OM hn63 OM) OM⟩
  refine KGO ?_
  refine Ya (Tryz.call14 _ _) (zhC (w := w9) (x := XX) X9.v (own_rowO X9.dd) X9.eq hsb (hE.keep K9)) ?_
  rintro e w10 ⟨rfl, k10⟩
  have X10 := X9.keep0 k10
  have K10 := K9.trans0 k10
  refine RT ?_
  by_cases heq : serX XX = u
  rotate_left
  ·have hno : zbA u = none := by rw [hrd]; exact if_neg fun h => heq h.2
   refine KGO ?_
   refine Br.dec_no (fun h => heq (zbB.1 h)) ?_
   refine GW ?_
   refine KGO ?_
   rw [hno]
   exact ⟨rfl, K10⟩
  have hyes : zbA u = some XX := by rw [hrd]; exact if_pos ⟨hva, heq⟩
  rw [heq]
  refine KGO ?_
  rw [hyes]
  exact ⟨⟨b5, sv, ⟨aD, D.length, cD⟩, l, rfl, OM, X10⟩, K10⟩
end
def t36 (s b : List UInt8) : List (List UInt8) := [[], [], [], s, b, []]
def tA : List (List UInt8) := t36 [97, 32, 98] [120]
def tB : List (List UInt8) := t36 [98, 32, 97] [97, 32, 98]
theorem wo_1 : wordsOf [97, 32, 98] = [[97], [98]] := by decide +kernel
theorem wo_2 : wordsOf [98, 32, 97] = [[98], [97]] := by decide +kernel
theorem zfc {tx : List (List UInt8)} (h : tx = tA ∨ tx = tB) : ∀ t ∈ tx, t.length ≤ 1000000000 := fun t ht => by
 rcases h with rfl | rfl
 ·have : ∀ t ∈ tA, t.length ≤ 1000000000 := by decide
  exact this t ht
 have : ∀ t ∈ tB, t.length ≤ 1000000000 := by decide
 exact this t ht
theorem zjl {d : Int} (h1 : 1 ≤ d) (h2 : d ≤ 1099511627776) {tx : List (List UInt8)} (ht : ∀ t ∈ tx, t.length ≤ 1000000000) : Built (zcq (entsX d tx)) (entsX d tx) ∧ (zcq (entsX d tx)).docs = [d] := by
 have hk := (zdP h1 h2 tx).2
 have hg : ∀ f, (tx.getD f []).length ≤ 1000000000 := fun f => by
  rw [List.getD_eq_getElem?_getD]
  cases hq : tx[f]? with
  | none => exact yal _
  | some s => exact ht s (List.mem_of_getElem? hq)
 have hb := built_E hk fun e he => by
  unfold entsX at he
  simp only [yah, yaS, or_false] at he
  rcases he with rfl | rfl | rfl | rfl | rfl <;> exact hg _
 refine ⟨hb, zce stoI _ _ (zah.1 hb.right).1.1 (by unfold AscB; simp) fun z => (hb.docs z).trans ?_⟩
 rw [yac]
 constructor
 ·rintro ⟨e, he, rfl⟩
  exact zcW he
 rintro rfl
 exact ⟨⟨z, 1, tx.getD 1 []⟩, by unfold entsX; exact List.mem_cons_self, rfl⟩
def sA : Sgm := zcq (entsX 3 tA)
def sB : Sgm := zcq (entsX 5 tB)
theorem sA_ok : Built sA (entsX 3 tA) ∧ sA.docs = [3] := zjl (by decide) (by decide) (zfc (.inl rfl))
theorem sB_ok : Built sB (entsX 5 tB) ∧ sB.docs = [5] := zjl (by decide) (by decide) (zfc (.inr rfl))
theorem sm_a : addX zeP 3 tA = (0, ⟨[sA], []⟩) := by
 unfold addX
 rw [if_neg (by decide), if_neg (by decide)]
 rfl
theorem memA (d : Int) : memB [sA] d = decide (d = 3) := by
 unfold memB
 simp [sA_ok.2]
theorem memAB (d : Int) : memB [sA, sB] d = (decide (d = 3) || decide (d = 5)) := by
 unfold memB
 simp [sA_ok.2, sB_ok.2]
theorem sm_b : addX ⟨[sA], []⟩ 5 tB = (0, ⟨[sA, sB], []⟩) := by
 have h1 : zco ⟨[sA], []⟩ 5 = false := by unfold zco; rw [memA]; rfl
 have h2 : findX [sA] 5 = none := by
  unfold findX
  rw [List.findIdx?_eq_none_iff]
  intro s hs
  rw [yac.1 hs, sA_ok.2]; rfl
 have h3 : readX ⟨[sA], []⟩ 5 = ⟨[sA], []⟩ := by unfold readX; dsimp only; rw [h2]
 unfold addX
 rw [if_neg (by decide), h1, if_neg (by decide), h3]
 rfl
theorem zrz : zco ⟨[sA, sB], []⟩ 3 = true := by unfold zco; rw [memAB]; rfl
theorem sm_c (tx : List (List UInt8)) : addX ⟨[sA, sB], []⟩ 3 tx = (4, ⟨[sA, sB], []⟩) := by
 unfold addX
 rw [if_neg (by decide), zrz, if_pos rfl]
theorem sm_e (tx : List (List UInt8)) (x : Ix) : addX x 0 tx = (1, x) := by
 unfold addX
 rw [if_pos (by decide)]
theorem sm_d : dropX ⟨[sA, sB], []⟩ 3 = (true, ⟨[sA, sB], [3]⟩) := by
 unfold dropX
 rw [zrz, if_pos rfl]
 rfl
theorem sm_d2 : dropX ⟨[sA, sB], [3]⟩ 3 = (false, ⟨[sA, sB], [3]⟩) := by
 unfold dropX
 rw [show zco ⟨[sA, sB], [3]⟩ 3 = false by unfold zco; simp]
 rfl
theorem run_1 : RunOk (⟨[sA], []⟩, [(3, tA)]) := by
 have h := (znn zoV (doc := 3) (tx := tA) (zfc (.inl rfl)) (by decide) (fun e he => by cases he)).2
 dsimp only at h
 rw [sm_a] at h
 exact h
theorem run_2 : RunOk (⟨[sA, sB], []⟩, [(3, tA), (5, tB)]) := by
 have h := (znn run_1 (doc := 5) (tx := tB) (zfc (.inr rfl)) (by decide) (fun e he => by rw [yac.1 he]; decide)).2
 dsimp only at h
 rw [sm_b] at h
 exact h
theorem run_3 : RunOk (⟨[sA, sB], [3]⟩, [(5, tB)]) := by
 have h := zod run_2 ⟨2, 3, [], 0, [], []⟩ (fun t ht => by cases ht)
 unfold runS at h
 dsimp only at h
 rw [if_neg (by decide), if_pos (by decide), sm_d, if_pos rfl] at h
 exact h
theorem zns {p : Ix × List LDoc} (h : RunOk p) {field : Int} {ws : List (List UInt8)} (hw : ws ≠ []) {l : List Int} (hl : AscB ltI l) (h1 : ∀ e ∈ p.2, hasPh e.2 field ws → e.1 ∈ l) (h2 : ∀ d ∈ l, ∃ e ∈ p.2, e.1 = d ∧ hasPh e.2 field ws) : zbH p.1 field ws = l :=
 zce stoI _ _ (zjQ _ _ _) hl fun z => by
  constructor
  ·intro hz
   obtain ⟨e, he, rfl⟩ := (h.lv z).1 ((zfr _ _).1 (zjR h.ok hz))
   exact h1 e he ((zhf h field hw he).1 hz)
  intro hz
  obtain ⟨e, he, rfl, hp⟩ := h2 z hz
  exact (zhf h field hw he).2 hp
theorem zlF {l : List (List UInt8)} {a b : List UInt8} (p : Nat) (h1 : l[p]? = some a) (h2 : l[p + 1]? = some b) : ∀ (i : Nat) (h : i < [a, b].length), l[p + i]? = some [a, b][i] := fun i h => by
 match i, h with
 | 0, _ => exact h1
 | 1, _ => exact h2
theorem ztX : zbH ⟨[sA, sB], []⟩ 0 [[97], [98]] = [3, 5] := by
 refine zns run_2 (by decide) (by unfold AscB; decide) (fun e he _ => ?_) (fun d hd => ?_)
 ·simp only [yah, yaS, or_false] at he
  rcases he with rfl | rfl <;> simp
 simp only [yah, yaS, or_false] at hd
 rcases hd with rfl | rfl
 ·exact ⟨(3, tA), yae, rfl, 3, by decide, .inl rfl, 0, zlF 0 (by rw [show tA.getD (3 : Int).toNat [] = [97, 32, 98] from rfl, wo_1]; rfl) (by rw [show tA.getD (3 : Int).toNat [] = [97, 32, 98] from rfl, wo_1]; rfl)⟩
 exact ⟨(5, tB), yai _ yae, rfl, 4, by decide, .inl rfl, 0, zlF 0 (by rw [show tB.getD (4 : Int).toNat [] = [97, 32, 98] from rfl, wo_1]; rfl) (by rw [show tB.getD (4 : Int).toNat [] = [97, 32, 98] from rfl, wo_1]; rfl)⟩
theorem ztN : zbH ⟨[sA, sB], []⟩ 3 [[98], [97]] = [5] := by
 refine zns run_2 (by decide) (by unfold AscB; decide) (fun e he hp => ?_) (fun d hd => ?_)
 ·simp only [yah, yaS, or_false] at he
  rcases he with rfl | rfl
  ·exfalso
   obtain ⟨f, _, hf, p, h⟩ := hp
   rcases hf with hf | rfl
   ·cases hf
   have e1 : wordsOf (tA.getD (3 : Int).toNat []) = [[97], [98]] := wo_1
   dsimp only at h
   rw [e1] at h
   have h0 := h 0 (by decide)
   have h1 := h 1 (by decide)
   match p with
   | 0 => exact absurd h0 (by decide)
   | 1 => exact absurd h1 (by decide)
   | p + 2 => simp at h0
  simp
 rw [yac.1 hd]
 exact ⟨(5, tB), yai _ yae, rfl, 3, by decide, .inr rfl, 0, zlF 0 (by rw [show tB.getD (3 : Int).toNat [] = [98, 32, 97] from rfl, wo_2]; rfl) (by rw [show tB.getD (3 : Int).toNat [] = [98, 32, 97] from rfl, wo_2]; rfl)⟩
theorem zqE : zbH ⟨[sA, sB], [3]⟩ 0 [[97], [98]] = [5] := by
 refine zns run_3 (by decide) (by unfold AscB; decide) (fun e he _ => ?_) (fun d hd => ?_)
 ·rw [yac.1 he]; simp
 rw [yac.1 hd]
 exact ⟨(5, tB), yae, rfl, 4, by decide, .inl rfl, 0, zlF 0 (by rw [show tB.getD (4 : Int).toNat [] = [97, 32, 98] from rfl, wo_1]; rfl) (by rw [show tB.getD (4 : Int).toNat [] = [97, 32, 98] from rfl, wo_1]; rfl)⟩
theorem ztm : ∃ p : Pst, lookX ⟨[sA, sB], [3]⟩ 4 (eqW [97]) = [p] ∧ p.doc = 5 := by
 obtain ⟨hr, hs⟩ := zby ⟨[sA, sB], [3]⟩ 4 (eqW [97])
 have hm : (lookX ⟨[sA, sB], [3]⟩ 4 (eqW [97])).map (·.doc) = [5] := by
  refine zce stoI _ _ (zeh.1 (zbg hr)) (by unfold AscB; decide) fun d => (zdI hr d).trans ?_
  rw [yac]
  constructor
  ·rintro ⟨z, hz⟩
   obtain ⟨k, _, hk⟩ := (hs d z).1 hz
   obtain ⟨e, he, rfl⟩ := (run_3.lv d).1 (zjW run_3.ok hk)
   rw [yac.1 he]
  rintro rfl
  refine ⟨0, (hs 5 0).2 ⟨(4, [97]), by decide, ?_⟩⟩
  have := run_3.pl (4, [97]) 5
  dsimp only at this
  rw [this]
  show (0 : Int) ∈ placesE (entsX 5 tB ++ []) (4, [97]) 5
  rw [yaA, places_tx, if_pos (by decide), show tB.getD (4 : Int).toNat [] = [97, 32, 98] from rfl, wo_1]
  decide
 match h : lookX ⟨[sA, sB], [3]⟩ 4 (eqW [97]), hm with
 | [p], hm => exact ⟨p, rfl, by simpa using hm⟩
 | [], hm => simp at hm
 | p :: q :: l, hm => simp at hm
def sAB : Sgm := twoS sA sB [3]
theorem zhN : sAB.docs = [5] := by
 have hr : rightS sAB = true := zcJ _ _ _
 refine zce stoI _ _ (zah.1 hr).1.1 (by unfold AscB; decide) fun d => ?_
 have h := zul sA sB [3] d
 have hv : ∀ {s : Sgm}, rightS s = true → validS s = s := fun h => if_pos h
 unfold dS at h
 rw [hv (show rightS (twoS sA sB [3]) = true from hr), hv sA_ok.1.right, hv sB_ok.1.right, sA_ok.2, sB_ok.2] at h
 rw [show sAB.docs = (twoS sA sB [3]).docs from rfl, h]
 simp only [yac]
 omega
theorem zoO : stepX ⟨[sA, sB], [3]⟩ = (true, ⟨[sAB], []⟩) := by
 have h1 : (([sA, sB] : List Sgm).map fun s => (s.docs.length : Int)) = [1, 1] := by
  show [((sA.docs.length : Nat) : Int), ((sB.docs.length : Nat) : Int)] = _
  rw [sA_ok.2, sB_ok.2]; rfl
 unfold stepX
 dsimp only
 rw [h1, show pickL [1, 1] = some 0 by decide +kernel]
 have h2 : replX ⟨[sA, sB], [3]⟩ 0 2 sAB = ⟨[sAB], []⟩ := by
  show cleanX ⟨[sAB], [3]⟩ = _
  have hf : fullL [sAB] = [sAB] := by unfold fullL; simp [zhN]
  unfold cleanX
  dsimp only
  rw [hf]
  have : memB [sAB] 3 = false := by unfold memB; simp [zhN]
  simp [this]
 exact congrArg (Prod.mk true) h2
theorem zsd : docsX ⟨[sAB], []⟩ = [5] := by
 unfold docsX
 simp [zhN, sortL]
theorem iw_1 : Iw ⟨[sA], []⟩ 5 55 52 := by
 have h := Iw.add Iw.empty (doc := 3) (tx := tA) rfl (by decide)
 rw [sm_a] at h
 exact h
theorem iw_2 : Iw ⟨[sA, sB], []⟩ 10 130 120 := by
 have h := Iw.add iw_1 (doc := 5) (tx := tB) rfl (by decide)
 rw [sm_b] at h
 exact h
theorem iw_3 : Iw ⟨[sA, sB], [3]⟩ 10 130 120 := by
 have h := Iw.drop iw_2 3
 rw [sm_d] at h
 exact h
theorem iw_4 : Iw ⟨[sAB], []⟩ 10 130 120 := by
 have h := Iw.step iw_3
 rw [zoO] at h
 exact h
end Go.Proofs.YtennokckmjcefaaGreatDoor
