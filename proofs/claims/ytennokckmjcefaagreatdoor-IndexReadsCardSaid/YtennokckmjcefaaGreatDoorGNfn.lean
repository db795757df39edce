/- Helper lemmas; no conditions of their own. -/
import Derived.Test.YtennokckmjcefaaGreatDoorGNfm
set_option linter.unusedVariables false
set_option maxHeartbeats 8000000
set_option maxRecDepth 100000
namespace Go.Proofs.YtennokckmjcefaaGreatDoor
open Go.Shelf Go.RowKit Go.Pw Go.Vc Go.Cs Go.Lib Go.Cd Go.Mg
theorem zpr (f : Int) (w : World) : (Instr.build 141 #[(0, .int .i64 f)]).run Tryz.prog w = .ok (.agg #[.int .i64 f, .string ⟨#[]⟩, .string ⟨#[]⟩]) w := by
 simp [Instr.build, Instr.fill, go_sem, Tryz.runUnderlying141]
section
variable {w : World}
theorem zpg (u : List UInt8) (hu : u.length ≤ 1000000) : Calls Tryz.prog 61 #[.string (str u)] w fun e w' =>
  (∃ h', e = .returned (.tuple #[.agg (sgC h').toArray, .bool (readS u).isSome]) ∧ ∀ s, readS u = some s → OwS w' w.heap.size h' s) ∧ Kp w w' n_ := by
 refine zaa (args := [.string (str u)]) Tryz.func61 rfl NL ?_; refine GW ?_
 obtain ⟨a_b2, v_b2, k_w1, z_w1, r_w1⟩ := new5 w 65 ([.slice none 0 0, .slice none 0 0])
 generalize w.alloc (.cells (List.toArray ([.slice none 0 0, .slice none 0 0])) 65) = w1 at *
 generalize hs_b2 : w.heap.size = b2 at *
 refine KGO ?_
 refine Ya (Tryz.call58 _ _) (zfy (w := w1) (str u)) ?_
 rintro e w2 ⟨rfl, h2, k2⟩
 have hstr : L (str u) = u := rfl
 rw [hstr] at h2
 obtain ⟨rb, hrb⟩ : ∃ rb, w1.heap.size = rb := ⟨_, rfl⟩
 rw [hrb] at h2 ⊢
 have K2 := k_w1.trans0 k2
 have vb2 := v_b2.keep0 k2
 have z2 := K2.size
 refine RT ?_
 refine KGO ?_
 refine Ya (Tryz.call63 _ _) (zgL (w := w2) (some u) h2 (by show u.length ≤ _; omega)) ?_
 rintro e w3 ⟨v3, rfl, o3, h3, k3⟩
 have vb3 := vb2.keep k3 (show ¬ b2 = rb by omega)
 have K3 : Kp w w3 n_ := keeps_new K2 k3 OM
 have hpar : parS u = (⟨(termsR (numR (numsR (some u)).2).1 (numR (numsR (some u)).2).2).1, iL (numsR (some u)).1⟩, (termsR (numR (numsR (some u)).2).1 (numR (numsR (some u)).2).2).2) := rfl
 have hN : ∀ s, rightS s = true → serS s = u → (numR (numsR (some u)).2).1 = s.terms.length := fun s h e => by
  have := (znB h (by rw [e]; omega)).2
  rwa [e] at this
 have hwd := zff (some u)
 rw [show stL (some u) = u.length from rfl] at hwd
 generalize numsR (some u) = q at *
 obtain ⟨D, s1⟩ := q
 dsimp only at o3 h3 hpar hwd hN ⊢
 obtain ⟨da, dc, rfl⟩ := zab o3
 rw [zbl] at *
 refine RT ?_
 refine KGO ?_
 refine Ye (zjj _ _ _ _) ?_
 refine KGO ?_
 have v_b5 := Yk w3 65 [.slice none 0 0, .slice da D.length dc]
 refine Yg (vs := [.slice none 0 0, .slice da D.length dc]) (by rfl) rfl (zak (by rfl)) ?_
 obtain ⟨a_b5, k_w4, z_w4⟩ := new3 w3 65 ([.slice none 0 0, .slice da D.length dc])
 generalize w3.alloc (.cells (List.toArray ([.slice none 0 0, .slice da D.length dc])) 65) = w4 at *
 generalize hs_b5 : w3.heap.size = b5 at *
 have h4 := h3.keep0 k_w4
 have vb4 := vb3.keep0 k_w4
 have o4 := own_keep0 o3 k_w4
 have K4 := K3.trans0 k_w4
 refine KGO ?_
 have hu1 : ∀ x, s1 = some x → x.length ≤ 140737488355328 := fun x e => by subst e; simp only [stL] at hwd; omega
 refine Ya (Tryz.call59 _ _) (zbo s1 h4 hu1) ?_
 rintro e w5 ⟨rfl, h5, k5⟩
 have hn63 := zaW s1
 have hnl := zbs s1
 have z3 := K3.size
 have hrb5 : rb < b5 := by have := h3.lt; omega
 have v55 := v_b5.keep k5 (show ¬ b5 = rb by omega)
 have vb5 := vb4.keep k5 (show ¬ b2 = rb by omega)
 have o5 := zad (D := [3]) o4 k5 (zag h4 (by decide)) (by decide)
 have K5 : Kp w w5 n_ := keeps_new K4 k5 OM
 generalize numR s1 = q at *
 obtain ⟨n0, s2⟩ := q
 dsimp only at h5 hpar hn63 hnl hN ⊢
 refine RT ?_
 refine KGO ?_
 clear h2 h3 h4 k2 k3 k5 vb2 vb3 vb4 o3 o4 K2 K3 K4 v_b5 v_b2 a_b2 a_b5 hu1
 refine Yc (ι := St × Sl × List Trm) (fun q => [(0, .string (str u)), (2, .pointer (some ⟨b2, 0, none⟩)), (4, .pointer (some ⟨rb, 0, none⟩)), (5, .pointer (some ⟨b5, 0, none⟩)), (6, .int .i64 (n0 : Nat)), (7, .int .i64 (q.2.2.length : Nat))])
  (fun q wr => Kp w wr n_ ∧ VarK wr b2 65 [.slice none 0 0, .slice none 0 0] ∧ VarK wr rb 145 (rdC q.1) ∧ VarK wr b5 65 [.slice q.2.1.a q.2.1.n q.2.1.c, .slice da D.length dc] ∧ OwnR 141 tmC 3 wr w.heap.size q.2.1.v q.2.2 ∧ OwnI wr w.heap.size (.slice da D.length dc) (iL D) ∧ q.2.2.length ≤ n0 ∧ q.2.2 ++ (termsR (n0 - q.2.2.length) q.1).1 = (termsR n0 s2).1 ∧ (termsR (n0 - q.2.2.length) q.1).2 = (termsR n0 s2).2 ∧ wtL q.2.2 + stL q.1 ≤ u.length)
  (fun q => n0 - q.2.2.length) (s2, ⟨none, 0, 0⟩, []) FR ⟨K5, vb5, h5, v55, World.ownsRow_nil _ _ _ _, own_base o5 OM, yal _, by simp, by simp, by show 0 + stL s2 ≤ _; omega⟩ ?_
 clear h5 v55 vb5 o5 K5 k_w4 k_w1
 rintro ⟨st, so, ts⟩ gg wr ⟨hK, hv2, hv, h5, ho, hod, htl, ht1, ht2, hwt⟩
 dsimp only at hv h5 ho hod htl ht1 ht2 hwt ⊢
 obtain ⟨aj, cj, ej⟩ := zab ho
 obtain ⟨ja, jn, jc⟩ := so
 injection ej with e1 e2 e3
 dsimp only at e1 e2 e3
 subst e1 e2 e3
 dsimp only at h5 ho
 have a5 := h5.at
 have htw := zjN ts
 have zr := hK.size
 have qr := Yb wr n_
 refine GW ?_
 by_cases hx : ts.length < n0 ∧ stL st ≠ 0
 ·obtain ⟨hlt, hs0⟩ := hx
  obtain ⟨k, hk⟩ : ∃ k, n0 - ts.length = k + 1 := ⟨n0 - ts.length - 1, OM⟩
  rw [hk, termsR, if_neg hs0] at ht1 ht2
  dsimp only at ht1 ht2
  have hwr := zlS hs0
  have htr : termR st = (⟨((numR st).1 : Nat), (textR (numR st).2).1, (textR (textR (numR st).2).2).1⟩, (textR (textR (numR st).2).2).2) := rfl
  have hsu : ∀ s x, s = some x → stL s ≤ stL st → x.length ≤ 140737488355328 := fun s x e h => by subst e; have h : x.length ≤ stL st := h; omega
  have l1 := zbs st
  have l2 := (zkS (numR st).2).2
  refine KGO ?_
  refine Ya (Tryz.call60 _ _) (zcC (w := wr) st hv) ?_
  rintro e w6 ⟨rfl, k6⟩
  have hv6 := hv.keep0 k6
  have h56 := h5.keep0 k6
  have hv26 := hv2.keep0 k6
  have ho6 := own_keep0 ho k6
  have hod6 := own_keep0 hod k6
  have K6 := hK.trans0 k6
  clear hv h5 hv2 ho hod a5 k6 qr
  refine RT ?_
  refine KGO ?_
  refine Ya (Tryz.call59 _ _) (zbo (w := w6) st hv6 (fun x e => hsu st x e (yag _))) ?_
  rintro e w7 ⟨rfl, h7, k7⟩
  have z7 := k7.size
  refine RT ?_
  refine KGO ?_
  refine Ye (zpr _ _) ?_
  refine KGO ?_
  have v_b8 := Yk w7 141 [.int .i64 ((numR st).1 : Nat), .string ⟨#[]⟩, .string ⟨#[]⟩]
  refine Yg (vs := [.int .i64 ((numR st).1 : Nat), .string ⟨#[]⟩, .string ⟨#[]⟩]) (by rfl) rfl (zak (by rfl)) ?_
  obtain ⟨a_b8, k_w8, z_w8⟩ := new3 w7 141 ([.int .i64 ((numR st).1 : Nat), .string ⟨#[]⟩, .string ⟨#[]⟩])
  generalize w7.alloc (.cells (List.toArray ([.int .i64 ((numR st).1 : Nat), .string ⟨#[]⟩, .string ⟨#[]⟩])) 141) = w8 at *
  generalize hs_b8 : w7.heap.size = b8 at *
  have S8 : Kp w6 w8 (one_ rb) := k7.trans' k_w8.of_none
  have h8 := h7.keep0 k_w8
  have hr8 : rb < b8 := by have := h7.lt; omega
  clear a_b8
  refine KGO ?_
  refine Ya (Tryz.call62 _ _) (zeD (w := w8) (numR st).2 h8 (fun x e => hsu _ x e l1)) ?_
  rintro e w9 ⟨rfl, h9, k9⟩
  have S9 := S8.trans' k9
  have v9 := v_b8.keep k9 (show ¬ b8 = rb by omega)
  refine RT ?_
  refine KGO ?_
  refine Yd (i := 1) v9 (by simp) (by rfl) ⟨rfl, by simp, by simp⟩ fun w10 v10 k10 => ?_
  have S10 : Kp w6 w10 (one_ rb) := S9.trans k10 fun q hq e => by have e : q = b8 := e; omega
  have h10 := h9.keep k10 (show ¬ rb = b8 by omega)
  refine KGO ?_
  refine Ya (Tryz.call62 _ _) (zeD (w := w10) (textR (numR st).2).2 h10 (fun x e => hsu _ x e OM)) ?_
  rintro e w11 ⟨rfl, h11, k11⟩
  have S11 := S10.trans' k11
  have v11 := v10.keep k11 (show ¬ b8 = rb by omega)
  rw [htr] at ht1 ht2 hwr
  dsimp only at ht1 ht2 hwr
  generalize (numR st).1 = fN at *
  generalize (textR (textR (numR st).2).2).1 = lsN at *
  generalize (textR (textR (numR st).2).2).2 = stN at *
  generalize (textR (numR st).2).1 = wdN at *
  refine RT ?_
  refine KGO ?_
  refine Yd (i := 2) v11 (by simp) (by rfl) ⟨rfl, by simp, by simp⟩ fun w12 v12 k12 => ?_
  have S12 : Kp w6 w12 (one_ rb) := S11.trans k12 fun q hq e => by have e : q = b8 := e; omega
  have h12 := h11.keep k12 (show ¬ rb = b8 by omega)
  clear h7 h8 h9 h10 h11 v9 v10 v11 v_b8 k7 k_w8 k9 k10 k11 k12 S8 S9 S10 S11
  have ho12 := zad (D := [141]) ho6 S12 (zag hv6 (by decide)) (by decide)
  have hod12 := zad (D := [3]) hod6 S12 (zag hv6 (by decide)) (by decide)
  have h512 := h56.keep S12 (show ¬ b5 = rb by omega)
  have h212 := hv26.keep S12 (show ¬ b2 = rb by omega)
  have K12 : Kp w w12 n_ := K6.trans S12 fun q hq e => by have e : q = rb := e; omega
  have a8 : At w12 b8 0 (tmC ⟨(fN : Nat), wdN, lsN⟩) := v12.at
  have a5 := h512.at
  have q12 := Yb w12 n_
  refine KGO ?_
  refine Ye (bs1Tm ⟨(fN : Nat), wdN, lsN⟩ _) ?_
  obtain ⟨a_b13, v_b13, k_w13, z_w13, r_w13⟩ := new5 w12 141 (tmC ⟨(fN : Nat), wdN, lsN⟩)
  generalize w12.alloc (.cells (List.toArray (tmC ⟨(fN : Nat), wdN, lsN⟩)) 141) = w13 at *
  generalize hs_b13 : w12.heap.size = b13 at *
  have ho13 := own_keep0 ho12 k_w13
  have hod13 := own_keep0 hod12 k_w13
  have h13 := h12.keep0 k_w13
  have h513 := h512.keep0 k_w13
  have h213 := h212.keep0 k_w13
  have K13 := K12.trans0 k_w13
  have z13 := K13.size
  have hn5 : ¬ own_ (.slice ja ts.length jc) b5 := zac ho13 h513 (by decide)
  have hnr : ¬ own_ (.slice ja ts.length jc) rb := zac ho13 h13 (by decide)
  have hn2 : ¬ own_ (.slice ja ts.length jc) b2 := zac ho13 h213 (by decide)
  clear a5 a8 q12
  refine KGO ?_
  refine tyTm.app1 ⟨(fN : Nat), wdN, lsN⟩ ho13 OM a_b13 OM OM fun v14 w14 o14 k14 => ?_
  have h514 := h513.keep k14 hn5
  have h14 := h13.keep k14 hnr
  have h214 := h213.keep k14 hn2
  have hod14 := zad (D := [3]) hod13 k14 (zaC ho13 (by decide)) (by decide)
  have K14 := zav ho13 k14 K13 (yag _)
  obtain ⟨a14, c14, rfl⟩ := zab o14
  refine KGO ?_
  refine Yd (i := 0) h514 (by simp) (by rfl) ⟨rfl, by simp, by simp⟩ fun w15 v15 k15 => ?_
  refine KGO ?_
  refine ⟨(stN, ⟨a14, _, c14⟩, ts ++ [⟨(fN : Nat), wdN, lsN⟩]), FR, ⟨keeps_new K14 k15 OM, h214.keep k15 (show ¬ b2 = b5 by omega), h14.keep k15 (show ¬ rb = b5 by omega), v15, zad (D := [141]) o14 k15 (zag h514 (by decide)) (by decide), zad (D := [3]) hod14 k15 (zag h514 (by decide)) (by decide), ?_, ?_, ?_, ?_⟩, ?_⟩
  ·dsimp only; rw [List.length_append, List.length_singleton]; omega
  ·dsimp only; rw [List.length_append, List.length_singleton, show n0 - (ts.length + 1) = k by omega, List.append_assoc]; exact ht1
  ·dsimp only; rw [List.length_append, List.length_singleton, show n0 - (ts.length + 1) = k by omega]; exact ht2
  ·dsimp only; rw [zkG]; omega
  dsimp only; rw [List.length_append, List.length_singleton]; omega
 have hfin : ts = (termsR n0 s2).1 ∧ st = (termsR n0 s2).2 := by
  by_cases hlt : ts.length < n0
  ·have hs0 : stL st = 0 := Decidable.byContradiction fun h => hx ⟨hlt, h⟩
   have : termsR (n0 - ts.length) st = ([], st) := by
    obtain ⟨k, hk⟩ : ∃ k, n0 - ts.length = k + 1 := ⟨n0 - ts.length - 1, OM⟩
    rw [hk, termsR, if_pos hs0]
   rw [this] at ht1 ht2
   exact ⟨by rw [← ht1]; simp, ht2⟩
  have : termsR (n0 - ts.length) st = ([], st) := by rw [show n0 - ts.length = 0 by omega]; rfl
  rw [this] at ht1 ht2
  exact ⟨by rw [← ht1]; simp, ht2⟩
 rw [← hfin.1, ← hfin.2] at hpar
 clear hfin ht1 ht2
 have hrd : readS u = if st = some [] ∧ rightS ⟨ts, iL D⟩ = true ∧ serS ⟨ts, iL D⟩ = u then some ⟨ts, iL D⟩ else none := by unfold readS; rw [hpar]
 have hil : (iL D).length = D.length := zbl D
 have hsm : SmS ⟨ts, iL D⟩ := ⟨DO, DO, fun t ht => by
  have : wtT t ≤ wtL ts := zjs t ht
  unfold wtT at this
  exact ⟨OM, OM⟩⟩
 have hsl : (serS ⟨ts, iL D⟩).length ≤ 1000000000000 := yaw (zni (c := u.length) DO DO OM) OM
 have hdu : ∀ x, st = some x → x.length ≤ 140737488355328 := fun x e => by subst e; simp only [stL] at hwt; omega
 have hb2w : w.heap.size ≤ b2 := OM
 have hDl : D.length ≤ 1000000 := OM
 clear hpar hwd hnl
 by_cases hlt : ts.length < n0
 ·have hs0 : stL st = 0 := Decidable.byContradiction fun h => hx ⟨hlt, h⟩
  have hno : readS u = none := by
   rw [hrd]
   exact if_neg fun h => by have : n0 = ts.length := hN _ h.2.1 h.2.2; omega
  refine KGO ?_
  refine Ya (Tryz.call60 _ _) (zcC (w := wr) st hv) ?_
  rintro e wz ⟨rfl, kz⟩
  have a5z := (h5.keep0 kz).at
  have hv2z := hv2.keep0 kz
  have hKz := hK.trans0 kz
  have qz := Yb wz n_
  clear a5 qr
  refine RT ?_
  refine KGO ?_
  refine Ye (zdz _) ?_
  refine KGO ?_
  refine Yi [.slice none 0 0, .slice none 0 0] hv2z (by rfl) rfl (zak (by rfl)) fun wy v2y k2y => ?_
  have a2y := v2y.at
  have qy := Yb wy n_
  refine KGO ?_
  refine GW ?_
  refine KGO ?_
  refine GW ?_
  exact ⟨⟨zeroSv, by rw [hno]; rfl, fun s h => by rw [hno] at h; cases h⟩, keeps_new hKz k2y hb2w⟩
 have hlen : ts.length = n0 := OM
 refine KGO ?_
 refine Ya (Tryz.call64 _ _) (zdK (w := wr) st hv hdu) ?_
 rintro e w6 ⟨rfl, k6⟩
 have K6 := hK.trans0 k6
 have h56 := h5.keep0 k6
 have hv26 := hv2.keep0 k6
 have os6 : OwS w6 w.heap.size ⟨⟨ja, ts.length, jc⟩, ⟨da, D.length, dc⟩⟩ ⟨ts, iL D⟩ := ⟨own_keep0 ho k6, own_keep0 hod k6⟩
 have a56 := h56.at
 have q6 := Yb w6 n_
 clear hv h5 hv2 ho hod hK k6 a5 qr
 refine RT ?_
 by_cases hdone : st = some []
 rotate_left
 ·have hno : readS u = none := by rw [hrd]; exact if_neg fun h => hdone h.1
  rw [decide_eq_false hdone]
  refine KGO ?_
  refine Ye (zdz _) ?_
  refine KGO ?_
  refine Yi [.slice none 0 0, .slice none 0 0] hv26 (by rfl) rfl (zak (by rfl)) fun wy v2y k2y => ?_
  have a2y := v2y.at
  have qy := Yb wy n_
  refine KGO ?_
  refine GW ?_
  refine KGO ?_
  refine GW ?_
  exact ⟨⟨zeroSv, by rw [hno]; rfl, fun s h => by rw [hno] at h; cases h⟩, keeps_new K6 k2y hb2w⟩
 rw [decide_eq_true hdone]
 refine KGO ?_
 refine Ya (Tryz.call120 _ _) (zeB (w := w6) ⟨⟨ja, ts.length, jc⟩, ⟨da, D.length, dc⟩⟩ ⟨ts, iL D⟩ os6.rd hsm DO) ?_
 rintro e w7 ⟨rfl, k7⟩
 have K7 := K6.trans0 k7
 have h57 := h56.keep0 k7
 have hv27 := hv26.keep0 k7
 have os7 := os6.keep k7
 have a57 := h57.at
 have q7 := Yb w7 n_
 refine RT ?_
 cases hri : rightS ⟨ts, iL D⟩ with
 | false =>
  have hno : readS u = none := by rw [hrd]; exact if_neg fun h => by rw [hri] at h; cases h.2.1
  refine KGO ?_
  refine Ye (zdz _) ?_
  refine KGO ?_
  refine Yi [.slice none 0 0, .slice none 0 0] hv27 (by rfl) rfl (zak (by rfl)) fun wy v2y k2y => ?_
  have a2y := v2y.at
  have qy := Yb wy n_
  refine KGO ?_
  refine GW ?_
  refine KGO ?_
  refine GW ?_
  exact ⟨⟨zeroSv, by rw [hno]; rfl, fun s h => by rw [hno] at h; cases h⟩, keeps_new K7 k2y hb2w⟩
 | true =>
 clear a56 q6 os6 h56 hv26 K6
 refine KGO ?_
 refine Ya (Tryz.call74 _ _) (zgF (w := w7) ⟨⟨ja, ts.length, jc⟩, ⟨da, D.length, dc⟩⟩ ⟨ts, iL D⟩ os7.rd hsm DO hsl) ?_
 rintro e w8 ⟨rfl, k8⟩
 have K8 := K7.trans0 k8
 have h58 := h57.keep0 k8
 have hv28 := hv27.keep0 k8
 have os8 := os7.keep k8
 have a58 := h58.at
 have q8 := Yb w8 n_
 clear a57 q7 os7 h57 hv27 K7
 refine RT ?_
 by_cases heq : serS ⟨ts, iL D⟩ = u
 rotate_left
 ·have hno : readS u = none := by rw [hrd]; exact if_neg fun h => heq h.2.2
  refine KGO ?_
  refine Br.dec_no (fun h => heq (zbB.1 h)) ?_
  refine GW ?_
  refine KGO ?_
  refine Ye (zdz _) ?_
  refine KGO ?_
  refine Yi [.slice none 0 0, .slice none 0 0] hv28 (by rfl) rfl (zak (by rfl)) fun wy v2y k2y => ?_
  have a2y := v2y.at
  have qy := Yb wy n_
  refine KGO ?_
  refine GW ?_
  refine KGO ?_
  refine GW ?_
  exact ⟨⟨zeroSv, by rw [hno]; rfl, fun s h => by rw [hno] at h; cases h⟩, keeps_new K8 k2y hb2w⟩
 have hyes : readS u = some ⟨ts, iL D⟩ := by rw [hrd]; exact if_pos ⟨hdone, hri, heq⟩
 rw [heq]
 refine KGO ?_
 refine SVK (sgC ⟨⟨ja, ts.length, jc⟩, ⟨da, D.length, dc⟩⟩) hv28 fun wy v2y k2y => ?_
 have a2y := v2y.at
 have qy := Yb wy n_
 refine KGO ?_
 refine GW ?_
 refine KGO ?_
 refine GW ?_
 refine ⟨⟨⟨⟨ja, ts.length, jc⟩, ⟨da, D.length, dc⟩⟩, by rw [hyes]; rfl, fun s h => ?_⟩, keeps_new K8 k2y hb2w⟩
 rw [hyes] at h
 injection h with h
 subst h
 exact ⟨own_base (zad (D := [141]) os8.t k2y (zag hv28 (by decide)) (by decide)) OM, own_base (zad (D := [3]) os8.d k2y (zag hv28 (by decide)) (by decide)) OM⟩
end
abbrev OwnSg (w : World) (B : Nat) (v : Value) (l : List (Sv × Sgm)) : Prop := w.ownsRow B 65 2 v l.length (l.flatMap sgP)
theorem lenSg (x : Sv × Sgm) : (sgP x).length = 2 := rfl
theorem zeT : (Tryz.prog.info? 65).map (fun i => (i.zero, i.size, i.bytes)) = some (some (.agg #[.slice none 0 0, .slice none 0 0]), 2, 48) := by kernel_rfl
theorem tySg : RowTy 56 65 sgP 2 48 := ⟨Tryz.underlying56, ⟨_, zeT, rfl⟩, by decide, lenSg, fun x => yaF.1 (by rfl)⟩
theorem znK {w : World} {v : Value} (l : List (Sv × Sgm)) (g : Nat) (c0 : Value) (p : (Sv × Sgm) → Bool) (hv : RowO w v sgP l) (hl : l.length ≤ 1000000000) (hg : ∀ (args : Array Value) (w : World), (callFunc g args).run Tryz.prog w = .ok (.enter g args) w)
  (hp : ∀ x ∈ l, ∀ w', Kp w w' n_ → Calls Tryz.prog g #[.agg (sgP x).toArray, c0] w' fun e w'' => e = .returned (.bool (p x)) ∧ Kp w' w'' n_) :
  Calls Tryz.prog 95 #[v, .func (.func g) #[] #[c0]] w fun e w' => e = .returned (.int .i64 (idxP p l)) ∧ Kp w w' n_ := by
 obtain ⟨a, cap, rfl, hr⟩ := hv
 refine zaa (args := [.slice a l.length cap, .func (.func g) #[] #[c0]]) Tryz.func95 rfl NL ?_; refine GW ?_
 refine Yc (ι := Nat) (fun i => [(0, .slice a l.length cap), (1, .func (.func g) #[] #[c0]), (7, .int .i64 (l.length : Nat)), (8, .int .i64 (i : Nat))])
  (fun i wr => Kp w wr n_ ∧ i ≤ l.length ∧ ∀ j (h : j < l.length), j < i → p l[j] = false) (fun i => l.length - i) 0 FR ⟨Yb _ _, yal _, fun _ _ h => OM⟩ ?_
 rintro i gg wr ⟨hK, hi, he⟩
 refine GW ?_
 by_cases hlt : i < l.length
 ·obtain ⟨gb, o, rfl, hgb, hat⟩ := hr OM
  have hpc := hp l[i] (yak hlt) wr hK
  obtain ⟨q, hq⟩ : ∃ q, p l[i] = q := ⟨_, rfl⟩
  rw [hq] at hpc
  refine KGO ?_
  refine Ya (hg _ _) hpc ?_
  rintro e w1 ⟨rfl, k1⟩
  refine RT ?_
  cases q with
  | true =>
   refine KGO ?_
   exact ⟨by rw [zdH hlt hq he], hK.trans0 k1⟩
  | false =>
   refine KGO ?_
   exact ⟨i + 1, FR, ⟨hK.trans0 k1, OM, fun j h hj => by
    rcases yby j i with h' | h'
    ·exact he j h h'
    obtain rfl : j = i := OM
    exact hq⟩, DO⟩
 refine KGO ?_
 exact ⟨by rw [zef fun j h => he j h OM], hK⟩
theorem ztz {w : World} {v : Value} (l : List (Sv × Sgm)) (g : Nat) (p : (Sv × Sgm) → Bool) (hv : RowO w v sgP l) (hl : l.length ≤ 1000000000) (hg : ∀ (args : Array Value) (w : World), (callFunc g args).run Tryz.prog w = .ok (.enter g args) w)
  (hp : ∀ x ∈ l, ∀ w', Kp w w' n_ → Calls Tryz.prog g #[.agg (sgP x).toArray] w' fun e w'' => e = .returned (.bool (p x)) ∧ Kp w' w'' n_) :
  Calls Tryz.prog 95 #[v, .func (.func g) #[] #[]] w fun e w' => e = .returned (.int .i64 (idxP p l)) ∧ Kp w w' n_ := by
 obtain ⟨a, cap, rfl, hr⟩ := hv
 refine zaa (args := [.slice a l.length cap, .func (.func g) #[] #[]]) Tryz.func95 rfl NL ?_; refine GW ?_
 refine Yc (ι := Nat) (fun i => [(0, .slice a l.length cap), (1, .func (.func g) #[] #[]), (7, .int .i64 (l.length : Nat)), (8, .int .i64 (i : Nat))])
  (fun i wr => Kp w wr n_ ∧ i ≤ l.length ∧ ∀ j (h : j < l.length), j < i → p l[j] = false) (fun i => l.length - i) 0 FR ⟨Yb _ _, yal _, fun _ _ h => OM⟩ ?_
 rintro i gg wr ⟨hK, hi, he⟩
 refine GW ?_
 by_cases hlt : i < l.length
 ·obtain ⟨gb, o, rfl, hgb, hat⟩ := hr OM
  have hpc := hp l[i] (yak hlt) wr hK
  obtain ⟨q, hq⟩ : ∃ q, p l[i] = q := ⟨_, rfl⟩
  rw [hq] at hpc
  refine KGO ?_
  refine Ya (hg _ _) hpc ?_
  rintro e w1 ⟨rfl, k1⟩
  refine RT ?_
  cases q with
  | true =>
   refine KGO ?_
   exact ⟨by rw [zdH hlt hq he], hK.trans0 k1⟩
  | false =>
   refine KGO ?_
   exact ⟨i + 1, FR, ⟨hK.trans0 k1, OM, fun j h hj => by
    rcases yby j i with h' | h'
    ·exact he j h h'
    obtain rfl : j = i := OM
    exact hq⟩, DO⟩
 refine KGO ?_
 exact ⟨by rw [zef fun j h => he j h OM], hK⟩
theorem zsv {w : World} {v : Value} {B : Nat} (l : List (Sv × Sgm)) (g : Nat) (p : (Sv × Sgm) → Bool) (ho : OwnSg w B v l) (hl : l.length ≤ 1000000000) (hg : ∀ (args : Array Value) (w : World), (callFunc g args).run Tryz.prog w = .ok (.enter g args) w)
  (hp : ∀ x ∈ l, ∀ w', Kp w w' (own_ v) → Calls Tryz.prog g #[.agg (sgP x).toArray] w' fun e w'' => e = .returned (.bool (p x)) ∧ Kp w' w'' n_) :
  Calls Tryz.prog 199 #[v, .func (.func g) #[] #[]] w fun e w' => ∃ v', e = .returned v' ∧ OwnSg w' B v' (l.filter fun x => !p x) ∧ Kp w w' (own_ v) ∧ (v'.ownBlock = v.ownBlock) := by
 obtain ⟨a, cap0, rfl⟩ := zab ho
 refine zaa (args := [.slice a l.length cap0, .func (.func g) #[] #[]]) Tryz.func199 rfl NL ?_; refine GW ?_
 refine Ya (Tryz.call95 _ _) (ztz l g p (own_rowO ho) hl hg (fun x hx w' k => hp x hx w' k.of_none)) ?_
 rintro e w1 ⟨rfl, k1⟩
 refine RT ?_
 rcases idxP_lt p l with hi | ⟨i0, hi0, he0, hp0, hb0⟩
 ·rw [hi]
  refine KGO ?_
  refine ⟨_, rfl, ?_, k1.of_none, rfl⟩
  have hf : (l.filter fun x => !p x) = l := yaQ.2 fun x hx => by
   have h : ¬ l.any p = true := fun h => by have := (zfb p l).2 h; omega
   have := List.any_eq_false.1 (by simpa using h) x hx
   simpa using this
  rw [hf]
  exact own_keep0 ho k1
 rw [he0]
 rcases own_blockK ho with ⟨hnil, h0⟩ | ⟨gb, cap, cells0, hev, hBg, hv0, hnc, hcm, hcl0, htk0⟩
 ·omega
 injection hev with hev _ hcc
 subst hev; subst hcc
 have hgk : gb < w1.heap.size := ybv hv0.lt k1.size
 have ho1 := own_keep0 ho k1
 have hfl0 : ((l.take (i0 + 1)).filter fun x => !p x) = l.take i0 := by
  rw [zcK hi0, hp0]
  have : (l.take i0).filter (fun x => !p x) = l.take i0 := yaQ.2 fun x hx => by
   obtain ⟨j, hj, rfl⟩ := ybd.1 hx
   rw [hb0 j OM]; rfl
  rw [this]; simp
 refine KGO ?_
 refine Yc (ι := Nat × Nat × List (Sv × Sgm)) (fun q => [(0, .slice (some ⟨gb, 0, none⟩) l.length cap0), (1, .func (.func g) #[] #[]), (5, .int .i64 (q.1 : Nat)), (6, .int .i64 (q.2.1 : Nat))])
  (fun q wr => Kp w wr (one_ gb) ∧ q.2.1 ≤ l.length ∧ q.1 < q.2.1 ∧ q.2.2.length = l.length ∧ q.2.2.take q.1 = ((l.take q.2.1).filter fun x => !p x) ∧ q.2.2.drop q.2.1 = l.drop q.2.1 ∧ OwnSg wr B (.slice (some ⟨gb, 0, none⟩) q.2.2.length cap0) q.2.2)
  (fun q => l.length - q.2.1) (i0, i0 + 1, l) FR ⟨k1.of_none, DO, DO, rfl, by dsimp only; rw [hfl0], rfl, ho1⟩ ?_
 clear ho1 hfl0 hb0 hp0 he0 hi0 i0
 rintro ⟨i, j, cur⟩ gg wr ⟨hK, hj, hij, hcl2, htk2, hdr2, ho2⟩
 dsimp only at hj hij hcl2 htk2 hdr2 ho2 ⊢
 rcases own_blockK ho2 with ⟨h, h0⟩ | ⟨g2, cap, cells, hev, hBg2, hv, hnc2, hcm2, hcl, htk⟩
 ·cases h
 injection hev with hev _ hcc
 injection hev with hev
 injection hev with hev
 subst hev; subst hcc
 have hrow := zdN ho2
 have kr := Yb wr n_
 refine GW ?_
 by_cases hlt : j < l.length
 ·have hcj : cur[j]'OM = l[j] := by
   have h1 : (cur.drop j)[0]? = (l.drop j)[0]? := by rw [hdr2]
   rw [List.getElem?_drop, List.getElem?_drop, ybJ, List.getElem?_eq_getElem OM, List.getElem?_eq_getElem hlt] at h1
   exact Option.some.inj h1
  have hfs := zcK (p := fun x => !p x) hlt
  have hjc : j < cur.length := OM
  obtain ⟨q, hq⟩ : ∃ q, p l[j] = q := ⟨_, rfl⟩
  have hmx := yak hlt
  rw [hq] at hfs
  refine KGO ?_
  rw [hcj]
  generalize hxj : l[j] = x at *
  refine Yg (vs := sgP x) (by rfl) rfl (zak (by rfl)) ?_
  obtain ⟨a_b7, k_wv, z_wv⟩ := new3 wr 65 (sgP x)
  generalize wr.alloc (.cells (List.toArray (sgP x)) 65) = wv at *
  generalize hs_b7 : wr.heap.size = b7 at *
  refine KGO ?_
  have hpc := hp x hmx wv ((hK.trans0 k_wv).mono fun q _ hq => by have hq : q = gb := hq; rw [hq]; rfl)
  rw [hq] at hpc
  refine Ya (hg _ _) hpc ?_
  rintro e w1 ⟨rfl, k1⟩
  refine RT ?_
  cases q with
  | true =>
   refine KGO ?_
   refine ⟨(i, j + 1, cur), FR, ⟨(hK.trans0 k_wv).trans0 k1, DO, DO, hcl2, ?_, ?_, own_keep0 (own_keep0 ho2 k_wv) k1⟩, DO⟩
   ·dsimp only
    rw [hfs, htk2]; simp
   dsimp only
   rw [← yaM, hdr2, yaM]
  | false =>
   refine KGO ?_
   have hv := (hv.keep0 k_wv).keep0 k1
   refine Store.elemK (l := cur) (k := i) (B := B) (cap := cap0) x lenSg (by rfl) (zak (by rfl)) hv hBg OM hcm hcl htk OM fun w2 o2 v2 k2 => ?_
   refine KGO ?_
   have hil : i < cur.length := OM
   refine ⟨(i + 1, j + 1, cur.set i x), FR, ⟨(hK.trans0 k_wv).trans' (k1.of_none.trans' k2), DO, DO, by dsimp only; rw [List.length_set]; exact hcl2, ?_, ?_, ?_⟩, DO⟩
   ·dsimp only
    rw [hfs, ← htk2, yad (by rw [ybm]; exact hil), List.getElem_set_self, List.take_set_of_le (yag _)]
    simp
   ·dsimp only
    rw [List.drop_set_of_lt OM, ← yaM, hdr2, yaM]
   dsimp only
   unfold OwnSg
   rw [ybm]
   exact o2
 have hjl : j = l.length := OM
 subst hjl
 rw [yaD] at htk2
 have hil : i < cur.length := OM
 refine KGO ?_
 rw [if_neg (by omega : ¬ i = cap0)]
 refine RunN.clearK (s := 2) (n := l.length - i) Tryz.underlying56 zeT rfl (by intro u hu; simp [Value.cells] at hu; first | (subst hu; rfl) | (rcases hu with rfl | rfl <;> rfl)) hv (by first | (rw [hcl]; omega) | omega) fun w3 zs hzl v3 k3 => ?_
 refine KGO ?_
 have hle : (l.filter fun x => !p x).length = i := by rw [← htk2, yar]; omega
 rw [if_neg (by omega : ¬ 0 = cap0), ybb, ybb]
 refine ⟨_, rfl, ?_, ((hK.trans' k3).mono fun q _ hq => by have hq : q = gb := hq; rw [hq]; rfl), rfl⟩
 have htA : cells.take (0 + i * 2) = (l.filter fun x => !p x).flatMap sgP := by
  rw [yaU, ← htk2, ← flatK_take sgP 2 lenSg, ← htk, ybz, yaJ OM]
 have hlA : ((l.filter fun x => !p x).flatMap sgP).length = i * 2 := by rw [flatK_len sgP 2 lenSg, hle]
 first | rw [htA] at v3 | (rw [show 0 + i * 2 = 0 + i by omega] at htA; rw [htA] at v3)
 unfold OwnSg
 rw [hle]
 refine zbY hBg v3 OM hcm2 ?_ ?_ hlA
 ·rw [yaa, yaa, hlA, hzl, yau]; omega
 rw [yap, ← hlA, yaZ]
end Go.Proofs.YtennokckmjcefaaGreatDoor
