/- Helper lemmas; no conditions of their own. -/
import Derived.Test.YtennokckmjcefaaGreatDoorGMh1
set_option linter.unusedVariables false
set_option maxHeartbeats 8000000
set_option maxRecDepth 100000
namespace Go.Proofs.YtennokckmjcefaaGreatDoor
open Go.Shelf Go.RowKit Go.Pw Go.Vc Go.Cs Go.Lib Go.Cd Go.Mg
abbrev MI : Type := Trm × Value × List Pst
def miE (x : MI) : List Value := [.agg (tmC x.1).toArray, x.2.1]
def miF (x : MI) : Trm × List Pst := (x.1, x.2.2)
def two2 (a b : Nat) : Nat → Prop := fun q => q = a ∨ q = b
theorem zew {t : Trm} (h : SmT t) : (plT t).length ≤ 10000000 ∧ ∀ p ∈ plT t, p.places.length ≤ 10000000 := by
 unfold plT
 cases hd : decP t.list with
 | none => simp
 | some p =>
  have h1 := (zde.1 hd)
  have h2 := zaZ p
  have h3 := h1.2
  rw [zcz h1.1] at h3
  have h4 := congrArg List.length h3
  rw [yaa] at h4
  have h5 : (encN 0 p).length ≤ ((encN 0 p).flatMap numE).length := by
   generalize encN 0 p = q
   induction q with
   | nil => simp
   | cons n q ih => have := zca n; rw [yao, yaa, yab]; omega
  have h6 := h.l
  show p.length ≤ _ ∧ ∀ q ∈ p, _
  exact ⟨OM, fun q hq => by have := zbj p q hq; omega⟩
theorem nilPl : ([] : List Pst).length ≤ 10000000 ∧ ∀ p ∈ ([] : List Pst), p.places.length ≤ 10000000 := ⟨yal _, fun p h => by cases h⟩
theorem OwnP.keepB {w w' : World} {c : Nat → Prop} {B : Nat} {v : Value} {l : List Pst} (h : OwnP w B v l) (k : Kp w w' c) (hc : ∀ q, c q → q < B) : OwnP w' B v l := by
 obtain ⟨lx, h1, h2⟩ := h
 refine ⟨lx, h1, own_keep h2.row k fun q hq e => ?_, fun x hx => own_keep (h2.pl x hx) k fun q hq e => ?_⟩
 ·obtain ⟨_, _, _, hb, _⟩ := zat h2.row hq
  have := hc q e; omega
 obtain ⟨_, _, _, hb, _⟩ := zat (h2.pl x hx) hq
 have := hc q e; omega
section
variable {w : World}
theorem zti (a b : Option Addr) (n m c d : Nat) : Calls Tryz.prog 197 #[.slice a n c, .slice b m d] w fun e w' => ∃ b1 b2, e = .returned (.func (.func 233) #[] #[.pointer (some ⟨b1, 0, none⟩), .pointer (some ⟨b2, 0, none⟩)]) ∧
  VarK w' b1 63 [.slice a n c] ∧ VarK w' b2 63 [.slice b m d] ∧ w.heap.size ≤ b1 ∧ b1 < b2 ∧ Kp w w' n_ := by
 refine zaa (args := [.slice a n c, .slice b m d]) Tryz.func197 rfl NL ?_; refine GW ?_
 obtain ⟨a_b1, v_b1, k_w1, z_w1, r_w1⟩ := new5 w 63 ([.slice a n c])
 generalize w.alloc (.cells (List.toArray ([.slice a n c])) 63) = w1 at *
 generalize hs_b1 : w.heap.size = b1 at *
 obtain ⟨a_b2, v_b2, k_w2, z_w2, r_w2⟩ := new5 w1 63 ([.slice b m d])
 generalize w1.alloc (.cells (List.toArray ([.slice b m d])) 63) = w2 at *
 generalize hs_b2 : w1.heap.size = b2 at *
 have v1 := v_b1.keep0 k_w2
 refine KGO ?_
 exact ⟨b1, b2, rfl, v1, v_b2, OM, OM, k_w1.trans0 k_w2⟩
theorem zsJ {L b1 b2 B : Nat} {w0 : World} {va vb : Value} (la lb : List Trm) (ha : RowO w0 va tmC la) (hb : RowO w0 vb tmC lb) (hca : CapK va) (hcb : CapK vb) (hla : la.length ≤ 1000000000) (hlb : lb.length ≤ 1000000000)
  (hsa : ∀ t ∈ la, SmT t) (hsb : ∀ t ∈ lb, SmT t) (h01 : w0.heap.size ≤ b1) (h12 : b1 < b2) (hB : B ≤ w.heap.size) (J Jx : List MI → World → Prop)
  (hJ : ∀ pre W, J pre W → Kp w0 W n_ ∧ B ≤ W.heap.size) (hJk : ∀ pre W W', J pre W → Kp W W' (two2 b1 b2) → J pre W')
  (hY : ∀ pre x rest W, J pre W → pre.map miF ++ miF x :: rest = zaE la lb → OwnP W B x.2.1 x.2.2 → YieldS Tryz.prog L (miE x) W fun v W' => (v = .bool true ∧ J (pre ++ [x]) W' ∧ SameB (two2 b1 b2) W W') ∨ (v = .bool false ∧ Jx (pre ++ [x]) W'))
  (v1 : VarK w b1 63 [va]) (v2 : VarK w b2 63 [vb]) (h0 : J [] w) :
  Calls Tryz.prog 233 #[.func (.yield L) #[] #[], .pointer (some ⟨b1, 0, none⟩), .pointer (some ⟨b2, 0, none⟩)] w fun e W' => (∃ v, e = .returned v) ∧ ((∃ xs : List MI, xs.map miF = zaE la lb ∧ J xs W') ∨ ∃ pre, Jx pre W') := by
 refine zaa (args := [.func (.yield L) #[] #[], .pointer (some ⟨b1, 0, none⟩), .pointer (some ⟨b2, 0, none⟩)]) Tryz.func233 rfl NL ?_; refine GW ?_
 refine Yc (ι := (Value × List Trm) × (Value × List Trm) × List MI) (fun i => [(0, .func (.yield L) #[] #[]), (1, .pointer (some ⟨b1, 0, none⟩)), (2, .pointer (some ⟨b2, 0, none⟩))])
  (fun i wr => RowO w0 i.1.1 tmC i.1.2 ∧ CapK i.1.1 ∧ RowO w0 i.2.1.1 tmC i.2.1.2 ∧ CapK i.2.1.1 ∧ VarK wr b1 63 [i.1.1] ∧ VarK wr b2 63 [i.2.1.1] ∧ i.2.2.map miF ++ zaE i.1.2 i.2.1.2 = zaE la lb ∧ J i.2.2 wr ∧ i.1.2.length ≤ la.length ∧ i.2.1.2.length ≤ lb.length ∧ (∀ t ∈ i.1.2, SmT t) ∧ ∀ t ∈ i.2.1.2, SmT t)
  (fun i => i.1.2.length + i.2.1.2.length) ((va, la), (vb, lb), []) FR ⟨ha, hca, hb, hcb, v1, v2, rfl, h0, yag _, yag _, hsa, hsb⟩ ?_
 clear ha hb hca hcb v1 v2 h0 hsa hsb
 rintro ⟨⟨vx, xs⟩, ⟨vy, ys⟩, pre⟩ gg wr ⟨hx, hcx, hy, hcy, v1, v2, hd, hj, hlx, hly, hsx, hsy⟩
 dsimp only at hx hcx hy hcy v1 v2 hd hj hlx hly hsx hsy ⊢
 have hx0 := hx
 have hy0 := hy
 obtain ⟨a, ca, rfl, hra⟩ := hx
 obtain ⟨b, cb, rfl, hrb⟩ := hy
 have hca := hcx _ _ _ rfl
 have hcb := hcy _ _ _ rfl
 obtain ⟨hK, hBr⟩ := hJ _ _ hj
 have a1 := v1.at
 have a2 := v2.at
 have q0 := Yb wr n_
 cases xs with
 | nil =>
  cases ys with
  | nil =>
   rw [yaE] at *
   refine GW ?_
   refine KGO ?_
   exact ⟨⟨_, rfl⟩, .inl ⟨pre, by rw [← hd, mergeT_nil, yaA], hj⟩⟩
  | cons y ys =>
   obtain ⟨gy, oy, rfl, hgy, hay⟩ := hrb (by simp)
   rw [zcM] at hd
   have hay1 := zbt hay
   have hsy1 := hsy y yae
   rw [yaE] at a1
   rw [yab] at a2 hcb v2 hly
   refine GW ?_
   refine KGO ?_
   obtain ⟨a_b5, v_b5, k_w1, z_w1, r_w1⟩ := new5 wr 141 ([.int .i64 0, .string ⟨#[]⟩, .string ⟨#[]⟩])
   generalize wr.alloc (.cells (List.toArray ([.int .i64 0, .string ⟨#[]⟩, .string ⟨#[]⟩])) 141) = w1 at *
   generalize hs_b5 : wr.heap.size = b5 at *
   have v1r := v1
   have v2r := v2
   have v1 := v1.keep0 k_w1
   have v2 := v2.keep0 k_w1
   have a1 := v1.at
   have a2 := v2.at
   have hK1 := hK.trans0 k_w1
   refine KGO ?_
   have hsm := hsy1
   have hKA := hK1
   have h1l := v1.lt
   have h2l := v2.lt
   have h05 : w0.heap.size ≤ b5 := by have := hK.size; omega
   have h1n : b1 < b5 := by have := v1r.lt; omega
   have h2n : b2 < b5 := by have := v2r.lt; omega
   have v5 := v_b5
   have kdA := (Yb w1 n_).drew
   refine Yh (fun u => Kp w1 u (one_ b5)) (fun _ => true) (by simp) (by decide +kernel) (by decide +kernel) kdA.of_none ?_
   refine GW ?_
   refine KGO ?_
   refine Yf (by rfl) (fun u hu => ((v2).keep hu (show ¬ b2 = b5 by omega)).at 0 _ rfl) ?_
   refine KGO ?_
   refine HeldG (tmC y) (by rfl) (by rfl) (fun u hu => at_mono (show At w0 gy (oy + 0 * 3) (tmC y) from by rw [yaO]; exact hay1) (keeps_new hKA hu h05)) (by rfl) ?_
   refine KGO ?_
   refine Yf (by rfl) (fun u hu => ((v2).keep hu (show ¬ b2 = b5 by omega)).at 0 _ rfl) ?_
   refine KGO ?_
   refine HeldG (tmC y) (by rfl) (by rfl) (fun u hu => at_mono (show At w0 gy (oy + 0 * 3) (tmC y) from by rw [yaO]; exact hay1) (keeps_new hKA hu h05)) (by rfl) ?_
   refine KGO ?_
   refine Ya (Tryz.call235 _ _) (zbN (w := w1.drew) y hsm.l) ?_
   rintro e wP ⟨vp, rfl, op, kP⟩
   have kAP : Kp w1 wP n_ := kdA.trans0 kP
   have opT : plT y = (decP (y).list).getD [] := rfl
   rw [← opT] at op
   obtain ⟨ap, cpp, rfl⟩ := op.shape
   refine RT ?_
   refine ⟨kAP.of_none, ?_⟩
   refine KGO ?_
   refine Yf (by rfl) (fun u hu => ((v2).keep hu (show ¬ b2 = b5 by omega)).at 0 _ rfl) ?_
   refine KGO ?_
   refine Yj (l := 1) OM OM ?_
   refine GW ?_
   refine KGO ?_
   refine Yi (tmC y) (v5.keep0 kAP) (by rfl) rfl (zak (by rfl)) fun wQ vQ kQ => ?_
   have kAQ : Kp w1 wQ (one_ b5) := (kAP.of_none).trans' kQ
   refine ⟨kAQ, ?_⟩
   refine KGO ?_
   refine Yd (i := 0) ((v2).keep kAQ (show ¬ b2 = b5 by omega)) (by simp) (by rfl) ⟨rfl, by simp, by simp⟩ fun wR vR kR => ?_
   have kAR : Kp w1 wR (fun q => q = b5 ∨ q = b2) := (kAQ.mono fun q _ e => .inl e).trans' (kR.mono fun q _ e => .inr e)
   have v5R := vQ.keep kR (show ¬ b5 = b2 by omega)
   have opR := (op.keepT kQ (zag (v5.keep0 kAP) (by decide))).keepT kR (zag ((v2).keep kAQ (show ¬ b2 = b5 by omega)) (by decide))
   refine KGO ?_
   have v5C := v5R
   have v1C := v1.keep kAR (by rintro (e | e) <;> omega)
   have v2C := vR
   have krC : Kp wr wR (two2 b1 b2) := (k_w1.of_none).trans kAR fun q hq e => by
    rcases e with e | e
    ·have := hq; omega
    exact .inr e
   have rtl := zaA lenTm hay hgy hcb
   have ctl := cap_tail (a := some ⟨gy, if 1 = cb then oy else oy + 1 * 3, none⟩) hcb
   have hP0 := zew hsm
   have kdC := (Yb wR n_).drew
   refine Draw.heldTail 5 (fun u => Kp wR u n_) (fun _ => true) (by decide +kernel) (by decide +kernel) kdC ?_
   refine GW ?_
   refine KGO ?_
   refine HeldG (tmC y) (by rfl) (by rfl) (fun u hu => (v5C.keep0 hu).at) (by rfl) ?_
   refine KGO ?_
   refine Ya (Tryz.call125 _ _) (po_Or (w := (wR).drew) [] (plT y) ((((ownP_nil wR 0).row)).keep kdC) (((opR.row)).keep kdC) (by have := (nilPl).1; omega) (by have := (hP0).1; omega) (fun p hp => by have := (nilPl).2 p hp; omega) (fun p hp => by have := (hP0).2 p hp; omega)) ?_
   rintro e wS ⟨vo, rfl, oo, kS⟩
   obtain ⟨ao, co, rfl⟩ := oo.shape
   have kCS : Kp wR wS n_ := kdC.trans0 kS
   refine RT ?_
   refine ⟨kCS, ?_⟩
   refine KGO ?_
   have hJS := hJk _ _ _ hj (krC.trans' kCS.of_none)
   have hy := hY pre (y, .slice ao (orP [] (plT y)).length co, orP [] (plT y)) _ wS hJS hd (oo.base (by have := krC.size; have := kdC.size; omega))
   refine YieldS.of hy ?_
   rintro v wT (⟨rfl, hJT, hsame⟩ | ⟨rfl, hJT⟩)
   ·have v1T : VarK wT b1 63 [(.slice a 0 ca)] := by
     have h := v1C.keep0 kCS
     unfold VarK at h ⊢
     rw [hsame b1 (.inl rfl)]; exact h
    have v2T : VarK wT b2 63 [(.slice (some ⟨gy, if 1 = cb then oy else oy + 1 * 3, none⟩) (ys.length + 1 - 1) (cb - 1))] := by
     have h := v2C.keep0 kCS
     unfold VarK at h ⊢
     rw [hsame b2 (.inr rfl)]; exact h
    refine GW ?_
    refine KGO ?_
    exact ⟨(((.slice a 0 ca), ([] : List Trm)), ((.slice (some ⟨gy, if 1 = cb then oy else oy + 1 * 3, none⟩) (ys.length + 1 - 1) (cb - 1)), ys), pre ++ [(y, .slice ao (orP [] (plT y)).length co, orP [] (plT y))]), FR, ⟨hx0, hcx, rtl, ctl, v1T, v2T, by rw [List.map_append, List.append_assoc]; exact hd, hJT, Nat.zero_le _, DO, fun t h => (by cases h), fun t h => hsy t (List.mem_cons_of_mem _ h)⟩, by dsimp only [List.length_cons]; omega⟩
   refine GW ?_
   refine KGO ?_
   exact ⟨⟨_, rfl⟩, .inr ⟨_, hJT⟩⟩
 | cons x xs =>
  obtain ⟨gx, ox, rfl, hgx, hax⟩ := hra (by simp)
  have hax1 := zbt hax
  have hsx1 := hsx x yae
  cases ys with
  | nil =>
   rw [zcl] at hd
   rw [yaE] at a2
   rw [yab] at a1 hca v1 hlx
   refine GW ?_
   refine KGO ?_
   obtain ⟨a_b5, v_b5, k_w1, z_w1, r_w1⟩ := new5 wr 141 ([.int .i64 0, .string ⟨#[]⟩, .string ⟨#[]⟩])
   generalize wr.alloc (.cells (List.toArray ([.int .i64 0, .string ⟨#[]⟩, .string ⟨#[]⟩])) 141) = w1 at *
   generalize hs_b5 : wr.heap.size = b5 at *
   have v1r := v1
   have v2r := v2
   have v1 := v1.keep0 k_w1
   have v2 := v2.keep0 k_w1
   have a1 := v1.at
   have a2 := v2.at
   have hKA := hK.trans0 k_w1
   refine KGO ?_
   have hsm := hsx1
   have h1l := v1.lt
   have h2l := v2.lt
   have h05 : w0.heap.size ≤ b5 := by have := hK.size; omega
   have h1n : b1 < b5 := by have := v1r.lt; omega
   have h2n : b2 < b5 := by have := v2r.lt; omega
   have v5 := v_b5
   have kdA := (Yb w1 n_).drew
   refine Yh (fun u => Kp w1 u (one_ b5)) (fun _ => true) (by simp) (by decide +kernel) (by decide +kernel) kdA.of_none ?_
   refine GW ?_
   refine KGO ?_
   refine Yf (by rfl) (fun u hu => ((v1).keep hu (show ¬ b1 = b5 by omega)).at 0 _ rfl) ?_
   refine KGO ?_
   refine HeldG (tmC x) (by rfl) (by rfl) (fun u hu => at_mono (show At w0 gx (ox + 0 * 3) (tmC x) from by rw [yaO]; exact hax1) (keeps_new hKA hu h05)) (by rfl) ?_
   refine KGO ?_
   refine Yf (by rfl) (fun u hu => ((v1).keep hu (show ¬ b1 = b5 by omega)).at 0 _ rfl) ?_
   refine KGO ?_
   refine HeldG (tmC x) (by rfl) (by rfl) (fun u hu => at_mono (show At w0 gx (ox + 0 * 3) (tmC x) from by rw [yaO]; exact hax1) (keeps_new hKA hu h05)) (by rfl) ?_
   refine KGO ?_
   refine Ya (Tryz.call235 _ _) (zbN (w := w1.drew) x hsm.l) ?_
   rintro e wP ⟨vp, rfl, op, kP⟩
   have kAP : Kp w1 wP n_ := kdA.trans0 kP
   have opT : plT x = (decP (x).list).getD [] := rfl
   rw [← opT] at op
   obtain ⟨ap, cpp, rfl⟩ := op.shape
   refine RT ?_
   refine ⟨kAP.of_none, ?_⟩
   refine KGO ?_
   refine Yf (by rfl) (fun u hu => ((v1).keep hu (show ¬ b1 = b5 by omega)).at 0 _ rfl) ?_
   refine KGO ?_
   refine Yj (l := 1) OM OM ?_
   refine GW ?_
   refine KGO ?_
   refine Yi (tmC x) (v5.keep0 kAP) (by rfl) rfl (zak (by rfl)) fun wQ vQ kQ => ?_
   have kAQ : Kp w1 wQ (one_ b5) := (kAP.of_none).trans' kQ
   refine ⟨kAQ, ?_⟩
   refine KGO ?_
   refine Yd (i := 0) ((v1).keep kAQ (show ¬ b1 = b5 by omega)) (by simp) (by rfl) ⟨rfl, by simp, by simp⟩ fun wR vR kR => ?_
   have kAR : Kp w1 wR (fun q => q = b5 ∨ q = b1) := (kAQ.mono fun q _ e => .inl e).trans' (kR.mono fun q _ e => .inr e)
   have v5R := vQ.keep kR (show ¬ b5 = b1 by omega)
   have opR := (op.keepT kQ (zag (v5.keep0 kAP) (by decide))).keepT kR (zag ((v1).keep kAQ (show ¬ b1 = b5 by omega)) (by decide))
   refine KGO ?_
   have v5C := v5R
   have v2C := v2.keep kAR (by rintro (e | e) <;> omega)
   have v1C := vR
   have krC : Kp wr wR (two2 b1 b2) := (k_w1.of_none).trans kAR fun q hq e => by
    rcases e with e | e
    ·have := hq; omega
    exact .inl e
   have rtl := zaA lenTm hax hgx hca
   have ctl := cap_tail (a := some ⟨gx, if 1 = ca then ox else ox + 1 * 3, none⟩) hca
   have hP0 := zew hsm
   have kdC := (Yb wR n_).drew
   refine Draw.heldTail 5 (fun u => Kp wR u n_) (fun _ => true) (by decide +kernel) (by decide +kernel) kdC ?_
   refine GW ?_
   refine KGO ?_
   refine HeldG (tmC x) (by rfl) (by rfl) (fun u hu => (v5C.keep0 hu).at) (by rfl) ?_
   refine KGO ?_
   refine Ya (Tryz.call125 _ _) (po_Or (w := (wR).drew) (plT x) [] (((opR.row)).keep kdC) ((((ownP_nil wR 0).row)).keep kdC) (by have := (hP0).1; omega) (by have := (nilPl).1; omega) (fun p hp => by have := (hP0).2 p hp; omega) (fun p hp => by have := (nilPl).2 p hp; omega)) ?_
   rintro e wS ⟨vo, rfl, oo, kS⟩
   obtain ⟨ao, co, rfl⟩ := oo.shape
   have kCS : Kp wR wS n_ := kdC.trans0 kS
   refine RT ?_
   refine ⟨kCS, ?_⟩
   refine KGO ?_
   have hJS := hJk _ _ _ hj (krC.trans' kCS.of_none)
   have hy := hY pre (x, .slice ao (orP (plT x) []).length co, orP (plT x) []) _ wS hJS hd (oo.base (by have := krC.size; have := kdC.size; omega))
   refine YieldS.of hy ?_
   rintro v wT (⟨rfl, hJT, hsame⟩ | ⟨rfl, hJT⟩)
   ·have v1T : VarK wT b1 63 [(.slice (some ⟨gx, if 1 = ca then ox else ox + 1 * 3, none⟩) (xs.length + 1 - 1) (ca - 1))] := by
     have h := v1C.keep0 kCS
     unfold VarK at h ⊢
     rw [hsame b1 (.inl rfl)]; exact h
    have v2T : VarK wT b2 63 [(.slice b 0 cb)] := by
     have h := v2C.keep0 kCS
     unfold VarK at h ⊢
     rw [hsame b2 (.inr rfl)]; exact h
    refine GW ?_
    refine KGO ?_
    exact ⟨(((.slice (some ⟨gx, if 1 = ca then ox else ox + 1 * 3, none⟩) (xs.length + 1 - 1) (ca - 1)), xs), ((.slice b 0 cb), ([] : List Trm)), pre ++ [(x, .slice ao (orP (plT x) []).length co, orP (plT x) [])]), FR, ⟨rtl, ctl, hy0, hcy, v1T, v2T, by rw [List.map_append, List.append_assoc]; exact hd, hJT, DO, Nat.zero_le _, fun t h => hsx t (List.mem_cons_of_mem _ h), fun t h => (by cases h)⟩, by dsimp only [List.length_cons]; omega⟩
   refine GW ?_
   refine KGO ?_
   exact ⟨⟨_, rfl⟩, .inr ⟨_, hJT⟩⟩
  | cons y ys =>
   obtain ⟨gy, oy, rfl, hgy, hay⟩ := hrb (by simp)
   have hay1 := zbt hay
   have hsy1 := hsy y yae
   rw [zci] at hd
   rw [yab] at a1 hca v1 hlx
   rw [yab] at a2 hcb v2 hly
   have hax3 : At w0 gx (ox + 0 * 3) (tmC x) := by rw [yaO]; exact hax1
   have hay3 : At w0 gy (oy + 0 * 3) (tmC y) := by rw [yaO]; exact hay1
   have hax2 := hax
   have hay2 := hay
   clear hax hay
   refine GW ?_
   refine KGO ?_
   have kd0 := (Yb wr n_).drew
   refine Ya (Tryz.call234 _ _) (zmd (w := wr.drew) x y) ?_
   rintro e wc ⟨rfl, kc⟩
   have k0c : Kp wr wc n_ := kd0.trans0 kc
   clear kc kd0 q0
   refine RT ?_
   have rtlX := zaA lenTm hax2 hgx hca
   have ctlX := cap_tail (a := some ⟨gx, if 1 = ca then ox else ox + 1 * 3, none⟩) hca
   have rtlY := zaA lenTm hay2 hgy hcb
   have ctlY := cap_tail (a := some ⟨gy, if 1 = cb then oy else oy + 1 * 3, none⟩) hcb
   refine KGO ?_
   obtain ⟨a_b5, v_b5, k_w1, z_w1, r_w1⟩ := new5 wc 141 ([.int .i64 0, .string ⟨#[]⟩, .string ⟨#[]⟩])
   generalize wc.alloc (.cells (List.toArray ([.int .i64 0, .string ⟨#[]⟩, .string ⟨#[]⟩])) 141) = w1 at *
   generalize hs_b5 : wc.heap.size = b5 at *
   have v1r := v1
   have v2r := v2
   have z0 := k0c.size
   have v1 := (v1.keep0 k0c).keep0 k_w1
   have v2 := (v2.keep0 k0c).keep0 k_w1
   have a1 := v1.at
   have a2 := v2.at
   have kr1 : Kp wr w1 n_ := k0c.trans0 k_w1
   have hKA := hK.trans0 kr1
   have h05 : w0.heap.size ≤ b5 := by have := hK.size; omega
   have h1n : b1 < b5 := by have := v1r.lt; omega
   have h2n : b2 < b5 := by have := v2r.lt; omega
   have v5 := v_b5
   clear hax3 hay3
   by_cases c1 : cmpT x y < 0
   ·rw [if_pos c1] at hd
    refine KGO ?_
    have hsm := hsx1
    have kdA := (Yb w1 n_).drew
    refine Yh (fun u => Kp w1 u (one_ b5)) (fun _ => true) (by simp) (by decide +kernel) (by decide +kernel) kdA.of_none ?_
    refine GW ?_
    refine KGO ?_
    refine Yf (by rfl) (fun u hu => ((v1).keep hu (show ¬ b1 = b5 by omega)).at 0 _ rfl) ?_
    refine KGO ?_
    refine HeldG (tmC x) (by rfl) (by rfl) (fun u hu => at_mono (show At w0 gx (ox + 0 * 3) (tmC x) from by rw [yaO]; exact hax1) (keeps_new hKA hu h05)) (by rfl) ?_
    refine KGO ?_
    refine Yf (by rfl) (fun u hu => ((v1).keep hu (show ¬ b1 = b5 by omega)).at 0 _ rfl) ?_
    refine KGO ?_
    refine HeldG (tmC x) (by rfl) (by rfl) (fun u hu => at_mono (show At w0 gx (ox + 0 * 3) (tmC x) from by rw [yaO]; exact hax1) (keeps_new hKA hu h05)) (by rfl) ?_
    refine KGO ?_
    refine Ya (Tryz.call235 _ _) (zbN (w := w1.drew) x hsm.l) ?_
    rintro e wP ⟨vp, rfl, op, kP⟩
    have kAP : Kp w1 wP n_ := kdA.trans0 kP
    have opT : plT x = (decP (x).list).getD [] := rfl
    rw [← opT] at op
    obtain ⟨ap, cpp, rfl⟩ := op.shape
    refine RT ?_
    refine ⟨kAP.of_none, ?_⟩
    refine KGO ?_
    refine Yf (by rfl) (fun u hu => ((v1).keep hu (show ¬ b1 = b5 by omega)).at 0 _ rfl) ?_
    refine KGO ?_
    refine Yj (l := 1) OM OM ?_
    refine GW ?_
    refine KGO ?_
    refine Yi (tmC x) (v5.keep0 kAP) (by rfl) rfl (zak (by rfl)) fun wQ vQ kQ => ?_
    have kAQ : Kp w1 wQ (one_ b5) := (kAP.of_none).trans' kQ
    refine ⟨kAQ, ?_⟩
    refine KGO ?_
    refine Yd (i := 0) ((v1).keep kAQ (show ¬ b1 = b5 by omega)) (by simp) (by rfl) ⟨rfl, by simp, by simp⟩ fun wR vR kR => ?_
    have kAR : Kp w1 wR (fun q => q = b5 ∨ q = b1) := (kAQ.mono fun q _ e => .inl e).trans' (kR.mono fun q _ e => .inr e)
    have v5R := vQ.keep kR (show ¬ b5 = b1 by omega)
    have opR := (op.keepT kQ (zag (v5.keep0 kAP) (by decide))).keepT kR (zag ((v1).keep kAQ (show ¬ b1 = b5 by omega)) (by decide))
    refine KGO ?_
    have v5C := v5R
    have v2C := v2.keep kAR (by rintro (e | e) <;> omega)
    have v1C := vR
    have krC : Kp wr wR (two2 b1 b2) := (kr1.of_none).trans kAR fun q hq e => by
     rcases e with e | e
     ·have := hq; omega
     exact .inl e
    have hP0 := zew hsm
    have kdC := (Yb wR n_).drew
    refine Draw.heldTail 5 (fun u => Kp wR u n_) (fun _ => true) (by decide +kernel) (by decide +kernel) kdC ?_
    refine GW ?_
    refine KGO ?_
    refine HeldG (tmC x) (by rfl) (by rfl) (fun u hu => (v5C.keep0 hu).at) (by rfl) ?_
    refine KGO ?_
    refine Ya (Tryz.call125 _ _) (po_Or (w := (wR).drew) (plT x) [] (((opR.row)).keep kdC) ((((ownP_nil wR 0).row)).keep kdC) (by have := (hP0).1; omega) (by have := (nilPl).1; omega) (fun p hp => by have := (hP0).2 p hp; omega) (fun p hp => by have := (nilPl).2 p hp; omega)) ?_
    rintro e wS ⟨vo, rfl, oo, kS⟩
    obtain ⟨ao, co, rfl⟩ := oo.shape
    have kCS : Kp wR wS n_ := kdC.trans0 kS
    refine RT ?_
    refine ⟨kCS, ?_⟩
    refine KGO ?_
    have hJS := hJk _ _ _ hj (krC.trans' kCS.of_none)
    have hy := hY pre (x, .slice ao (orP (plT x) []).length co, orP (plT x) []) _ wS hJS hd (oo.base (by have := krC.size; have := kdC.size; omega))
    refine YieldS.of hy ?_
    rintro v wT (⟨rfl, hJT, hsame⟩ | ⟨rfl, hJT⟩)
    ·have v1T : VarK wT b1 63 [(.slice (some ⟨gx, if 1 = ca then ox else ox + 1 * 3, none⟩) (xs.length + 1 - 1) (ca - 1))] := by
      have h := v1C.keep0 kCS
      unfold VarK at h ⊢
      rw [hsame b1 (.inl rfl)]; exact h
     have v2T : VarK wT b2 63 [(.slice (some ⟨gy, oy, none⟩) (ys.length + 1) cb)] := by
      have h := v2C.keep0 kCS
      unfold VarK at h ⊢
      rw [hsame b2 (.inr rfl)]; exact h
     refine GW ?_
     refine KGO ?_
     exact ⟨(((.slice (some ⟨gx, if 1 = ca then ox else ox + 1 * 3, none⟩) (xs.length + 1 - 1) (ca - 1)), xs), ((.slice (some ⟨gy, oy, none⟩) (ys.length + 1) cb), (y :: ys)), pre ++ [(x, .slice ao (orP (plT x) []).length co, orP (plT x) [])]), FR, ⟨rtlX, ctlX, hy0, hcy, v1T, v2T, by rw [List.map_append, List.append_assoc]; exact hd, hJT, DO, by dsimp only [List.length_cons]; omega, fun t h => hsx t (List.mem_cons_of_mem _ h), hsy⟩, by dsimp only [List.length_cons]; omega⟩
    refine GW ?_
    refine KGO ?_
    exact ⟨⟨_, rfl⟩, .inr ⟨_, hJT⟩⟩
   rw [if_neg c1] at hd
   by_cases c2 : cmpT x y = 0
   ·rw [if_pos c2] at hd
    refine KGO ?_
    have hsm := hsx1
    have kdA := (Yb w1 n_).drew
    refine Yh (fun u => Kp w1 u (one_ b5)) (fun _ => true) (by simp) (by decide +kernel) (by decide +kernel) kdA.of_none ?_
    refine GW ?_
    refine KGO ?_
    refine Yf (by rfl) (fun u hu => ((v1).keep hu (show ¬ b1 = b5 by omega)).at 0 _ rfl) ?_
    refine KGO ?_
    refine HeldG (tmC x) (by rfl) (by rfl) (fun u hu => at_mono (show At w0 gx (ox + 0 * 3) (tmC x) from by rw [yaO]; exact hax1) (keeps_new hKA hu h05)) (by rfl) ?_
    refine KGO ?_
    refine Yf (by rfl) (fun u hu => ((v1).keep hu (show ¬ b1 = b5 by omega)).at 0 _ rfl) ?_
    refine KGO ?_
    refine HeldG (tmC x) (by rfl) (by rfl) (fun u hu => at_mono (show At w0 gx (ox + 0 * 3) (tmC x) from by rw [yaO]; exact hax1) (keeps_new hKA hu h05)) (by rfl) ?_
    refine KGO ?_
    refine Ya (Tryz.call235 _ _) (zbN (w := w1.drew) x hsm.l) ?_
    rintro e wP ⟨vp, rfl, op, kP⟩
    have kAP : Kp w1 wP n_ := kdA.trans0 kP
    have opT : plT x = (decP (x).list).getD [] := rfl
    rw [← opT] at op
    obtain ⟨ap, cpp, rfl⟩ := op.shape
    refine RT ?_
    refine ⟨kAP.of_none, ?_⟩
    refine KGO ?_
    refine Yf (by rfl) (fun u hu => ((v1).keep hu (show ¬ b1 = b5 by omega)).at 0 _ rfl) ?_
    refine KGO ?_
    refine Yj (l := 1) OM OM ?_
    refine GW ?_
    refine KGO ?_
    refine Yi (tmC x) (v5.keep0 kAP) (by rfl) rfl (zak (by rfl)) fun wQ vQ kQ => ?_
    have kAQ : Kp w1 wQ (one_ b5) := (kAP.of_none).trans' kQ
    refine ⟨kAQ, ?_⟩
    refine KGO ?_
    refine Yd (i := 0) ((v1).keep kAQ (show ¬ b1 = b5 by omega)) (by simp) (by rfl) ⟨rfl, by simp, by simp⟩ fun wR vR kR => ?_
    have kAR : Kp w1 wR (fun q => q = b5 ∨ q = b1) := (kAQ.mono fun q _ e => .inl e).trans' (kR.mono fun q _ e => .inr e)
    have v5R := vQ.keep kR (show ¬ b5 = b1 by omega)
    have opR := (op.keepT kQ (zag (v5.keep0 kAP) (by decide))).keepT kR (zag ((v1).keep kAQ (show ¬ b1 = b5 by omega)) (by decide))
    refine KGO ?_
    have hPx := zew hsm
    have v2M := v2.keep kAR (by rintro (e | e) <;> omega)
    have v1M := vR
    have krM : Kp wr wR (two2 b1 b2) := (kr1.of_none).trans kAR fun q hq e => by
     rcases e with e | e
     ·have := hq; omega
     exact .inl e
    have hKA := hKA.trans kAR fun q hq e => by rcases e with e | e <;> omega
    have opM := opR
    have v5 := v5R
    have hsm := hsy1
    have zM := krM.size
    clear vR vQ kAR kAQ kR kQ kAP kP opR op opT v5R
    obtain ⟨wM, rfl⟩ : ∃ z, z = wR := ⟨_, rfl⟩
    have kdA := (Yb wM n_).drew
    refine Yh (fun u => Kp wM u (one_ b5)) (fun _ => true) (by simp) (by decide +kernel) (by decide +kernel) kdA.of_none ?_
    refine GW ?_
    refine KGO ?_
    refine Yf (by rfl) (fun u hu => ((v2M).keep hu (show ¬ b2 = b5 by omega)).at 0 _ rfl) ?_
    refine KGO ?_
    refine HeldG (tmC y) (by rfl) (by rfl) (fun u hu => at_mono (show At w0 gy (oy + 0 * 3) (tmC y) from by rw [yaO]; exact hay1) (keeps_new hKA hu h05)) (by rfl) ?_
    refine KGO ?_
    refine Yf (by rfl) (fun u hu => ((v2M).keep hu (show ¬ b2 = b5 by omega)).at 0 _ rfl) ?_
    refine KGO ?_
    refine HeldG (tmC y) (by rfl) (by rfl) (fun u hu => at_mono (show At w0 gy (oy + 0 * 3) (tmC y) from by rw [yaO]; exact hay1) (keeps_new hKA hu h05)) (by rfl) ?_
    refine KGO ?_
    refine Ya (Tryz.call235 _ _) (zbN (w := wM.drew) y hsm.l) ?_
    rintro e wP ⟨vp, rfl, op, kP⟩
    have kAP : Kp wM wP n_ := kdA.trans0 kP
    have opT : plT y = (decP (y).list).getD [] := rfl
    rw [← opT] at op
    obtain ⟨ap, cpp, rfl⟩ := op.shape
    refine RT ?_
    refine ⟨kAP.of_none, ?_⟩
    refine KGO ?_
    refine Yf (by rfl) (fun u hu => ((v2M).keep hu (show ¬ b2 = b5 by omega)).at 0 _ rfl) ?_
    refine KGO ?_
    refine Yj (l := 1) OM OM ?_
    refine GW ?_
    refine KGO ?_
    refine Yi (tmC y) (v5.keep0 kAP) (by rfl) rfl (zak (by rfl)) fun wQ vQ kQ => ?_
    have kAQ : Kp wM wQ (one_ b5) := (kAP.of_none).trans' kQ
    refine ⟨kAQ, ?_⟩
    refine KGO ?_
    refine Yd (i := 0) ((v2M).keep kAQ (show ¬ b2 = b5 by omega)) (by simp) (by rfl) ⟨rfl, by simp, by simp⟩ fun wR vR kR => ?_
    have kAR : Kp wM wR (fun q => q = b5 ∨ q = b2) := (kAQ.mono fun q _ e => .inl e).trans' (kR.mono fun q _ e => .inr e)
    have v5R := vQ.keep kR (show ¬ b5 = b2 by omega)
    have opR := (op.keepT kQ (zag (v5.keep0 kAP) (by decide))).keepT kR (zag ((v2M).keep kAQ (show ¬ b2 = b5 by omega)) (by decide))
    refine KGO ?_
    have v5C := v5R
    have v1C := v1M.keep kAR (by rintro (e | e) <;> omega)
    have v2C := vR
    have krC : Kp wr wR (two2 b1 b2) := krM.trans kAR fun q hq e => by
     rcases e with e | e
     ·omega
     exact .inr e
    have opX := opM.keepT kAR (fun q hq e => e.elim (fun e => zag v5 (by decide) q hq e) (fun e => zag v2M (by decide) q hq e))
    have hP0 := zew hsm
    have kdC := (Yb wR n_).drew
    refine Draw.heldTail 5 (fun u => Kp wR u n_) (fun _ => true) (by decide +kernel) (by decide +kernel) kdC ?_
    refine GW ?_
    refine KGO ?_
    refine HeldG (tmC y) (by rfl) (by rfl) (fun u hu => (v5C.keep0 hu).at) (by rfl) ?_
    refine KGO ?_
    refine Ya (Tryz.call125 _ _) (po_Or (w := (wR).drew) (plT x) (plT y) (((opX.row)).keep kdC) (((opR.row)).keep kdC) (by have := (hPx).1; omega) (by have := (hP0).1; omega) (fun p hp => by have := (hPx).2 p hp; omega) (fun p hp => by have := (hP0).2 p hp; omega)) ?_
    rintro e wS ⟨vo, rfl, oo, kS⟩
    obtain ⟨ao, co, rfl⟩ := oo.shape
    have kCS : Kp wR wS n_ := kdC.trans0 kS
    refine RT ?_
    refine ⟨kCS, ?_⟩
    refine KGO ?_
    have hJS := hJk _ _ _ hj (krC.trans' kCS.of_none)
    have hy := hY pre (y, .slice ao (orP (plT x) (plT y)).length co, orP (plT x) (plT y)) _ wS hJS hd (oo.base (by have := krC.size; have := kdC.size; omega))
    refine YieldS.of hy ?_
    rintro v wT (⟨rfl, hJT, hsame⟩ | ⟨rfl, hJT⟩)
    ·have v1T : VarK wT b1 63 [(.slice (some ⟨gx, if 1 = ca then ox else ox + 1 * 3, none⟩) (xs.length + 1 - 1) (ca - 1))] := by
      have h := v1C.keep0 kCS
      unfold VarK at h ⊢
      rw [hsame b1 (.inl rfl)]; exact h
     have v2T : VarK wT b2 63 [(.slice (some ⟨gy, if 1 = cb then oy else oy + 1 * 3, none⟩) (ys.length + 1 - 1) (cb - 1))] := by
      have h := v2C.keep0 kCS
      unfold VarK at h ⊢
      rw [hsame b2 (.inr rfl)]; exact h
     refine GW ?_
     refine KGO ?_
     exact ⟨(((.slice (some ⟨gx, if 1 = ca then ox else ox + 1 * 3, none⟩) (xs.length + 1 - 1) (ca - 1)), xs), ((.slice (some ⟨gy, if 1 = cb then oy else oy + 1 * 3, none⟩) (ys.length + 1 - 1) (cb - 1)), ys), pre ++ [(y, .slice ao (orP (plT x) (plT y)).length co, orP (plT x) (plT y))]), FR, ⟨rtlX, ctlX, rtlY, ctlY, v1T, v2T, by rw [List.map_append, List.append_assoc]; exact hd, hJT, DO, DO, fun t h => hsx t (List.mem_cons_of_mem _ h), fun t h => hsy t (List.mem_cons_of_mem _ h)⟩, by dsimp only [List.length_cons]; omega⟩
    refine GW ?_
    refine KGO ?_
    exact ⟨⟨_, rfl⟩, .inr ⟨_, hJT⟩⟩
   rw [if_neg c2] at hd
   refine KGO ?_
   have hsm := hsy1
   have kdA := (Yb w1 n_).drew
   refine Yh (fun u => Kp w1 u (one_ b5)) (fun _ => true) (by simp) (by decide +kernel) (by decide +kernel) kdA.of_none ?_
   refine GW ?_
   refine KGO ?_
   refine Yf (by rfl) (fun u hu => ((v2).keep hu (show ¬ b2 = b5 by omega)).at 0 _ rfl) ?_
   refine KGO ?_
   refine HeldG (tmC y) (by rfl) (by rfl) (fun u hu => at_mono (show At w0 gy (oy + 0 * 3) (tmC y) from by rw [yaO]; exact hay1) (keeps_new hKA hu h05)) (by rfl) ?_
   refine KGO ?_
   refine Yf (by rfl) (fun u hu => ((v2).keep hu (show ¬ b2 = b5 by omega)).at 0 _ rfl) ?_
   refine KGO ?_
   refine HeldG (tmC y) (by rfl) (by rfl) (fun u hu => at_mono (show At w0 gy (oy + 0 * 3) (tmC y) from by rw [yaO]; exact hay1) (keeps_new hKA hu h05)) (by rfl) ?_
   refine KGO ?_
   refine Ya (Tryz.call235 _ _) (zbN (w := w1.drew) y hsm.l) ?_
   rintro e wP ⟨vp, rfl, op, kP⟩
   have kAP : Kp w1 wP n_ := kdA.trans0 kP
   have opT : plT y = (decP (y).list).getD [] := rfl
   rw [← opT] at op
   obtain ⟨ap, cpp, rfl⟩ := op.shape
   refine RT ?_
   refine ⟨kAP.of_none, ?_⟩
   refine KGO ?_
   refine Yf (by rfl) (fun u hu => ((v2).keep hu (show ¬ b2 = b5 by omega)).at 0 _ rfl) ?_
   refine KGO ?_
   refine Yj (l := 1) OM OM ?_
   refine GW ?_
   refine KGO ?_
   refine Yi (tmC y) (v5.keep0 kAP) (by rfl) rfl (zak (by rfl)) fun wQ vQ kQ => ?_
   have kAQ : Kp w1 wQ (one_ b5) := (kAP.of_none).trans' kQ
   refine ⟨kAQ, ?_⟩
   refine KGO ?_
   refine Yd (i := 0) ((v2).keep kAQ (show ¬ b2 = b5 by omega)) (by simp) (by rfl) ⟨rfl, by simp, by simp⟩ fun wR vR kR => ?_
   have kAR : Kp w1 wR (fun q => q = b5 ∨ q = b2) := (kAQ.mono fun q _ e => .inl e).trans' (kR.mono fun q _ e => .inr e)
   have v5R := vQ.keep kR (show ¬ b5 = b2 by omega)
   have opR := (op.keepT kQ (zag (v5.keep0 kAP) (by decide))).keepT kR (zag ((v2).keep kAQ (show ¬ b2 = b5 by omega)) (by decide))
   refine KGO ?_
   have v5C := v5R
   have v1C := v1.keep kAR (by rintro (e | e) <;> omega)
   have v2C := vR
   have krC : Kp wr wR (two2 b1 b2) := (kr1.of_none).trans kAR fun q hq e => by
    rcases e with e | e
    ·have := hq; omega
    exact .inr e
   have hP0 := zew hsm
   have kdC := (Yb wR n_).drew
   refine Draw.heldTail 5 (fun u => Kp wR u n_) (fun _ => true) (by decide +kernel) (by decide +kernel) kdC ?_
   refine GW ?_
   refine KGO ?_
   refine HeldG (tmC y) (by rfl) (by rfl) (fun u hu => (v5C.keep0 hu).at) (by rfl) ?_
   refine KGO ?_
   refine Ya (Tryz.call125 _ _) (po_Or (w := (wR).drew) [] (plT y) ((((ownP_nil wR 0).row)).keep kdC) (((opR.row)).keep kdC) (by have := (nilPl).1; omega) (by have := (hP0).1; omega) (fun p hp => by have := (nilPl).2 p hp; omega) (fun p hp => by have := (hP0).2 p hp; omega)) ?_
   rintro e wS ⟨vo, rfl, oo, kS⟩
   obtain ⟨ao, co, rfl⟩ := oo.shape
   have kCS : Kp wR wS n_ := kdC.trans0 kS
   refine RT ?_
   refine ⟨kCS, ?_⟩
   refine KGO ?_
   have hJS := hJk _ _ _ hj (krC.trans' kCS.of_none)
   have hy := hY pre (y, .slice ao (orP [] (plT y)).length co, orP [] (plT y)) _ wS hJS hd (oo.base (by have := krC.size; have := kdC.size; omega))
   refine YieldS.of hy ?_
   rintro v wT (⟨rfl, hJT, hsame⟩ | ⟨rfl, hJT⟩)
   ·have v1T : VarK wT b1 63 [(.slice (some ⟨gx, ox, none⟩) (xs.length + 1) ca)] := by
     have h := v1C.keep0 kCS
     unfold VarK at h ⊢
     rw [hsame b1 (.inl rfl)]; exact h
    have v2T : VarK wT b2 63 [(.slice (some ⟨gy, if 1 = cb then oy else oy + 1 * 3, none⟩) (ys.length + 1 - 1) (cb - 1))] := by
     have h := v2C.keep0 kCS
     unfold VarK at h ⊢
     rw [hsame b2 (.inr rfl)]; exact h
    refine GW ?_
    refine KGO ?_
    exact ⟨(((.slice (some ⟨gx, ox, none⟩) (xs.length + 1) ca), (x :: xs)), ((.slice (some ⟨gy, if 1 = cb then oy else oy + 1 * 3, none⟩) (ys.length + 1 - 1) (cb - 1)), ys), pre ++ [(y, .slice ao (orP [] (plT y)).length co, orP [] (plT y))]), FR, ⟨hx0, hcx, rtlY, ctlY, v1T, v2T, by rw [List.map_append, List.append_assoc]; exact hd, hJT, by dsimp only [List.length_cons]; omega, DO, hsx, fun t h => hsy t (List.mem_cons_of_mem _ h)⟩, by dsimp only [List.length_cons]; omega⟩
   refine GW ?_
   refine KGO ?_
   exact ⟨⟨_, rfl⟩, .inr ⟨_, hJT⟩⟩
end
end Go.Proofs.YtennokckmjcefaaGreatDoor
