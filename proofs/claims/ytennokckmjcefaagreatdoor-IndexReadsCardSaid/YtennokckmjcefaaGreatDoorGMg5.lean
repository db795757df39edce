/- Helper lemmas; no conditions of their own. -/
import Derived.Lib.Bytealg
import Derived.Test.YtennokckmjcefaaGreatDoorGMg3
set_option linter.unusedVariables false
set_option maxRecDepth 100000
namespace Go.Proofs.YtennokckmjcefaaGreatDoor
open Go.Shelf Go.RowKit Go.Pw Go.Vc Go.Cs Go.Lib Go.Cd Go.Mg
section
variable {w : World}
theorem ziT (x : Int) : Calls Tryz.prog 189 #[.int .i64 x] w fun e w' => e = .returned (.bool false) ∧ w = w' := by
 refine zaa (args := [.int .i64 x]) Tryz.func189 rfl NL ?_; refine GW ?_
 exact ⟨ret_bool (by simp), rfl⟩
theorem zkD (x y : Int) : Calls Tryz.prog 209 #[.int .i64 x, .int .i64 y] w fun e w' => e = .returned (.int .i64 (cmpI x y)) ∧ Kp w w' n_ := by
 refine zaa (args := [.int .i64 x, .int .i64 y]) Tryz.func209 rfl NL ?_; refine GW ?_
 refine Ya (Tryz.call189 _ _) (ziT x) ?_
 rintro e _ ⟨rfl, rfl⟩
 refine RT ?_
 refine Ya (Tryz.call189 _ _) (ziT y) ?_
 rintro e _ ⟨rfl, rfl⟩
 refine RT ?_
 unfold cmpI
 by_cases h1 : x < y
 ·refine KGO ?_
  exact ⟨by rw [if_pos h1], Yb _ _⟩
 by_cases h2 : y < x
 ·refine KGO ?_
  exact ⟨by rw [if_neg h1, if_pos h2], Yb _ _⟩
 refine KGO ?_
 exact ⟨by rw [if_neg h1, if_neg h2], Yb _ _⟩
theorem zlO (x y : Pr) : Calls Tryz.prog 220 #[.agg (prC x).toArray, .agg (prC y).toArray] w fun e w' => e = .returned (.int .i64 (cmpI x.p.doc y.p.doc)) ∧ Kp w w' n_ := by
 refine zaa (args := [.agg (prC x).toArray, .agg (prC y).toArray]) Tryz.func220 rfl NL ?_; refine GW ?_
 obtain ⟨a_b1, v_b1, k_w1, z_w1, r_w1⟩ := new5 w 44 (prC x)
 generalize w.alloc (.cells (List.toArray (prC x)) 44) = w1 at *
 generalize hs_b1 : w.heap.size = b1 at *
 obtain ⟨a_b2, v_b2, k_w2, z_w2, r_w2⟩ := new5 w1 44 (prC y)
 generalize w1.alloc (.cells (List.toArray (prC y)) 44) = w2 at *
 generalize hs_b2 : w1.heap.size = b2 at *
 have K2 : Kp w w2 n_ := k_w1.trans0 k_w2
 have a1 := at_mono a_b1 k_w2
 clear a_b1
 refine KGO ?_
 refine Ya (Tryz.call209 _ _) (zkD x.p.doc y.p.doc) ?_
 rintro e w3 ⟨rfl, k3⟩
 refine RT ?_
 exact ⟨rfl, K2.trans0 k3⟩
theorem zjk (x : Pr) (hx : RowI w x.h.v x.p.places) (hl : x.p.places.length ≤ 1000000000000) : Calls Tryz.prog 176 #[.agg (prC x).toArray] w fun e w' => ∃ r : Pr, e = .returned (.agg (prC r).toArray) ∧ r.p = x.p ∧ OwnI w' w.heap.size r.h.v r.p.places ∧ Kp w w' n_ := by
 refine zaa (args := [.agg (prC x).toArray]) Tryz.func176 rfl NL ?_; refine GW ?_
 obtain ⟨a_b1, v_b1, k_w1, z_w1, r_w1⟩ := new5 w 44 (prC x)
 generalize w.alloc (.cells (List.toArray (prC x)) 44) = w1 at *
 generalize hs_b1 : w.heap.size = b1 at *
 obtain ⟨a_b2, v_b2, k_w2, z_w2, r_w2⟩ := new5 w1 44 ([.int .i64 0, .slice none 0 0])
 generalize w1.alloc (.cells (List.toArray ([.int .i64 0, .slice none 0 0])) 44) = w2 at *
 generalize hs_b2 : w1.heap.size = b2 at *
 have v1 := v_b1.keep0 k_w2
 have a1 := v1.at
 have K2 : Kp w w2 n_ := k_w1.trans0 k_w2
 clear a_b1 v_b1
 refine KGO ?_
 refine Ya (Tryz.call222 _ _) (cl_I (w := w2) x.p.places (hx.keep K2) OM) ?_
 rintro e w3 ⟨v3, rfl, o3, k3⟩
 obtain ⟨a3, c3, rfl⟩ := zab o3
 have z3 := K2.size
 have K3 := K2.trans0 k3
 refine RT ?_
 refine KGO ?_
 refine Yd (i := 1) (v1.keep0 k3) (by simp [prC]) (by rfl) ⟨rfl, by simp, by simp⟩ fun w4 v4 k4 => ?_
 have K4 : Kp w w4 n_ := keeps_new K3 k4 OM
 have o4 := zad (D := [3]) o3 k4 (zag (v1.keep0 k3) (by decide)) (by decide)
 have w2v := (v_b2.keep0 k3).keep k4 (show ¬ b2 = b1 by omega)
 have a4 := v4.at
 have q4 := Yb w4 n_
 refine KGO ?_
 refine SVK (prC ⟨x.p, ⟨a3, x.p.places.length, c3⟩⟩) w2v fun w5 v5 k5 => ?_
 have K5 : Kp w w5 n_ := keeps_new K4 k5 OM
 have o5 := zad (D := [3]) o4 k5 (zag w2v (by decide)) (by decide)
 have a5 := v5.at
 have q5 := Yb w5 n_
 refine KGO ?_
 refine GW ?_
 exact ⟨⟨x.p, ⟨a3, x.p.places.length, c3⟩⟩, rfl, rfl, own_base o5 OM, K5⟩
theorem zuk {w0 : World} {b : Nat} {vp px py : Value} {xo yo : Option Int} (d : Int) (l : List Int) (hv : VarK w b 44 [.int .i64 d, vp]) (ho : OwnI w b vp l) (hw : w0.heap.size ≤ b) (hk : Kp w0 w n_) (hl : l.length ≤ 4000000000000)
  (hx : PtrO w0 inC px xo) (hy : PtrO w0 inC py yo) (hne : xo ≠ none ∨ yo ≠ none) :
  Calls Tryz.prog 224 #[px, py, .pointer (some ⟨b, 0, none⟩)] w fun e w' => e = .returned (.tuple #[]) ∧ (∃ vp', VarK w' b 44 [.int .i64 d, vp'] ∧ OwnI w' b vp' (l ++ [fstO (xo, yo)])) ∧ Kp w0 w' n_ := by
 obtain ⟨a, c, rfl⟩ := zab ho
 have ha := hv.at
 cases xo with
 | none =>
  cases yo with
  | none => simp at hne
  | some y =>
   obtain rfl : px = .pointer none := hx
   obtain ⟨g, o, rfl, hat⟩ := hy
   refine zaa (args := [.pointer none, .pointer (some ⟨g, o, none⟩), .pointer (some ⟨b, 0, none⟩)]) Tryz.func224 rfl NL ?_; refine GW ?_
   refine KGO ?_
   refine Yh (fun u => Kp w0 u n_ ∧ VarK u b 44 [.int .i64 d, .slice a l.length c]) (fun _ => true) (by simp) (by decide +kernel) (by decide +kernel) ⟨hk.drew, hv.keep0 (Yb w n_).drew⟩ ?_
   refine KGO ?_
   refine Yf (by rfl) (fun u hu => hu.2.at 1 _ rfl) ?_
   refine KGO ?_
   refine Yf (by rfl) (fun u hu => zao (hat 0 _ rfl) hu.1) ?_
   refine KGO ?_
   have kd := (Yb w n_).drew
   have hbl := hv.lt
   refine Ye (bs1I y _) ?_
   obtain ⟨a_b2, v_b2, k_w2, z_w2, r_w2⟩ := new5 w.drew 3 (inC y)
   generalize w.drew.alloc (.cells (List.toArray (inC y)) 3) = w2 at *
   generalize hs_b2 : w.drew.heap.size = b2 at *
   have v2 := (hv.keep0 kd).keep0 k_w2
   have o2 := own_keep0 (own_keep0 ho kd) k_w2
   have K2 := (hk.trans0 kd).trans0 k_w2
   have z2 := (kd.trans0 k_w2).size
   refine ⟨⟨K2, v2⟩, ?_⟩
   refine KGO ?_
   refine tyI.app1 y o2 OM a_b2 OM OM fun v3 w3 o3 k3 => ?_
   obtain ⟨a3, c3, rfl⟩ := zab o3
   have v3' := v2.keep k3 (zac o2 v2 (by decide))
   have K3 := zav o2 k3 K2 hw
   refine ⟨⟨K3, v3'⟩, ?_⟩
   refine KGO ?_
   refine Yd (i := 1) v3' (by simp) (by rfl) ⟨rfl, by simp, by simp⟩ fun w4 v4 k4 => ?_
   refine GW ?_
   exact ⟨rfl, ⟨_, v4, zad (D := [3]) o3 k4 (zag v3' (by decide)) (by decide)⟩, keeps_new K3 k4 hw⟩
 | some x =>
  obtain ⟨g, o, rfl, hat⟩ := hx
  have hpy : ∃ q, py = .pointer q := by
   cases yo with
   | none => exact ⟨_, hy⟩
   | some y => obtain ⟨_, _, h, _⟩ := hy; exact ⟨_, h⟩
  obtain ⟨q, rfl⟩ := hpy
  refine zaa (args := [.pointer (some ⟨g, o, none⟩), .pointer q, .pointer (some ⟨b, 0, none⟩)]) Tryz.func224 rfl NL ?_; refine GW ?_
  refine KGO ?_
  refine Yh (fun u => Kp w0 u n_ ∧ VarK u b 44 [.int .i64 d, .slice a l.length c]) (fun _ => true) (by simp) (by decide +kernel) (by decide +kernel) ⟨hk.drew, hv.keep0 (Yb w n_).drew⟩ ?_
  refine KGO ?_
  refine Yf (by rfl) (fun u hu => hu.2.at 1 _ rfl) ?_
  refine KGO ?_
  refine Yf (by rfl) (fun u hu => zao (hat 0 _ rfl) hu.1) ?_
  refine KGO ?_
  have kd := (Yb w n_).drew
  have hbl := hv.lt
  refine Ye (bs1I x _) ?_
  obtain ⟨a_b2, v_b2, k_w2, z_w2, r_w2⟩ := new5 w.drew 3 (inC x)
  generalize w.drew.alloc (.cells (List.toArray (inC x)) 3) = w2 at *
  generalize hs_b2 : w.drew.heap.size = b2 at *
  have v2 := (hv.keep0 kd).keep0 k_w2
  have o2 := own_keep0 (own_keep0 ho kd) k_w2
  have K2 := (hk.trans0 kd).trans0 k_w2
  have z2 := (kd.trans0 k_w2).size
  refine ⟨⟨K2, v2⟩, ?_⟩
  refine KGO ?_
  refine tyI.app1 x o2 OM a_b2 OM OM fun v3 w3 o3 k3 => ?_
  obtain ⟨a3, c3, rfl⟩ := zab o3
  have v3' := v2.keep k3 (zac o2 v2 (by decide))
  have K3 := zav o2 k3 K2 hw
  refine ⟨⟨K3, v3'⟩, ?_⟩
  refine KGO ?_
  refine Yd (i := 1) v3' (by simp) (by rfl) ⟨rfl, by simp, by simp⟩ fun w4 v4 k4 => ?_
  refine GW ?_
  exact ⟨rfl, ⟨_, v4, zad (D := [3]) o3 k4 (zag v3' (by decide)) (by decide)⟩, keeps_new K3 k4 hw⟩
theorem zrl (x y : Pr) (hx : RowI w x.h.v x.p.places) (hy : RowI w y.h.v y.p.places) (hcx : CapK x.h.v) (hcy : CapK y.h.v) (hlx : x.p.places.length ≤ 1000000000000) (hly : y.p.places.length ≤ 1000000000000) :
  Calls Tryz.prog 177 #[.agg (prC x).toArray, .agg (prC y).toArray] w fun e w' => ∃ r : Pr, e = .returned (.agg (prC r).toArray) ∧ r.p = ⟨x.p.doc, unI x.p.places y.p.places⟩ ∧ OwnI w' w.heap.size r.h.v r.p.places ∧ Kp w w' n_ := by
 refine zaa (args := [.agg (prC x).toArray, .agg (prC y).toArray]) Tryz.func177 rfl NL ?_; refine GW ?_
 obtain ⟨a_b1, v_b1, k_w1, z_w1, r_w1⟩ := new5 w 44 (prC x)
 generalize w.alloc (.cells (List.toArray (prC x)) 44) = w1 at *
 generalize hs_b1 : w.heap.size = b1 at *
 obtain ⟨a_b2, v_b2, k_w2, z_w2, r_w2⟩ := new5 w1 44 (prC y)
 generalize w1.alloc (.cells (List.toArray (prC y)) 44) = w2 at *
 generalize hs_b2 : w1.heap.size = b2 at *
 obtain ⟨a_b3, v_b3, k_w3, z_w3, r_w3⟩ := new5 w2 44 ([.int .i64 0, .slice none 0 0])
 generalize w2.alloc (.cells (List.toArray ([.int .i64 0, .slice none 0 0])) 44) = w3 at *
 generalize hs_b3 : w2.heap.size = b3 at *
 have K3 : Kp w w3 n_ := (k_w1.trans0 k_w2).trans0 k_w3
 have v1 := (v_b1.keep0 k_w2).keep0 k_w3
 have v2 := v_b2.keep0 k_w3
 have a1 := v1.at
 have a2 := v2.at
 clear a_b1 v_b1 a_b2 v_b2
 refine KGO ?_
 refine Ye (zej x.p.doc _) ?_
 refine KGO ?_
 have v5 := Yk w3 44 [.int .i64 x.p.doc, .slice none 0 0]
 refine Yg (vs := [.int .i64 x.p.doc, .slice none 0 0]) (by rfl) rfl (zak (by rfl)) ?_
 obtain ⟨a_b5, k_w4, z_w4⟩ := new3 w3 44 ([.int .i64 x.p.doc, .slice none 0 0])
 generalize w3.alloc (.cells (List.toArray ([.int .i64 x.p.doc, .slice none 0 0])) 44) = w4 at *
 generalize hs_b5 : w3.heap.size = b5 at *
 have a1 := at_mono a1 k_w4
 have a2 := at_mono a2 k_w4
 have K4 := K3.trans0 k_w4
 refine KGO ?_
 conv => arg 3; simp [ev, upd]
 rw [Yl hx, Yl hy]
 have hb5 : w3.heap.size = b5 := hs_b5
 have hcall := zrj (w0 := w3) (w := w4) (p0 := .pointer (some ⟨b5, 0, none⟩)) (va := .slice x.h.a x.p.places.length x.h.c) (vb := .slice y.h.a y.p.places.length y.h.c) (g1 := 209) (g2 := 224) x.p.places y.p.places cmpI
  (fun d u => ∃ vp, VarK u b5 44 [.int .i64 x.p.doc, vp] ∧ OwnI u b5 vp (d.map fstO) ∧ Kp w3 u n_)
  (by have h := hx.keep K3; rw [show x.h.v = .slice x.h.a x.p.places.length x.h.c from by rw [← Yl hx]] at h; exact h) (by have h := hy.keep K3; rw [show y.h.v = .slice y.h.a y.p.places.length y.h.c from by rw [← Yl hy]] at h; exact h)
  (by rw [← Yl hx]; exact hcx) (by rw [← Yl hy]; exact hcy) hlx hly (fun _ _ => rfl) (fun _ _ => rfl) (fun d u h => h.choose_spec.2.2)
  (fun d u u' ⟨vp, h1, h2, h3⟩ k => ⟨vp, h1.keep0 k, own_keep0 h2 k, h3.trans0 k⟩) (fun a b u k => zkD a b)
  (fun d rest xo yo px py u hd hk hpx hpy ⟨vp, h1, h2, h3⟩ => by
   have hsp := zaN cmpI x.p.places y.p.places
   rw [hd] at hsp
   have hne := (hsp.1 (xo, yo) (by simp)).1
   have hln := hsp.2
   rw [yaa, yab] at hln
   refine (zuk (w := u) (w0 := w3) x.p.doc (d.map fstO) h1 h2 OM h3 (by rw [yaf]; omega) hpx hpy hne).mono fun e u' h => ?_
   obtain ⟨rfl, ⟨vp', h4, h5⟩, h6⟩ := h
   exact ⟨rfl, vp', h4, by rw [yaL]; exact h5, h6⟩) ⟨_, v5, World.ownsRow_nil _ _ _ _, k_w4⟩
 refine Ya (Tryz.call223 _ _) hcall ?_
 rintro e w5 ⟨rfl, vp, h5, o5, k5⟩
 obtain ⟨ap, cp, rfl⟩ := zab o5
 have K5 := K3.trans0 k5
 have a5 := h5.at
 have hu : (bothL cmpI x.p.places y.p.places).map fstO = unI x.p.places y.p.places := rfl
 rw [hu] at a5 o5 h5
 have v_b3 := v_b3.keep0 k5
 have z3 := K3.size
 clear hcall v1 v2 a1 a2 v5
 refine RT ?_
 refine KGO ?_
 refine SVK (prC ⟨⟨x.p.doc, unI x.p.places y.p.places⟩, ⟨ap, (unI x.p.places y.p.places).length, cp⟩⟩) v_b3 fun w6 v6 k6 => ?_
 have K6 : Kp w w6 n_ := keeps_new K5 k6 OM
 have o6 := zad (D := [3]) o5 k6 (zag v_b3 (by decide)) (by decide)
 have a6 := v6.at
 have q6 := Yb w6 n_
 refine KGO ?_
 refine GW ?_
 exact ⟨⟨⟨x.p.doc, unI x.p.places y.p.places⟩, ⟨ap, (unI x.p.places y.p.places).length, cp⟩⟩, rfl, rfl, own_base o6 OM, K6⟩
end
def cmpR (x y : Pr) : Int := cmpI x.p.doc y.p.doc
def orR (p : Option Pr × Option Pr) : Pst := orO (p.1.map (·.p), p.2.map (·.p))
theorem zsh (la lb : List Pr) : orP (la.map (·.p)) (lb.map (·.p)) = (bothL cmpR la lb).map orR := by
 unfold orP
 rw [zfv, ybe]
 rfl
section
variable {w : World}
theorem zsC {w0 : World} {va vb p0 : Value} {g2 : Nat} (la lb : List Pr) (I : List (Option Pr × Option Pr) → World → Prop)
  (ha : RowO w0 va prC la) (hb : RowO w0 vb prC lb) (hca : CapK va) (hcb : CapK vb) (hla : la.length ≤ 1000000000000) (hlb : lb.length ≤ 1000000000000)
  (hg2 : ∀ (args : Array Value) (w : World), (callFunc g2 args).run Tryz.prog w = .ok (.enter g2 args) w)
  (hI : ∀ d u, I d u → Kp w0 u n_) (hIk : ∀ d u u', I d u → Kp u u' n_ → I d u')
  (hsee : ∀ d rest xo yo px py u, bothL cmpR la lb = d ++ (xo, yo) :: rest → Kp w0 u n_ → PtrO w0 prC px xo → PtrO w0 prC py yo → I d u →
   Calls Tryz.prog g2 #[px, py, p0] u fun e u' => e = .returned (.tuple #[]) ∧ I (d ++ [(xo, yo)]) u') (h0 : I [] w) :
  Calls Tryz.prog 165 #[va, vb, .func (.func g2) #[] #[p0]] w fun e w' => e = .returned (.tuple #[]) ∧ I (bothL cmpR la lb) w' := by
 have hcall := zqP (w := w) (g1 := 220) la lb cmpR I ha hb hca hcb hla hlb (fun _ _ => rfl) hg2 hI hIk (fun x y u k => zlO x y) hsee h0
 obtain ⟨a, ca, rfl, hra⟩ := ha
 obtain ⟨b, cb, rfl, hrb⟩ := hb
 refine zaa (args := [.slice a la.length ca, .slice b lb.length cb, .func (.func g2) #[] #[p0]]) Tryz.func165 rfl NL ?_; refine GW ?_
 refine Ya (Tryz.call219 _ _) hcall ?_
 rintro e w1 ⟨rfl, h1⟩
 refine RT ?_
 exact ⟨rfl, h1⟩
theorem zuc {w0 : World} {b : Nat} {vo px py : Value} {xo yo : Option Pr} (l : List Pr) (hv : VarK w b 37 [vo]) (ho : OwP w b vo l) (hw : w0.heap.size ≤ b) (hk : Kp w0 w n_) (hl : l.length ≤ 2000000000000)
  (hx : PtrO w0 prC px xo) (hy : PtrO w0 prC py yo) (hne : xo ≠ none ∨ yo ≠ none)
  (hpx : ∀ x, xo = some x → RowI w0 x.h.v x.p.places ∧ CapK x.h.v ∧ x.p.places.length ≤ 1000000000000) (hpy : ∀ x, yo = some x → RowI w0 x.h.v x.p.places ∧ CapK x.h.v ∧ x.p.places.length ≤ 1000000000000) :
  Calls Tryz.prog 175 #[px, py, .pointer (some ⟨b, 0, none⟩)] w fun e w' => e = .returned (.tuple #[]) ∧ (∃ vo' x, VarK w' b 37 [vo'] ∧ OwP w' b vo' (l ++ [x]) ∧ x.p = orR (xo, yo)) ∧ Kp w0 w' n_ := by
 obtain ⟨a, c, rfl⟩ := zab ho.row
 have ha := hv.at
 cases xo with
 | none =>
  cases yo with
  | none => simp at hne
  | some y =>
   obtain rfl : px = .pointer none := hx
   obtain ⟨g, o, rfl, hat⟩ := hy
   refine zaa (args := [.pointer none, .pointer (some ⟨g, o, none⟩), .pointer (some ⟨b, 0, none⟩)]) Tryz.func175 rfl NL ?_; refine GW ?_
   refine KGO ?_
   have kd := (Yb w n_).drew
   have hbl := hv.lt
   have zd := kd.size
   refine Yh (fun u => Kp w0 u n_ ∧ VarK u b 37 [.slice a l.length c]) (fun _ => true) (by simp) (by decide +kernel) (by decide +kernel) ⟨hk.drew, hv.keep0 kd⟩ ?_
   refine KGO ?_
   refine Yf (by rfl) (fun u hu => hu.2.at 0 _ rfl) ?_
   refine KGO ?_
   refine HeldG (prC y) (by rfl) (by rfl) (fun u hu => at_mono hat hu.1) (by rfl) ?_
   refine KGO ?_
   refine Ya (Tryz.call176 _ _) (zjk (w := w.drew) y ((hpy y rfl).1.keep hk.drew) (hpy y rfl).2.2) ?_
   rintro e w1 ⟨r, rfl, hrp, hro, k1⟩
   refine RT ?_
   have K1 := (hk.trans0 kd).trans0 k1
   have v1 := (hv.keep0 kd).keep0 k1
   have o1 := (ho.keep kd).keep k1
   have z1 := k1.size
   refine ⟨⟨K1, v1⟩, ?_⟩
   refine KGO ?_
   refine Ye (bs1P r _) ?_
   obtain ⟨a_b2, v_b2, k_w2, z_w2, r_w2⟩ := new5 w1 44 (prC r)
   generalize w1.alloc (.cells (List.toArray (prC r)) 44) = w2 at *
   generalize hs_b2 : w1.heap.size = b2 at *
   have K2 := K1.trans0 k_w2
   have v2 := v1.keep0 k_w2
   have o2 := o1.keep k_w2
   have r2 := own_keep0 hro k_w2
   refine ⟨⟨K2, v2⟩, ?_⟩
   refine KGO ?_
   refine tyP.app1 r o2.row OM a_b2 OM OM fun v3 w3 o3 k3 => ?_
   have ho3 : OwP w3 b v3 (l ++ [r]) := ⟨o3, fun z hz => by
    rcases yaj.1 hz with hz | hz
    ·exact zad (D := [3]) (o2.pl z hz) k3 (zaC o2.row (by decide)) (by decide)
    rw [yac.1 hz]
    exact own_base (zad (D := [3]) r2 k3 (zaC o2.row (by decide)) (by decide)) OM⟩
   have v3' := v2.keep k3 (zac o2.row v2 (by decide))
   have K3 := zav o2.row k3 K2 hw
   obtain ⟨a3, c3, rfl⟩ := zab o3
   refine ⟨⟨K3, v3'⟩, ?_⟩
   refine KGO ?_
   refine Yd (i := 0) v3' (by simp) (by rfl) ⟨rfl, by simp, by simp⟩ fun w4 v4 k4 => ?_
   refine GW ?_
   exact ⟨rfl, ⟨_, r, v4, ho3.keepT k4 (zag v3' (by decide)), hrp⟩, keeps_new K3 k4 hw⟩
 | some x =>
  obtain ⟨g, o, rfl, hat⟩ := hx
  cases yo with
  | none =>
   obtain rfl : py = .pointer none := hy
   refine zaa (args := [.pointer (some ⟨g, o, none⟩), .pointer none, .pointer (some ⟨b, 0, none⟩)]) Tryz.func175 rfl NL ?_; refine GW ?_
   refine KGO ?_
   have kd := (Yb w n_).drew
   have hbl := hv.lt
   have zd := kd.size
   refine Yh (fun u => Kp w0 u n_ ∧ VarK u b 37 [.slice a l.length c]) (fun _ => true) (by simp) (by decide +kernel) (by decide +kernel) ⟨hk.drew, hv.keep0 kd⟩ ?_
   refine KGO ?_
   refine Yf (by rfl) (fun u hu => hu.2.at 0 _ rfl) ?_
   refine KGO ?_
   refine HeldG (prC x) (by rfl) (by rfl) (fun u hu => at_mono hat hu.1) (by rfl) ?_
   refine KGO ?_
   refine Ya (Tryz.call176 _ _) (zjk (w := w.drew) x ((hpx x rfl).1.keep hk.drew) (hpx x rfl).2.2) ?_
   rintro e w1 ⟨r, rfl, hrp, hro, k1⟩
   refine RT ?_
   have K1 := (hk.trans0 kd).trans0 k1
   have v1 := (hv.keep0 kd).keep0 k1
   have o1 := (ho.keep kd).keep k1
   have z1 := k1.size
   refine ⟨⟨K1, v1⟩, ?_⟩
   refine KGO ?_
   refine Ye (bs1P r _) ?_
   obtain ⟨a_b2, v_b2, k_w2, z_w2, r_w2⟩ := new5 w1 44 (prC r)
   generalize w1.alloc (.cells (List.toArray (prC r)) 44) = w2 at *
   generalize hs_b2 : w1.heap.size = b2 at *
   have K2 := K1.trans0 k_w2
   have v2 := v1.keep0 k_w2
   have o2 := o1.keep k_w2
   have r2 := own_keep0 hro k_w2
   refine ⟨⟨K2, v2⟩, ?_⟩
   refine KGO ?_
   refine tyP.app1 r o2.row OM a_b2 OM OM fun v3 w3 o3 k3 => ?_
   have ho3 : OwP w3 b v3 (l ++ [r]) := ⟨o3, fun z hz => by
    rcases yaj.1 hz with hz | hz
    ·exact zad (D := [3]) (o2.pl z hz) k3 (zaC o2.row (by decide)) (by decide)
    rw [yac.1 hz]
    exact own_base (zad (D := [3]) r2 k3 (zaC o2.row (by decide)) (by decide)) OM⟩
   have v3' := v2.keep k3 (zac o2.row v2 (by decide))
   have K3 := zav o2.row k3 K2 hw
   obtain ⟨a3, c3, rfl⟩ := zab o3
   refine ⟨⟨K3, v3'⟩, ?_⟩
   refine KGO ?_
   refine Yd (i := 0) v3' (by simp) (by rfl) ⟨rfl, by simp, by simp⟩ fun w4 v4 k4 => ?_
   refine GW ?_
   exact ⟨rfl, ⟨_, r, v4, ho3.keepT k4 (zag v3' (by decide)), hrp⟩, keeps_new K3 k4 hw⟩
  | some y =>
   obtain ⟨g2, o2, rfl, hat2⟩ := hy
   refine zaa (args := [.pointer (some ⟨g, o, none⟩), .pointer (some ⟨g2, o2, none⟩), .pointer (some ⟨b, 0, none⟩)]) Tryz.func175 rfl NL ?_; refine GW ?_
   refine KGO ?_
   have kd := (Yb w n_).drew
   have hbl := hv.lt
   have zd := kd.size
   refine Yh (fun u => Kp w0 u n_ ∧ VarK u b 37 [.slice a l.length c]) (fun _ => true) (by simp) (by decide +kernel) (by decide +kernel) ⟨hk.drew, hv.keep0 kd⟩ ?_
   refine KGO ?_
   refine Yf (by rfl) (fun u hu => hu.2.at 0 _ rfl) ?_
   refine KGO ?_
   refine HeldG (prC x) (by rfl) (by rfl) (fun u hu => at_mono hat hu.1) (by rfl) ?_
   refine KGO ?_
   refine HeldG (prC y) (by rfl) (by rfl) (fun u hu => at_mono hat2 hu.1) (by rfl) ?_
   refine KGO ?_
   refine Ya (Tryz.call177 _ _) (zrl (w := w.drew) x y ((hpx x rfl).1.keep hk.drew) ((hpy y rfl).1.keep hk.drew) (hpx x rfl).2.1 (hpy y rfl).2.1 (hpx x rfl).2.2 (hpy y rfl).2.2) ?_
   rintro e w1 ⟨r, rfl, hrp, hro, k1⟩
   refine RT ?_
   have K1 := (hk.trans0 kd).trans0 k1
   have v1 := (hv.keep0 kd).keep0 k1
   have o1 := (ho.keep kd).keep k1
   have z1 := k1.size
   refine ⟨⟨K1, v1⟩, ?_⟩
   refine KGO ?_
   refine Ye (bs1P r _) ?_
   obtain ⟨a_b2, v_b2, k_w2, z_w2, r_w2⟩ := new5 w1 44 (prC r)
   generalize w1.alloc (.cells (List.toArray (prC r)) 44) = w2 at *
   generalize hs_b2 : w1.heap.size = b2 at *
   have K2 := K1.trans0 k_w2
   have v2 := v1.keep0 k_w2
   have o2 := o1.keep k_w2
   have r2 := own_keep0 hro k_w2
   refine ⟨⟨K2, v2⟩, ?_⟩
   refine KGO ?_
   refine tyP.app1 r o2.row OM a_b2 OM OM fun v3 w3 o3 k3 => ?_
   have ho3 : OwP w3 b v3 (l ++ [r]) := ⟨o3, fun z hz => by
    rcases yaj.1 hz with hz | hz
    ·exact zad (D := [3]) (o2.pl z hz) k3 (zaC o2.row (by decide)) (by decide)
    rw [yac.1 hz]
    exact own_base (zad (D := [3]) r2 k3 (zaC o2.row (by decide)) (by decide)) OM⟩
   have v3' := v2.keep k3 (zac o2.row v2 (by decide))
   have K3 := zav o2.row k3 K2 hw
   obtain ⟨a3, c3, rfl⟩ := zab o3
   refine ⟨⟨K3, v3'⟩, ?_⟩
   refine KGO ?_
   refine Yd (i := 0) v3' (by simp) (by rfl) ⟨rfl, by simp, by simp⟩ fun w4 v4 k4 => ?_
   refine GW ?_
   exact ⟨rfl, ⟨_, r, v4, ho3.keepT k4 (zag v3' (by decide)), hrp⟩, keeps_new K3 k4 hw⟩
theorem po_Or {va vb : Value} (la lb : List Pst) (ha : RowP w va la) (hb : RowP w vb lb) (hla : la.length ≤ 1000000000000) (hlb : lb.length ≤ 1000000000000) (hpa : ∀ p ∈ la, p.places.length ≤ 1000000000000) (hpb : ∀ p ∈ lb, p.places.length ≤ 1000000000000) :
  Calls Tryz.prog 125 #[va, vb] w fun e w' => ∃ v, e = .returned v ∧ OwnP w' w.heap.size v (orP la lb) ∧ Kp w w' n_ := by
 obtain ⟨lx, rfl, ha⟩ := ha
 obtain ⟨ly, rfl, hb⟩ := hb
 rw [yaf] at hla hlb
 have ha0 := ha.row
 have hb0 := hb.row
 obtain ⟨a, ca, rfl, hra⟩ := ha0
 obtain ⟨b, cb, rfl, hrb⟩ := hb0
 refine zaa (args := [.slice a lx.length ca, .slice b ly.length cb]) Tryz.func125 rfl NL ?_; refine GW ?_
 have v5 := Yk w 37 [.slice none 0 0]
 obtain ⟨a_b5, v_b5, k_w1, z_w1, r_w1⟩ := new5 w 37 ([.slice none 0 0])
 generalize w.alloc (.cells (List.toArray ([.slice none 0 0])) 37) = w1 at *
 generalize hs_b5 : w.heap.size = b5 at *
 refine KGO ?_
 conv => arg 3; simp [ev, upd]
 have hcall := zsC (w0 := w) (w := w1) (p0 := .pointer (some ⟨b5, 0, none⟩)) (g2 := 175) lx ly
  (fun d u => ∃ vo lo, VarK u b5 37 [vo] ∧ OwP u b5 vo lo ∧ lo.map (·.p) = d.map orR ∧ Kp w u n_)
  ha.row hb.row ha.cap hb.cap hla hlb (fun _ _ => rfl) (fun d u h => h.choose_spec.choose_spec.2.2.2)
  (fun d u u' ⟨vo, lo, h1, h2, h3, h4⟩ k => ⟨vo, lo, h1.keep0 k, h2.keep k, h3, h4.trans0 k⟩)
  (fun d rest xo yo px py u hd hk hpx hpy ⟨vo, lo, h1, h2, h3, h4⟩ => by
   have hsp := zaN cmpR lx ly
   rw [hd] at hsp
   have hm := hsp.1 (xo, yo) (by simp)
   have hln := hsp.2
   rw [yaa, yab] at hln
   have hll := congrArg List.length h3
   rw [yaf, yaf] at hll
   refine (zuc (w := u) (w0 := w) lo h1 h2 OM h4 OM hpx hpy hm.1
    (fun x e => ⟨ha.pl x (hm.2.1 x e), ha.plc x (hm.2.1 x e), hpa x.p (yax (hm.2.1 x e))⟩) (fun x e => ⟨hb.pl x (hm.2.2 x e), hb.plc x (hm.2.2 x e), hpb x.p (yax (hm.2.2 x e))⟩)).mono fun e u' h => ?_
   obtain ⟨rfl, ⟨vo', x, h5, h6, h7⟩, h8⟩ := h
   exact ⟨rfl, vo', lo ++ [x], h5, h6, by rw [yaL, yaL, h3, List.map_singleton, h7]; rfl, h8⟩)
  ⟨_, [], v_b5, ⟨World.ownsRow_nil _ _ _ _, fun x h => by cases h⟩, rfl, k_w1⟩
 refine Ya (Tryz.call165 _ _) hcall ?_
 rintro e w2 ⟨rfl, vo, lo, h1, h2, h3, h4⟩
 obtain ⟨ao, co, rfl⟩ := zab h2.row
 have a1 := h1.at
 have q1 := Yb w2 n_
 clear hcall
 refine RT ?_
 refine KGO ?_
 exact ⟨_, rfl, ⟨lo, by rw [h3, zsh], h2.base OM⟩, h4⟩
end
end Go.Proofs.YtennokckmjcefaaGreatDoor
namespace Go.Mg
open Go.Cs Go.Lib Go.Cd
structure Trm where
 field : Int
 word : List UInt8
 list : List UInt8
deriving DecidableEq, Inhabited
structure Sgm where
 terms : List Trm
 docs : List Int
deriving DecidableEq, Inhabited
theorem zrG (a b : List UInt8) : compareBytes a b < 0 ↔ ltT a b = true := by
 unfold ltT
 rw [decide_eq_true_eq]
 induction a generalizing b with
 | nil => cases b with
  | nil => simp [compareBytes]
  | cons y s => simp [compareBytes]
 | cons x r ih => cases b with
  | nil => simp [compareBytes]
  | cons y s =>
   unfold compareBytes
   rw [List.cons_lt_cons_iff]
   by_cases h1 : x < y
   ·simp [h1]
   rw [if_neg h1]
   by_cases h2 : y < x
   ·rw [if_pos h2]
    have : x ≠ y := fun e => by subst e; exact h1 h2
    simp [h1, this]
   rw [if_neg h2, ih]
   have e : x = y := UInt8.le_antisymm (UInt8.not_lt.1 h2) (UInt8.not_lt.1 h1)
   subst e
   simp [h1]
theorem zrK (a b : List UInt8) : compareBytes a b = 0 ↔ a = b := by
 induction a generalizing b with
 | nil => cases b with
  | nil => simp [compareBytes]
  | cons y s => simp [compareBytes]
 | cons x r ih => cases b with
  | nil => simp [compareBytes]
  | cons y s =>
   unfold compareBytes
   by_cases h1 : x < y
   ·have : x ≠ y := fun e => by subst e; exact absurd h1 (by simp)
    simp [h1, this]
   rw [if_neg h1]
   by_cases h2 : y < x
   ·have : x ≠ y := fun e => by subst e; exact h1 h2
    simp [h2, this]
   rw [if_neg h2, ih]
   have e : x = y := UInt8.le_antisymm (UInt8.not_lt.1 h2) (UInt8.not_lt.1 h1)
   subst e
   simp
theorem zsU (a b : List UInt8) : compareBytes a b = if ltT a b = true then -1 else if a = b then 0 else 1 := by
 have key : ∀ a b : List UInt8, compareBytes a b = -1 ∨ compareBytes a b = 0 ∨ compareBytes a b = 1 := by
  intro a
  induction a with
  | nil => intro b; cases b <;> simp [compareBytes]
  | cons x r ih => intro b; cases b with
   | nil => simp [compareBytes]
   | cons y s =>
    unfold compareBytes
    split
    ·exact .inl rfl
    split
    ·exact .inr (.inr rfl)
    exact ih s
 have h1 := zrG a b
 have h2 := zrK a b
 by_cases c1 : ltT a b = true
 ·rw [if_pos c1]; have := h1.2 c1; rcases key a b with h | h | h <;> omega
 rw [if_neg c1]
 by_cases c2 : a = b
 ·rw [if_pos c2]; exact h2.2 c2
 rw [if_neg c2]
 rcases key a b with h | h | h
 ·exact absurd (h1.1 OM) c1
 ·exact absurd (h2.1 h) c2
 exact h
def cmpT (a b : Trm) : Int := if cmpI a.field b.field ≠ 0 then cmpI a.field b.field else compareBytes a.word b.word
def ltK (a b : Int × List UInt8) : Bool := decide (a.1 < b.1) || (decide (a.1 = b.1) && ltT a.2 b.2)
abbrev Trm.key (t : Trm) : Int × List UInt8 := (t.field, t.word)
theorem stoK : STO ltK := ⟨fun a => by simp [ltK, stoT.irr], fun a b c h1 h2 => by
 simp only [ltK, ybH, yaq, decide_eq_true_eq] at *
 rcases h1 with h1 | ⟨e1, h1⟩ <;> rcases h2 with h2 | ⟨e2, h2⟩
 ·exact .inl OM
 ·exact .inl OM
 ·exact .inl OM
 ·exact .inr ⟨OM, stoT.tr _ _ _ h1 h2⟩, fun a b h1 h2 => by
 simp only [ltK, Bool.or_eq_false_iff, decide_eq_false_iff_not] at h1 h2
 have e : a.1 = b.1 := OM
 have h3 := h1.2
 have h4 := h2.2
 rw [e] at h3 h4
 simp only [decide_true, Bool.true_and] at h3 h4
 exact Prod.ext e (stoT.tri _ _ h3 h4)⟩
theorem zft (a b : Trm) : cmpT a b < 0 ↔ ltK a.key b.key = true := by
 unfold cmpT ltK cmpI
 simp only [ybH, yaq, decide_eq_true_eq]
 by_cases h1 : a.field < b.field
 ·simp [h1]
 by_cases h2 : b.field < a.field
 ·simp [h1, h2]; omega
 have e : a.field = b.field := OM
 simp [e, zrG]
theorem zjT (a b : Trm) : cmpT a b = 0 ↔ a.key = b.key := by
 unfold cmpT cmpI
 by_cases h1 : a.field < b.field
 ·simp [h1]; intro h; omega
 by_cases h2 : b.field < a.field
 ·simp [h1, h2]; intro h; omega
 have e : a.field = b.field := OM
 simp [e, zrK]
def wordsOf (l : List UInt8) : List (List UInt8) := (wordsL l).map (·.1)
def zbx (docs : List Int) (u : List UInt8) : Bool := match decP u with
 | some p => !p.isEmpty && p.all fun x => decide (x.doc ∈ docs)
 | none => false
def zax (docs : List Int) (t : Trm) : Bool := decide (1 ≤ t.field ∧ t.field ≤ 5) && decide (wordsOf t.word = [t.word]) && zbx docs t.list
def ascTm : List Trm → Bool
 | a :: b :: l => ltK a.key b.key && ascTm (b :: l)
 | _ => true
def rightS (s : Sgm) : Bool := risesB 1 s.docs && s.terms.all (zax s.docs) && ascTm s.terms
def plT (t : Trm) : List Pst := (decP t.list).getD []
def itemO : Option Trm × Option Trm → Trm × List Pst
 | (some x, some y) => (y, orP (plT x) (plT y))
 | (some x, none) => (x, orP (plT x) [])
 | (none, some y) => (y, orP [] (plT y))
 | (none, none) => default
def zaE (a b : List Trm) : List (Trm × List Pst) := (bothL cmpT a b).map itemO
theorem mergeT_nil : zaE [] [] = [] := rfl
theorem zcM (y : Trm) (b : List Trm) : zaE [] (y :: b) = (y, orP [] (plT y)) :: zaE [] b := rfl
theorem zcl (x : Trm) (a : List Trm) : zaE (x :: a) [] = (x, orP (plT x) []) :: zaE a [] := by unfold zaE; rw [zaV, zaV]; rfl
theorem zci (x y : Trm) (a b : List Trm) : zaE (x :: a) (y :: b) = if cmpT x y < 0 then (x, orP (plT x) []) :: zaE a (y :: b) else if cmpT x y = 0 then (y, orP (plT x) (plT y)) :: zaE a b else (y, orP [] (plT y)) :: zaE (x :: a) b := by
 unfold zaE
 rw [zbh]
 split
 ·rfl
 split <;> rfl
theorem ascTm_iff : ∀ l : List Trm, ascTm l = true ↔ l.Pairwise fun a b => ltK a.key b.key = true
 | [] => by simp [ascTm]
 | [a] => by simp [ascTm]
 | a :: b :: l => by
  rw [ascTm, yaq, ascTm_iff (b :: l), yam (a := a)]
  constructor
  ·rintro ⟨h1, h2⟩
   refine ⟨fun c hc => ?_, h2⟩
   rcases yah.1 hc with rfl | hc
   ·exact h1
   exact stoK.tr _ _ _ h1 ((yam.1 h2).1 c hc)
  rintro ⟨h1, h2⟩
  exact ⟨h1 b yae, h2⟩
def cntP (l : List Pst) : Nat := (encN 0 l).length
theorem cnt_cons (p : Pst) (l : List Pst) : cntP (p :: l) = p.places.length + 2 + cntP l := by
 unfold cntP
 rw [encN, yab, yab, yaa, difs_len, encN_len l]; omega
theorem zdq (f : Pst → Bool) : ∀ l : List Pst, cntP (l.filter f) ≤ cntP l
 | [] => yag _
 | p :: l => by
  have := zdq f l
  rw [ybq, cnt_cons]
  split
  ·rw [cnt_cons]; omega
  omega
theorem zsX (x y : List Int) : (unI x y).length ≤ x.length + y.length := by
 unfold unI; rw [List.length_map]; exact (zaN cmpI x y).2
theorem zeQ : ∀ (n : Nat) (x y : List Pst), x.length + y.length ≤ n → cntP (orP x y) ≤ cntP x + cntP y
 | _, [], y, _ => by rw [zeG]; omega
 | _, a :: x, [], _ => by rw [zeI]; omega
 | 0, a :: x, b :: y, h => by simp at h
 | n + 1, a :: x, b :: y, h => by
  simp only [yab] at h
  rw [zlK, cnt_cons a x, cnt_cons b y]
  split
  ·have := zeQ n x (b :: y) (by simp only [yab]; omega)
   rw [cnt_cons b y] at this
   rw [cnt_cons]; omega
  split
  ·have := zeQ n (a :: x) y (by simp only [yab]; omega)
   rw [cnt_cons a x] at this
   rw [cnt_cons]; omega
  have := zeQ n x y OM
  have h2 := zsX a.places b.places
  rw [cnt_cons]; dsimp only; omega
theorem zhp (t : Trm) : cntP (plT t) ≤ t.list.length := by
 unfold plT cntP
 cases hd : decP t.list with
 | none => simp [encN]
 | some p =>
  have h1 := (zde.1 hd)
  have h3 := h1.2
  rw [zcz h1.1] at h3
  have h4 := congrArg List.length h3
  rw [yaa] at h4
  have h5 : (encN 0 p).length ≤ ((encN 0 p).flatMap numE).length := by
   generalize encN 0 p = q
   induction q with
   | nil => simp
   | cons n q ih => have := zca n; rw [yao, yaa, yab]; omega
  show (encN 0 p).length ≤ _
  omega
theorem zpZ {b : Nat} {x y : List Trm} (hx : ∀ t ∈ x, cntP (plT t) ≤ b) (hy : ∀ t ∈ y, cntP (plT t) ≤ b) : ∀ z ∈ zaE x y, cntP z.2 ≤ b + b ∧ (z.1 ∈ x ∨ z.1 ∈ y) := by
 intro z hz
 obtain ⟨⟨o1, o2⟩, hm, rfl⟩ := yay.1 hz
 obtain ⟨h1, h2, h3⟩ := (zaN cmpT x y).1 _ hm
 dsimp only at h1 h2 h3
 cases o1 with
 | none =>
  cases o2 with
  | none => simp at h1
  | some t =>
   have a := hy t (h3 t rfl)
   refine ⟨?_, .inr (h3 t rfl)⟩
   show cntP (orP [] (plT t)) ≤ _
   rw [zeG]; omega
 | some s =>
  have a := hx s (h2 s rfl)
  cases o2 with
  | none =>
   refine ⟨?_, .inl (h2 s rfl)⟩
   show cntP (orP (plT s) []) ≤ _
   rw [zeI]; omega
  | some t =>
   have c := hy t (h3 t rfl)
   refine ⟨?_, .inr (h3 t rfl)⟩
   show cntP (orP (plT s) (plT t)) ≤ _
   have := zeQ _ (plT s) (plT t) (yag _)
   omega
def validS (s : Sgm) : Sgm := if rightS s = true then s else ⟨[], []⟩
def liveP (dead : List Int) (l : List Pst) : List Pst := l.filter fun p => !decide (p.doc ∈ dead)
def termOf (dead : List Int) (x : Trm × List Pst) : Option Trm := if liveP dead x.2 = [] then none else some ⟨x.1.field, x.1.word, encP (liveP dead x.2)⟩
def twoS (a b : Sgm) (dead : List Int) : Sgm := ⟨(zaE (validS a).terms (validS b).terms).filterMap (termOf dead), sortI (((validS a).docs ++ (validS b).docs).filter fun d => !decide (d ∈ dead))⟩
end Go.Mg
namespace Go.Proofs.YtennokckmjcefaaGreatDoor
open Go.Shelf Go.RowKit Go.Pw Go.Vc Go.Cs Go.Lib
theorem bytesLess_eq : ∀ (x y : List UInt8), Op.bytesLess x y = decide (x < y)
 | [], [] => by simp [Op.bytesLess]
 | [], b :: bs => by simp [Op.bytesLess]
 | a :: x, [] => by simp [Op.bytesLess]
 | a :: x, b :: y => by
  rw [Op.bytesLess, bytesLess_eq x y]
  simp only [List.cons_lt_cons_iff]
  by_cases h1 : a < b <;> by_cases h2 : a = b <;> by_cases h3 : x < y <;> simp [h1, h2, h3]
theorem znR (x y : List UInt8) : Op.bytesLess (str x).toList (str y).toList = ltT x y := by
 rw [bytesLess_eq]
 have e : ∀ z : List UInt8, (str z).toList = z := fun z => by rw [← L_str z]; exact ByteArray.toList_eq _
 rw [e, e]; rfl
end Go.Proofs.YtennokckmjcefaaGreatDoor
