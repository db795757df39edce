/- Helper lemmas; no conditions of their own. -/
import Derived.Test.YtennokckmjcefaaGreatDoorGNd2
set_option linter.unusedVariables false
set_option maxHeartbeats 8000000
set_option maxRecDepth 100000
namespace Go.Proofs.YtennokckmjcefaaGreatDoor
open Go.Shelf Go.RowKit Go.Pw Go.Vc Go.Cs Go.Lib Go.Cd Go.Mg
theorem zmQ {l : List Int} {d : Int} {k : Nat} (hl : AscB ltI l) (hd : d ∉ l) (hk : k ≤ l.length) (h1 : ∀ m (hm : m < l.length), m < k → l[m] < d) (h2 : ∀ m (hm : m < l.length), k ≤ m → ¬ l[m] < d) : withL l d = l.take k ++ d :: l.drop k := by
 have hl2 : l.Pairwise (· < ·) := hl.imp fun h => of_decide_eq_true h
 refine zce stoI _ _ ((zfS d l hl2).imp fun h => decide_eq_true h) ?_ fun z => ?_
 ·unfold AscB
  refine yaG.2 ⟨hl.sublist (List.take_sublist _ _), yam.2 ⟨fun z hz => ?_, hl.sublist (List.drop_sublist _ _)⟩, fun y hy z hz => ?_⟩
  ·obtain ⟨m, hm, rfl⟩ := ybh hz
   rw [yau] at hm
   rw [List.getElem_drop]
   have := h2 (k + m) OM OM
   have hne : l[k + m] ≠ d := fun e => hd (e ▸ yak _)
   exact decide_eq_true OM
  obtain ⟨m, hm, rfl⟩ := ybd.1 hy
  have h3 := h1 m OM OM
  rcases yah.1 hz with rfl | hz
  ·exact decide_eq_true h3
  obtain ⟨n, hn, rfl⟩ := ybh hz
  rw [yau] at hn
  rw [List.getElem_drop]
  have := h2 (k + n) OM OM
  exact decide_eq_true OM
 rw [zeq d l hl2, yaj, yah]
 conv => lhs; rw [← yaB k l, yaj]
 constructor
 ·rintro (h | h | h)
  ·exact .inr (.inl h)
  ·exact .inl h
  exact .inr (.inr h)
 rintro (h | h | h)
 ·exact .inr (.inl h)
 ·exact .inl h
 exact .inr (.inr h)
theorem zas {w : World} {B B' s s' n n' : Nat} {E E' : TypeId} {v v' : Value} {xs xs' : List Value} (h : w.ownsRow B E s v n xs) (h' : w.ownsRow B' E' s' v' n' xs') (hne : E ≠ E') : Apart v v' := fun k e e' => by
 obtain ⟨c1, z1, h1, _⟩ := zat h e
 obtain ⟨c2, z2, h2, _⟩ := zat h' e'
 rw [h1] at h2
 injection h2 with h2
 injection h2 with _ h3
 exact hne h3
structure MutX (w w' : World) (b : Nat) (sv dv : Sl) (l : List (Sv × Sgm)) (sv' dv' : Sl) (l' : List (Sv × Sgm)) : Prop where
 k : Kp w w' (fpX b sv dv l)
 f : ∀ k, fpX b sv' dv' l' k → fpX b sv dv l k ∨ w.heap.size ≤ k
section
variable {w : World} {b : Nat} {sv dv : Sl} {l : List (Sv × Sgm)} {x : Ix}
theorem MutX.same {w' : World} (k : Kp w w' n_) : MutX w w' b sv dv l sv dv l := ⟨k.of_none, fun _ h => .inl h⟩
theorem zoy (h : IxM w b sv dv l x) (hb : IxB x) (d : Int) : Calls Tryz.prog 22 #[.pointer (some ⟨b, 0, none⟩), .int .i64 d] w fun e w' => e = .returned (.bool (dropX x d).1) ∧ ∃ sv' dv' l', IxM w' b sv' dv' l' (dropX x d).2 ∧ MutX w w' b sv dv l sv' dv' l' := by
 have hbw := h.var.lt
 refine zaa (args := [.pointer (some ⟨b, 0, none⟩), .int .i64 d]) Tryz.func22 rfl NL ?_; refine GW ?_
 refine Ya (Tryz.call80 _ _) (zpi h hb d) ?_
 rintro e w1 ⟨rfl, k1⟩
 have h1 := h.keep0 k1
 refine RT ?_
 unfold dropX
 cases hal : zco x d with
 | false =>
  refine KGO ?_
  exact ⟨rfl, sv, dv, l, h1, MutX.same k1⟩
 | true =>
  rw [if_pos rfl]
  have hnd : d ∉ x.dead := ((zbO).1 hal).2
  have hdl := hb.d
  have ha1 := h1.var.at
  refine KGO ?_
  refine Ya (Tryz.call81 _ _) (bs_Ik (w := w1) x.dead d (own_rowO h1.dd) OM) ?_
  rintro e w2 ⟨k, q, rfl, _, hpos, k2⟩
  obtain ⟨hkl, hp1, hp2⟩ := hpos hb.ok.da
  have h2 := h1.keep0 k2
  have ha2 := h2.var.at
  refine RT ?_
  refine KGO ?_
  refine Ye (bs1I d _) ?_
  obtain ⟨a_b7, v_b7, k_w3, z_w3, r_w3⟩ := new5 w2 3 (inC d)
  generalize w2.alloc (.cells (List.toArray (inC d)) 3) = w3 at *
  generalize hs_b7 : w2.heap.size = b7 at *
  have h3 := h2.keep0 k_w3
  have z3 := k_w3.size
  have z2 := (k1.trans0 k2).size
  refine KGO ?_
  refine Ya (Tryz.call82 _ _) (ins_I (w := w3) x.dead k d h3.dd OM hkl OM v_b7 (fun g hg e => by have := (h2.dd.lt g hg).2; omega)) ?_
  rintro e w4 ⟨v4, rfl, o4, k4, f4⟩
  obtain ⟨a4, c4, rfl⟩ := zab o4
  have vv4 := h3.var.keep k4 (fun e => e.elim (fun e => by have := h3.var.lt; omega) (fun e => by have := (h3.dd.lt b e).1; omega))
  have sg4 : OwnSg w4 (b + 1) sv.v l := own_keep h3.sg k4 fun q hq e => e.elim (fun e => by have := (h3.sg.lt q hq).2; omega) (zas h3.sg h3.dd (by decide) q hq)
  have el4 : ∀ p ∈ l, OwS w4 (b + 1) p.1 p.2 := fun p hp => ⟨own_keep (h3.el p hp).t k4 fun q hq e => e.elim (fun e => by have := ((h3.el p hp).t.lt q hq).2; omega) (zas (h3.el p hp).t h3.dd (by decide) q hq), own_keep (h3.el p hp).d k4 fun q hq e => e.elim (fun e => by have := ((h3.el p hp).d.lt q hq).2; omega) (h3.ap p hp q hq)⟩
  have hws := zmQ hb.ok.da hnd hkl hp1 hp2
  have z4 := k4.size
  have kr := Yb w4 n_
  refine RT ?_
  refine KGO ?_
  refine Yd (i := 1) vv4 (by simp) (by rfl) ⟨rfl, by simp, by simp⟩ fun w5 v5 k5 => ?_
  refine KGO ?_
  refine ⟨rfl, sv, ⟨a4, _, c4⟩, l, ⟨v5, zal sg4 k5 OM, ?_, fun p hp => ⟨zal (el4 p hp).t k5 OM, zal (el4 p hp).d k5 OM⟩, h.eq, fun p hp q hq e => (f4 q e).elim (h3.ap p hp q hq) fun e => by have := ((h3.el p hp).d.lt q hq).2; omega⟩, ?_, fun q hq => ?_⟩
  ·show OwnI w5 (b + 1) _ (withL x.dead d)
   rw [hws]
   exact zal o4 k5 OM
  ·exact ((((k1.trans0 k2).trans0 k_w3).of_none).trans' (k4.mono fun q hq e => e.elim (fun e => OM) fun e => .inr (.inr (.inl e)))).trans' (k5.mono fun q _ e => .inl e)
  rcases hq with hq | hq | hq | hq
  ·exact .inl (.inl hq)
  ·exact .inl (.inr (.inl hq))
  ·rcases f4 q hq with hq | hq
   ·exact .inl (.inr (.inr (.inl hq)))
   exact .inr OM
  exact .inl (.inr (.inr (.inr hq)))
end
section
variable {w : World} {b : Nat} {sv dv : Sl} {l : List (Sv × Sgm)} {x : Ix}
theorem zoE {h : Sv} {s : Sgm} (r : RdS w h s) : h.d.n = s.docs.length ∧ h.t.n = s.terms.length := by
 obtain ⟨a, c, e, _⟩ := r.d
 obtain ⟨a', c', e', _⟩ := r.t
 injection e with _ e2 _
 injection e' with _ e2' _
 exact ⟨e2, e2'⟩
theorem znO (q : Sv × Sgm) (hn : q.1.d.n = q.2.docs.length) : Calls Tryz.prog 200 #[.agg (sgP q).toArray] w fun e w' => e = .returned (.bool (decide (q.2.docs.length = 0))) ∧ Kp w w' n_ := by
 refine zaa (args := [.agg (sgP q).toArray]) Tryz.func200 rfl NL ?_; refine GW ?_
 obtain ⟨a_b3, v_b3, k_w1, z_w1, r_w1⟩ := new5 w 65 (sgC q.1)
 generalize w.alloc (.cells (List.toArray (sgC q.1)) 65) = w1 at *
 generalize hs_b3 : w.heap.size = b3 at *
 obtain ⟨⟨⟨ta, tn, tc⟩, ⟨da, dn, dc⟩⟩, s⟩ := q
 dsimp only at hn
 subst hn
 by_cases h0 : s.docs.length = 0
 ·refine KGO ?_
  exact ⟨ret_bool (by simp [h0]), k_w1⟩
 refine KGO ?_
 exact ⟨ret_bool (by simp [h0]), k_w1⟩
theorem znc {bx : Nat} (h : IxV w b sv dv l) (he : l.map (·.2) = x.segs) (hb : IxC x) (hx : VarK w bx 23 [.pointer (some ⟨b, 0, none⟩)]) (d : Int) : Calls Tryz.prog 202 #[.int .i64 d, .pointer (some ⟨bx, 0, none⟩)] w fun e w' => e = .returned (.bool (!memB x.segs d)) ∧ Kp w w' n_ := by
 have hxa := hx.at
 refine zaa (args := [.int .i64 d, .pointer (some ⟨bx, 0, none⟩)]) Tryz.func202 rfl NL ?_; refine GW ?_
 refine KGO ?_
 refine Ya (Tryz.call83 _ _) (zjX h he hb d) ?_
 rintro e w1 ⟨rfl, k1⟩
 refine RT ?_
 have hf := ziO x d
 cases hm : memB x.segs d with
 | false =>
  have : ¬ 0 ≤ findI x d := fun e => by rw [hf.1 e] at hm; cases hm
  refine KGO ?_
  exact ⟨ret_bool (by simp; omega), k1⟩
 | true =>
  have := hf.2 hm
  refine KGO ?_
  exact ⟨ret_bool (by simp; omega), k1⟩
theorem map_full (l : List (Sv × Sgm)) : (l.filter fun q => !decide (q.2.docs.length = 0)).map (·.2) = fullL (l.map (·.2)) := by
 unfold fullL
 rw [List.filter_map]
 congr 1
 refine yca fun q _ => ?_
 cases hq : q.2.docs with
 | nil => simp [hq]
 | cons => simp [hq]
theorem zpU (h : IxM w b sv dv l x) (hb : IxC x) (hd : x.dead.length ≤ 1000) : Calls Tryz.prog 138 #[.pointer (some ⟨b, 0, none⟩)] w fun e w' => e = .returned (.tuple #[]) ∧ ∃ sv' dv' l', IxM w' b sv' dv' l' (cleanX x) ∧ MutX w w' b sv dv l sv' dv' l' := by
 have hll : l.length = x.segs.length := by rw [← h.eq, yaf]
 have hbw := h.var.lt
 refine zaa (args := [.pointer (some ⟨b, 0, none⟩)]) Tryz.func138 rfl NL ?_; refine GW ?_
 obtain ⟨a_b1, v_b1, k_w1, z_w1, r_w1⟩ := new5 w 23 ([.pointer (some ⟨b, 0, none⟩)])
 generalize w.alloc (.cells (List.toArray ([.pointer (some ⟨b, 0, none⟩)])) 23) = w1 at *
 generalize hs_b1 : w.heap.size = b1 at *
 have h1 := h.keep0 k_w1
 have hown1 : ∀ q, sv.v.ownBlock = some q → q < w.heap.size ∧ b + 1 ≤ q := fun q e => ⟨(h.sg.lt q e).2, (h.sg.lt q e).1⟩
 have hS1 : ∀ u, Kp w1 u (own_ sv.v) → At u b1 0 [.pointer (some ⟨b, 0, none⟩)] := fun u hu => zaI a_b1 hu fun e => by have := hown1 b1 e; omega
 have hS2 : ∀ u, Kp w1 u (own_ sv.v) → At u b 0 [.slice sv.a sv.n sv.c, .slice dv.a dv.n dv.c] := fun u hu => zaI h1.var.at hu fun e => by have := hown1 b e; omega
 refine Yh (fun u => Kp w1 u (own_ sv.v)) (fun _ => true) (by simp) (by decide +kernel) (by decide +kernel) (Yb _ _).drew ?_
 refine KGO ?_
 refine Yf (by rfl) (fun u hu => hS1 u hu 0 _ rfl) ?_
 refine KGO ?_
 refine Yf (by rfl) (fun u hu => hS1 u hu 0 _ rfl) ?_
 refine KGO ?_
 refine Yf (by rfl) (fun u hu => hS2 u hu 0 _ rfl) ?_
 refine KGO ?_
 have kd := (Yb w1 n_).drew
 refine Ya (Tryz.call199 _ _) (zsv (w := w1.drew) (v := sv.v) l 200 (fun q => decide (q.2.docs.length = 0)) (h1.keep0 kd).sg (by have := hb.n; omega) Tryz.call200 (fun q hq u k => znO (w := u) q (zoE (h1.rd hq)).1)) ?_
 rintro e w2 ⟨v2, rfl, o2, k2, f2⟩
 obtain ⟨a2, c2, rfl⟩ := zab o2
 have k12 : Kp w1 w2 (own_ sv.v) := kd.of_none.trans' k2
 have vv2 := h1.var.keep k12 fun e => by have := hown1 b e; omega
 have vb2 := v_b1.keep k12 fun e => by have := hown1 b1 e; omega
 refine RT ?_
 refine ⟨k12, ?_⟩
 refine KGO ?_
 refine Yd (i := 0) vv2 (by simp) (by rfl) ⟨rfl, by simp, by simp⟩ fun w3 v3 k3 => ?_
 refine KGO ?_
 have sg3 : OwnSg w3 (b + 1) (.slice a2 (l.filter fun q => !decide (q.2.docs.length = 0)).length c2) (l.filter fun q => !decide (q.2.docs.length = 0)) := zal o2 k3 OM
 have dd3 : OwnI w3 (b + 1) dv.v x.dead := zal (own_keep h1.dd k12 (zas h1.dd h1.sg (by decide))) k3 OM
 have el3 : ∀ p ∈ l, OwS w3 (b + 1) p.1 p.2 := fun p hp => ⟨zal (own_keep (h1.el p hp).t k12 (zas (h1.el p hp).t h1.sg (by decide))) k3 OM, zal (own_keep (h1.el p hp).d k12 (zas (h1.el p hp).d h1.sg (by decide))) k3 OM⟩
 have vb3 := vb2.keep k3 (show ¬ b1 = b by omega)
 have z12 := k12.size
 have z3 := k3.size
 have z01 := k_w1.size
 generalize hl2 : (l.filter fun q => !decide (q.2.docs.length = 0)) = l2 at *
 have hsub : ∀ p ∈ l2, p ∈ l := fun p hp => by rw [← hl2] at hp; exact (yav.1 hp).1
 have heq2 : l2.map (·.2) = fullL x.segs := by rw [← hl2, map_full, h.eq]
 have hbn : b1 = w.heap.size := OM
 have hown2 : ∀ q, dv.v.ownBlock = some q → q < w.heap.size ∧ b + 1 ≤ q := fun q e => ⟨(h.dd.lt q e).2, (h.dd.lt q e).1⟩
 have hS3 : ∀ u, Kp w3 u (own_ dv.v) → At u b1 0 [.pointer (some ⟨b, 0, none⟩)] := fun u hu => zaI vb3.at hu fun e => by have := hown2 b1 e; omega
 have hS4 : ∀ u, Kp w3 u (own_ dv.v) → At u b 0 [.slice a2 l2.length c2, .slice dv.a dv.n dv.c] := fun u hu => zaI v3.at hu fun e => by have := hown2 b e; omega
 have hC : IxC ⟨fullL x.segs, x.dead⟩ := ⟨fun s hs => hb.asc s (yav.1 hs).1, yaw (yaK _ _) hb.n, fun s hs => hb.dl s (yav.1 hs).1⟩
 have hV : ∀ u, Kp w3 u (own_ dv.v) → IxV u b ⟨a2, l2.length, c2⟩ dv l2 := fun u hu => ⟨v3.keep hu fun e => by have := hown2 b e; omega, own_rowO (own_keep sg3 hu (zas sg3 dd3 (by decide))), fun p hp => OwS.rd (B := b + 1) ⟨own_keep (el3 p (hsub p hp)).t hu (zas (el3 p (hsub p hp)).t dd3 (by decide)), own_keep (el3 p (hsub p hp)).d hu (h.ap p (hsub p hp))⟩⟩
 refine Yh (fun u => Kp w3 u (own_ dv.v)) (fun _ => true) (by simp) (by decide +kernel) (by decide +kernel) (Yb _ _).drew ?_
 refine KGO ?_
 refine Yf (by rfl) (fun u hu => hS3 u hu 0 _ rfl) ?_
 refine KGO ?_
 refine Yf (by rfl) (fun u hu => hS3 u hu 0 _ rfl) ?_
 refine KGO ?_
 refine Yf (by rfl) (fun u hu => hS4 u hu 1 _ rfl) ?_
 refine KGO ?_
 have kd3 := (Yb w3 n_).drew
 refine Ya (Tryz.call201 _ _) (zum (w := w3.drew) (v := dv.v) x.dead 202 (.pointer (some ⟨b1, 0, none⟩)) (fun d => !memB (fullL x.segs) d) (own_keep0 dd3 kd3) OM Tryz.call202 (fun d hd u k => znc (x := ⟨fullL x.segs, x.dead⟩) (w := u) (hV u (kd3.of_none.trans' k)) heq2 hC (vb3.keep (kd3.of_none.trans' k) fun e => by have := hown2 b1 e; omega) d)) ?_
 rintro e w4 ⟨v4, rfl, o4, k4, f4⟩
 obtain ⟨a4, c4, rfl⟩ := zab o4
 have k34 : Kp w3 w4 (own_ dv.v) := kd3.of_none.trans' k4
 have vv4 := v3.keep k34 fun e => by have := hown2 b e; omega
 have sg4 := own_keep sg3 k34 (zas sg3 dd3 (by decide))
 refine RT ?_
 refine ⟨k34, ?_⟩
 refine KGO ?_
 refine Yd (i := 1) vv4 (by simp) (by rfl) ⟨rfl, by simp, by simp⟩ fun w5 v5 k5 => ?_
 refine KGO ?_
 have hde : (x.dead.filter fun d => !!memB (fullL x.segs) d) = x.dead.filter fun d => memB (fullL x.segs) d := by simp
 refine ⟨rfl, ⟨a2, l2.length, c2⟩, ⟨a4, _, c4⟩, l2, ⟨v5, zal sg4 k5 OM, ?_, fun p hp => ⟨zal (own_keep (el3 p (hsub p hp)).t k34 (zas (el3 p (hsub p hp)).t dd3 (by decide))) k5 OM, zal (own_keep (el3 p (hsub p hp)).d k34 (h.ap p (hsub p hp))) k5 OM⟩, heq2, fun p hp q hq e => h.ap p (hsub p hp) q hq (f4 ▸ e)⟩, ?_, fun q hq => ?_⟩
 ·show OwnI w5 (b + 1) _ (x.dead.filter fun d => memB (fullL x.segs) d)
  rw [← hde]
  exact zal o4 k5 OM
 ·exact ((((k_w1.of_none.trans' (k12.mono fun q _ e => .inr (.inl e)))).trans' (k3.mono fun q _ e => .inl e)).trans' (k34.mono fun q _ e => .inr (.inr (.inl e)))).trans' (k5.mono fun q _ e => .inl e)
 rcases hq with hq | hq | hq | ⟨p, hp, hq⟩
 ·exact .inl (.inl hq)
 ·exact .inl (.inr (.inl (f2 ▸ hq)))
 ·exact .inl (.inr (.inr (.inl (f4 ▸ hq))))
 exact .inl (.inr (.inr (.inr ⟨p, hsub p hp, hq⟩)))
end
section
variable {w : World} {b : Nat} {sv dv : Sl} {l : List (Sv × Sgm)} {x : Ix}
theorem zpm (hv : VarK w b 84 [.slice sv.a sv.n sv.c, .slice dv.a dv.n dv.c]) (hd : RowI w dv.v x.dead) (hl : x.dead.length ≤ 1000) (h : Sv) (s : Sgm) (hr : RdS w h s) (hs : AscB ltI s.docs) (hsl : s.docs.length ≤ 1000000) : Calls Tryz.prog 97 #[.pointer (some ⟨b, 0, none⟩), .agg (sgC h).toArray] w fun e w' => e = .returned (.int .i64 (buriedX x s : Nat)) ∧ Kp w w' n_ := by
 obtain ⟨ad, cd, ed, hrd⟩ := hd
 obtain ⟨da, dn, dc⟩ := dv
 injection ed with e1 e2 e3
 dsimp only at e1 e2 e3
 subst e1 e2 e3
 have ha := hv.at
 dsimp only at ha
 unfold buriedX
 generalize x.dead = dead at *
 refine zaa (args := [.pointer (some ⟨b, 0, none⟩), .agg (sgC h).toArray]) Tryz.func97 rfl NL ?_; refine GW ?_
 obtain ⟨a_b3, v_b3, k_w1, z_w1, r_w1⟩ := new5 w 65 (sgC h)
 generalize w.alloc (.cells (List.toArray (sgC h)) 65) = w1 at *
 generalize hs_b3 : w.heap.size = b3 at *
 have kr := Yb w1 n_
 refine KGO ?_
 refine Yc (ι := Nat × Nat) (fun q => [(0, .pointer (some ⟨b, 0, none⟩)), (3, .pointer (some ⟨b3, 0, none⟩)), (5, .int .i64 (q.2 : Nat)), (11, .slice da dead.length dc), (12, .int .i64 (dead.length : Nat)), (13, .int .i64 (q.1 : Nat))])
  (fun q wr => Kp w1 wr n_ ∧ q.1 ≤ dead.length ∧ q.2 = ((dead.take q.1).filter fun d => decide (d ∈ s.docs)).length) (fun q => dead.length - q.1) (0, 0) FR ⟨kr, yal _, rfl⟩ ?_
 rintro ⟨i, n⟩ gg wr ⟨hK, hi, hn⟩
 dsimp only at hi hn ⊢
 refine GW ?_
 by_cases hlt : i < dead.length
 ·obtain ⟨gb, o, rfl, hgb, hat⟩ := hrd OM
  have hat := at_mono hat k_w1
  have chj := zaJ hat hlt
  have hst := filt_take (p := fun d => decide (d ∈ s.docs)) hlt
  have hnl : n ≤ dead.length := by
   rw [hn]
   have := yaK (fun d => decide (d ∈ s.docs)) (dead.take i)
   rw [yar] at this; omega
  refine KGO ?_
  refine Ya (Tryz.call135 _ _) (zgf (w := wr) h s dead[i] ((hr.keep k_w1).keep hK) hs hsl) ?_
  rintro e w3 ⟨rfl, k3⟩
  refine RT ?_
  by_cases hin : dead[i] ∈ s.docs
  ·rw [decide_eq_true hin] at *
   rw [if_pos rfl] at hst
   refine KGO ?_
   exact ⟨(i + 1, n + 1), FR, ⟨hK.trans0 k3, DO, by dsimp only; rw [hst, List.length_append, hn]; rfl⟩, DO⟩
  rw [decide_eq_false hin] at *
  rw [if_neg (by simp)] at hst
  refine KGO ?_
  exact ⟨(i + 1, n), FR, ⟨hK.trans0 k3, DO, by dsimp only; rw [hst, List.append_nil, hn]⟩, DO⟩
 obtain rfl : i = dead.length := OM
 rw [yaD] at hn
 refine KGO ?_
 exact ⟨by rw [hn], k_w1.trans0 hK⟩
theorem zpC {bx : Nat} (hv : VarK w b 84 [.slice sv.a sv.n sv.c, .slice dv.a dv.n dv.c]) (hd : RowI w dv.v x.dead) (hl : x.dead.length ≤ 1000) (q : Sv × Sgm) (hr : RdS w q.1 q.2) (hs : AscB ltI q.2.docs) (hsl : q.2.docs.length ≤ 1000000) (hx : VarK w bx 23 [.pointer (some ⟨b, 0, none⟩)]) : Calls Tryz.prog 96 #[.agg (sgP q).toArray, .pointer (some ⟨bx, 0, none⟩)] w fun e w' => e = .returned (.bool (dueX x q.2)) ∧ Kp w w' n_ := by
 have hn := (zoE hr).1
 have hB : buriedX x q.2 ≤ 1000 := by
  unfold buriedX
  exact yaw (yaK _ _) hl
 refine zaa (args := [.agg (sgP q).toArray, .pointer (some ⟨bx, 0, none⟩)]) Tryz.func96 rfl NL ?_; refine GW ?_
 obtain ⟨a_b3, v_b3, k_w1, z_w1, r_w1⟩ := new5 w 65 (sgC q.1)
 generalize w.alloc (.cells (List.toArray (sgC q.1)) 65) = w1 at *
 generalize hs_b3 : w.heap.size = b3 at *
 have hx1 := hx.keep0 k_w1
 refine Yo (fun u => Kp w1 u n_) (fun _ => true) (by decide +kernel) (Yb _ _).drew ?_
 refine KGO ?_
 refine Yf (by rfl) (fun u hu => (hx1.keep0 hu).at 0 _ rfl) ?_
 refine KGO ?_
 have kd := (Yb w1 n_).drew
 have K1 := k_w1.trans0 kd
 refine Ya (Tryz.call97 _ _) (zpm (w := w1.drew) (x := x) (hv.keep0 K1) (hd.keep K1) hl q.1 q.2 (hr.keep K1) hs hsl) ?_
 rintro e w2 ⟨rfl, k2⟩
 refine RT ?_
 refine ⟨kd.trans0 k2, ?_⟩
 obtain ⟨⟨⟨ta, tn, tc⟩, ⟨da, dn, dc⟩⟩, s⟩ := q
 dsimp only at hn
 subst hn
 refine KGO ?_
 exact ⟨ret_bool (by unfold dueX; simp; omega), K1.trans0 k2⟩
end
theorem oneSg (l : List (Sv × Sgm)) : ∀ u ∈ l.flatMap sgP, u.oneCell' = true := fun u hu => by
 obtain ⟨x, _, hx⟩ := ybl.1 hu
 exact yaF.1 (show (sgP x).all (fun u => u.oneCell') = true by rfl) u hx
section
variable {w : World}
theorem rp_Sg {v : Value} {B vb : Nat} (l : List (Sv × Sgm)) (i j : Nat) (y : Sv × Sgm) (ho : OwnSg w B v l) (hij : i < j) (hj : j ≤ l.length) (hl : l.length ≤ 1000000) (hvb : VarK w vb 65 (sgP y)) (hne : ∀ g, v.ownBlock = some g → g ≠ vb) :
  Calls Tryz.prog 136 #[v, .int .i64 (i : Nat), .int .i64 (j : Nat), .slice (some ⟨vb, 0, none⟩) 1 1] w fun e w' => ∃ v', e = .returned v' ∧ OwnSg w' B v' (l.take i ++ y :: l.drop j) ∧ Kp w w' (own_ v) ∧ v'.ownBlock = v.ownBlock := by
 have hlenK := flatK_len sgP 2 lenSg
 have htkK := flatK_take sgP 2 lenSg
 have hdrK := flatK_drop sgP 2 lenSg
 rcases own_blockK ho with ⟨rfl, h0⟩ | ⟨g, cap, cells, rfl, hBg, hv, hnc, hcm, hcl, htk⟩
 ·omega
 have hgvb : g ≠ vb := hne g rfl
 have hA : ((l.take i).flatMap sgP).length = i * 2 := by rw [hlenK, yar]; omega
 have hD : ((l.drop j).flatMap sgP).length = (l.length - j) * 2 := by rw [hlenK, yau]
 have htA : cells.take (i * 2) = (l.take i).flatMap sgP := by
  rw [show cells.take (i * 2) = (cells.take (l.length * 2)).take (i * 2) by rw [ybz, yaJ OM], htk, htkK]
 have hres : (l.take i ++ y :: l.drop j).flatMap sgP = (l.take i).flatMap sgP ++ (sgP y ++ (l.drop j).flatMap sgP) := by rw [yaC, yao]
 have hresl : (l.take i ++ y :: l.drop j).length = i + 1 + (l.length - j) := by rw [yaa, yab, yar, yau]; omega
 have hnews : ∀ m u, (sgP y)[m]? = some u → w.cell? ((⟨vb, 0, none⟩ : Addr).add m) = some u := hvb.cells w 0 fun m u h => by simpa using h
 have hy1 : ∀ u ∈ sgP y, u.oneCell' = true := by have := oneSg [y]; simpa using this
 have hyl : (sgP y).length = 1 * 2 := rfl
 refine zaa (args := [.slice (some ⟨g, 0, none⟩) l.length cap, .int .i64 (i : Nat), .int .i64 (j : Nat), .slice (some ⟨vb, 0, none⟩) 1 1]) Tryz.func136 rfl NL ?_; refine GW ?_
 by_cases hje : j = l.length
 ·subst hje
  refine KGO ?_
  rw [if_neg (by omega : ¬ 0 = cap), ybb, ybb]
  refine RunN.roomK (s := 2) (n := i) (c := cap) (m := 1) Tryz.underlying56 zeT hv (a := ⟨vb, 0, none⟩) (news := sgP y) hyl hnews hy1 OM (by rw [hcl]; omega) fun w2 v2 k2 => ?_
  rw [yce, ybQ, yaA] at hres
  rw [ycb, ybJ] at hresl
  rw [yce] at hresl ⊢
  generalize hAe : (l.take i).flatMap sgP = A at *
  rw [htA] at v2
  have hrl : (A ++ sgP y).length = (i + 1) * 2 := by rw [yaa, hA, hyl]; omega
  by_cases hc : i + 1 = l.length
  ·refine KGO ?_
   refine ⟨_, rfl, ?_, k2.mono fun q _ hq => by have hq : q = g := hq; rw [hq]; rfl, rfl⟩
   unfold OwnSg
   rw [hresl, hres]
   refine zbY hBg v2 OM hcm (by rw [yaa, hrl, yau, hcl]; omega) ?_ hrl
   rw [← hrl, yaZ]
  refine KGO ?_
  rw [if_neg (by omega : ¬ i + 1 = cap)]
  refine RunN.clearK (s := 2) (g := g) (o := 0 + (i + 1) * 2) (n := l.length - (i + 1)) Tryz.underlying56 zeT rfl (fun u hu => by exact yaF.1 (show (((.agg #[.slice none 0 0, .slice none 0 0] : Value)).cells.toList).all (fun u => u.oneCell') = true by rfl) u (by simpa using hu)) v2 (by rw [yaa, hrl, yau, hcl]; omega) fun w3 zs hzl v3 k3 => ?_
  refine KGO ?_
  refine ⟨_, rfl, ?_, (k2.trans' k3).mono fun q _ hq => by have hq : q = g := hq; rw [hq]; rfl, rfl⟩
  unfold OwnSg
  rw [hresl, hres]
  rw [show 0 + (i + 1) * 2 = (A ++ sgP y).length by omega, yaZ] at v3
  refine zbY hBg v3 OM hcm (by rw [yaa, yaa, hrl, yau, yaa, hrl, yau, hcl, hzl]; omega) ?_ hrl
  rw [← hrl, yap, yaZ]
 refine KGO ?_
 refine RunN.capK Tryz.underlying56 ?_
 refine KGO ?_
 have hvd : VarK w.drew g 65 cells := hv
 have hvbd : VarK w.drew vb 65 (sgP y) := hvb
 rw [if_neg (by omega : ¬ 0 = cap), if_neg (by omega : ¬ i = cap - 0)]
 refine RunN.copyK Tryz.underlying56 zeT hvd (a := ⟨vb, 0, none⟩) (news := sgP y) (m := 1) OM rfl (hvbd.cells _ 0 fun m u h => by simpa using h) hy1 (by rw [hcl, hyl]; omega) fun w2 v2 k2 => ?_
 rw [show 0 + i * 2 = i * 2 by omega, htA, hyl] at v2
 generalize hAe : (l.take i).flatMap sgP = A at *
 have hT : cells.drop (i * 2 + 1 * 2) = cells.drop ((i + 1) * 2) := by rw [ybB]
 rw [hT] at v2
 have hTl : (cells.drop ((i + 1) * 2)).length = (cap - (i + 1)) * 2 := by rw [yau, hcl]; omega
 have hDs : ∀ m u, ((l.drop j).flatMap sgP)[m]? = some u → (cells.drop ((i + 1) * 2))[(j - (i + 1)) * 2 + m]? = some u := fun m u hm => by
  rw [← hdrK, List.getElem?_drop, ← htk, List.getElem?_take] at hm
  rw [List.getElem?_drop, show (i + 1) * 2 + ((j - (i + 1)) * 2 + m) = j * 2 + m by omega]
  split at hm
  ·exact hm
  cases hm
 have hD1 : ∀ u ∈ (l.drop j).flatMap sgP, u.oneCell' = true := oneSg _
 generalize hDe : (l.drop j).flatMap sgP = D at *
 generalize cells.drop ((i + 1) * 2) = T at *
 have hrl : (A ++ sgP y).length = (i + 1) * 2 := by rw [yaa, hA, hyl]; omega
 refine KGO ?_
 rw [if_neg (by omega : ¬ i + 1 = cap - 0), if_neg (by omega : ¬ j = cap)]
 have v2d : VarK w2.drew g 65 (A ++ sgP y ++ T) := v2
 refine RunN.copyK Tryz.underlying56 zeT v2d (a := ⟨g, 0 + j * 2, none⟩) (news := D) (m := l.length - j) OM hD (v2d.cells _ _ fun m u hm => by
  rw [List.getElem?_append_right OM, hrl, show 0 + j * 2 + m - (i + 1) * 2 = (j - (i + 1)) * 2 + m by omega]
  exact hDs m u hm) hD1 (by rw [yaa, hrl, hTl, hD]; omega) fun w3 v3 k3 => ?_
 rw [show 0 + 0 * 2 + (i + 1) * 2 = (A ++ sgP y).length by omega, yaZ] at v3
 refine KGO ?_
 rw [ybb]
 have hrD : (A ++ sgP y ++ D).length = (i + 1 + (l.length - j)) * 2 := by rw [yaa, hrl, hD]; omega
 have hz1 : ∀ u ∈ (.agg #[.slice none 0 0, .slice none 0 0] : Value).cells, u.oneCell' = true := fun u hu => by exact yaF.1 (show (((.agg #[.slice none 0 0, .slice none 0 0] : Value)).cells.toList).all (fun u => u.oneCell') = true by rfl) u (by simpa using hu)
 generalize hRe : (A ++ sgP y ++ T).drop ((A ++ sgP y).length + D.length) = R at *
 have hRl : R.length = (cap - (i + 1 + (l.length - j))) * 2 := by rw [← hRe, yau, yaa, hrl, hTl, hD]; omega
 have hKK := ((((Yb w n_).drew.of_none (c := one_ g)).trans' k2).trans' ((Yb w2 n_).drew.of_none (c := one_ g))).trans' k3
 by_cases hq : i + 1 + (l.length - j) = cap
 ·rw [if_pos hq]
  refine RunN.clearK (s := 2) (g := g) (o := 0) (n := l.length - (i + 1 + (l.length - j))) Tryz.underlying56 zeT rfl hz1 v3 (by rw [yaa, hrD]; omega) fun w4 zs hzl v4 k4 => ?_
  refine KGO ?_
  refine ⟨_, rfl, ?_, (hKK.trans' k4).mono fun q _ hq => by have hq : q = g := hq; rw [hq]; rfl, rfl⟩
  have hn0 : l.length - (i + 1 + (l.length - j)) = 0 := OM
  rw [hn0] at v4 hzl
  have hzs : zs = [] := yan OM
  subst hzs
  unfold OwnSg
  rw [hresl, hres, ← yap]
  have v4 : VarK w4 g 65 (A ++ sgP y ++ D ++ R) := by simpa using v4
  refine zbY hBg v4 OM hcm (by rw [yaa, hrD, hRl]; omega) ?_ hrD
  rw [ybb, ← hrD, yaZ]
 rw [if_neg hq]
 refine RunN.clearK (s := 2) (g := g) (o := 0 + (i + 1 + (l.length - j)) * 2) (n := l.length - (i + 1 + (l.length - j))) Tryz.underlying56 zeT rfl hz1 v3 (by rw [yaa, hrD, hRl]; omega) fun w4 zs hzl v4 k4 => ?_
 refine KGO ?_
 refine ⟨_, rfl, ?_, (hKK.trans' k4).mono fun q _ hq => by have hq : q = g := hq; rw [hq]; rfl, rfl⟩
 unfold OwnSg
 rw [hresl, hres, ← yap]
 rw [show 0 + (i + 1 + (l.length - j)) * 2 = (A ++ sgP y ++ D).length by omega, yaZ] at v4
 refine zbY hBg v4 OM hcm (by rw [yaa, yaa, hrD, yau, yaa, hrD, hRl, hzl]; omega) ?_ hrD
 rw [ybb, ← hrD, yap (A ++ sgP y ++ D), yaZ]
end
theorem MutX.trans {w w1 w2 : World} {b : Nat} {sv dv sv1 dv1 sv2 dv2 : Sl} {l l1 l2 : List (Sv × Sgm)} (h1 : MutX w w1 b sv dv l sv1 dv1 l1) (h2 : MutX w1 w2 b sv1 dv1 l1 sv2 dv2 l2) : MutX w w2 b sv dv l sv2 dv2 l2 :=
 ⟨h1.k.trans h2.k fun q hq e => (h1.f q e).resolve_right OM, fun q e => (h2.f q e).elim (fun e => h1.f q e) fun e => .inr (by have := h1.k.size; omega)⟩
theorem bs1Sg (h : Sv) (w : World) : (Instr.buildSlice 56 1 [(0, .agg (sgC h).toArray)].toArray).run Tryz.prog w = .ok (.slice (some ⟨w.heap.size, 0, none⟩) 1 1) (w.alloc (.cells (List.toArray (sgC h)) 65)) := by
 simp [Instr.buildSlice, Instr.fill, go_sem, Tryz.runUnderlying56, sgC]
section
variable {w : World} {b : Nat} {sv dv : Sl} {l : List (Sv × Sgm)} {x : Ix}
theorem zeM {vd : Value} (h : IxM w b sv dv l x) (hb : IxC x) (hd : x.dead.length ≤ 1000) (i n : Nat) (hn : 0 < n) (hin : i + n ≤ x.segs.length) (ha hb2 : Sv) (sa sb : Sgm) (dead : List Int) (ra : RdS w ha sa) (rb : RdS w hb2 sb) (ba : Bd sa 1000 20000 20000) (bb : Bd sb 1000 20000 20000) (rd : RowI w vd dead) (hdl : dead.length ≤ 1000000) (hE : CEnv w) :
  Calls Tryz.prog 84 #[.pointer (some ⟨b, 0, none⟩), .int .i64 (i : Nat), .int .i64 (n : Nat), .agg (sgC ha).toArray, .agg (sgC hb2).toArray, vd] w fun e w' => e = .returned (.tuple #[]) ∧ ∃ sv' dv' l', IxM w' b sv' dv' l' (replX x i n (twoS sa sb dead)) ∧ MutX w w' b sv dv l sv' dv' l' := by
 have hll : l.length = x.segs.length := by rw [← h.eq, yaf]
 have hbw := h.var.lt
 have hxn := hb.n
 have rd0 := rd
 obtain ⟨ad, cd, rfl, _⟩ := rd
 refine zaa (args := [.pointer (some ⟨b, 0, none⟩), .int .i64 (i : Nat), .int .i64 (n : Nat), .agg (sgC ha).toArray, .agg (sgC hb2).toArray, .slice ad dead.length cd]) Tryz.func84 rfl NL ?_; refine GW ?_
 obtain ⟨a_b1, v_b1, k_w1, z_w1, r_w1⟩ := new5 w 65 (sgC ha)
 generalize w.alloc (.cells (List.toArray (sgC ha)) 65) = w1 at *
 generalize hs_b1 : w.heap.size = b1 at *
 obtain ⟨a_b2, v_b2, k_w2, z_w2, r_w2⟩ := new5 w1 65 (sgC hb2)
 generalize w1.alloc (.cells (List.toArray (sgC hb2)) 65) = w2 at *
 generalize hs_b2 : w1.heap.size = b2 at *
 have K2 := k_w1.trans0 k_w2
 have h2 := h.keep0 K2
 have z2 : w2.heap.size = w.heap.size + 2 := OM
 have hown : ∀ q, sv.v.ownBlock = some q → q < w.heap.size ∧ b + 1 ≤ q := fun q e => ⟨(h.sg.lt q e).2, (h.sg.lt q e).1⟩
 have v1 := v_b1.keep0 k_w2
 have hS1 : ∀ u, Kp w2 u (own_ sv.v) → At u b1 0 (sgC ha) := fun u hu => zaI v1.at hu fun e => by have := hown b1 e; omega
 have hS2 : ∀ u, Kp w2 u (own_ sv.v) → At u b2 0 (sgC hb2) := fun u hu => zaI v_b2.at hu fun e => by have := hown b2 e; omega
 have hS3 : ∀ u, Kp w2 u (own_ sv.v) → At u b 0 [.slice sv.a sv.n sv.c, .slice dv.a dv.n dv.c] := fun u hu => zaI h2.var.at hu fun e => by have := hown b e; omega
 refine Yh (fun u => Kp w2 u (own_ sv.v)) (fun _ => true) (by simp) (by decide +kernel) (by decide +kernel) (Yb _ _).drew ?_
 refine KGO ?_
 refine Yf (by rfl) (fun u hu => hS3 u hu 0 _ rfl) ?_
 refine KGO ?_
 refine HeldG (sgC ha) (by rfl) (by rfl) (fun u hu => hS1 u hu) (by rfl) ?_
 refine KGO ?_
 refine HeldG (sgC hb2) (by rfl) (by rfl) (fun u hu => hS2 u hu) (by rfl) ?_
 refine KGO ?_
 have kd := (Yb w2 n_).drew
 have Kd := K2.trans0 kd
 refine Ya (Tryz.call137 _ _) (ztD (w := w2.drew) ha hb2 sa sb dead (ra.keep Kd) (rb.keep Kd) (zlv ba OM OM OM) (zlv bb OM OM OM) (rd0.keep Kd) hdl (hE.keep Kd)) ?_
 rintro e w3 ⟨hy, rfl, oy, k3⟩
 have k23 : Kp w2 w3 n_ := kd.trans0 k3
 have z3 := k23.size
 refine RT ?_
 refine ⟨k23.of_none, ?_⟩
 refine KGO ?_
 refine Ye (bs1Sg hy _) ?_
 obtain ⟨a_b3, v_b3, k_w4, z_w4, r_w4⟩ := new5 w3 65 (sgC hy)
 generalize w3.alloc (.cells (List.toArray (sgC hy)) 65) = w4 at *
 generalize hs_b3 : w3.heap.size = b3 at *
 have k24 := k23.trans0 k_w4
 refine ⟨k24.of_none, ?_⟩
 have h4 := h2.keep0 k24
 have oy4 := oy.keep k_w4
 refine KGO ?_
 refine Ya (Tryz.call136 _ _) (rp_Sg (w := w4) (v := sv.v) l i (i + n) (hy, twoS sa sb dead) h4.sg OM OM OM v_b3 (fun g hg e => by have := hown g hg; omega)) ?_
 rintro e w5 ⟨v5, rfl, o5, k5, f5⟩
 obtain ⟨a5, c5, rfl⟩ := zab o5
 have k25 : Kp w2 w5 (own_ sv.v) := k24.of_none.trans' k5
 have vv5 := h2.var.keep k25 fun e => by have := hown b e; omega
 refine RT ?_
 refine ⟨k25, ?_⟩
 refine KGO ?_
 refine Yd (i := 0) vv5 (by simp) (by rfl) ⟨rfl, by simp, by simp⟩ fun w6 v6 k6 => ?_
 refine KGO ?_
 generalize hN : l.take i ++ (hy, twoS sa sb dead) :: l.drop (i + n) = N at *
 have hyn : ∀ p ∈ N, p ∈ l ∨ p = (hy, twoS sa sb dead) := fun p hp => by
  rw [← hN] at hp
  rcases yaj.1 hp with hp | hp
  ·exact .inl (ybo hp)
  rcases yah.1 hp with rfl | hp
  ·exact .inr rfl
  exact .inl (List.mem_of_mem_drop hp)
 have sg6 : OwnSg w6 (b + 1) (.slice a5 N.length c5) N := zal o5 k6 OM
 have h2dd : OwnI w2 (b + 1) dv.v x.dead := h2.dd
 have dd6 : OwnI w6 (b + 1) dv.v x.dead := zal (own_keep h2.dd k25 (zas h2.dd h2.sg (by decide))) k6 OM
 have el6 : ∀ p ∈ N, OwS w6 (b + 1) p.1 p.2 := fun p hp => by
  rcases hyn p hp with hp | rfl
  ·exact ⟨zal (own_keep (h2.el p hp).t k25 (zas (h2.el p hp).t h2.sg (by decide))) k6 OM, zal (own_keep (h2.el p hp).d k25 (zas (h2.el p hp).d h2.sg (by decide))) k6 OM⟩
  have ob : OwS w4 (b + 1) hy (twoS sa sb dead) := oy4.base (by have := kd.size; omega)
  exact ⟨zal (own_keep ob.t k5 (zas ob.t h4.sg (by decide))) k6 OM, zal (own_keep ob.d k5 (zas ob.d h4.sg (by decide))) k6 OM⟩
 have hyt : ∀ q, hy.t.v.ownBlock = some q → w.heap.size ≤ q := fun q e => by have := (oy.t.lt q e).1; have := Kd.size; omega
 have hyd : ∀ q, hy.d.v.ownBlock = some q → w.heap.size ≤ q := fun q e => by have := (oy.d.lt q e).1; have := Kd.size; omega
 have heq6 : N.map (·.2) = x.segs.take i ++ twoS sa sb dead :: x.segs.drop (i + n) := by
  rw [← hN, yaL, yas, List.map_take, List.map_drop, h.eq]
 have hNl : N.length ≤ l.length := by rw [← hN, yaa, yab, yar, yau]; omega
 have h6 : IxM w6 b ⟨a5, N.length, c5⟩ dv N ⟨x.segs.take i ++ twoS sa sb dead :: x.segs.drop (i + n), x.dead⟩ := ⟨v6, sg6, dd6, el6, heq6, fun p hp => by
  rcases hyn p hp with hp | rfl
  ·exact h.ap p hp
  exact fun q e e' => by have := hyd q e; have := (h.dd.lt q e').2; omega⟩
 have M6 : MutX w w6 b sv dv l ⟨a5, N.length, c5⟩ dv N := ⟨((K2.of_none.trans' (k25.mono fun q _ e => .inr (.inl e))).trans' (k6.mono fun q _ e => .inl e)), fun q hq => by
  rcases hq with hq | hq | hq | ⟨p, hp, hq⟩
  ·exact .inl (.inl hq)
  ·exact .inl (.inr (.inl (f5 ▸ hq)))
  ·exact .inl (.inr (.inr (.inl hq)))
  rcases hyn p hp with hp | rfl
  ·exact .inl (.inr (.inr (.inr ⟨p, hp, hq⟩)))
  rcases hq with hq | hq
  ·exact .inr (hyt q hq)
  exact .inr (hyd q hq)⟩
 have hC : IxC ⟨x.segs.take i ++ twoS sa sb dead :: x.segs.drop (i + n), x.dead⟩ := by
  have hmem : ∀ s ∈ x.segs.take i ++ twoS sa sb dead :: x.segs.drop (i + n), s ∈ x.segs ∨ s = twoS sa sb dead := fun s hs => by
   rcases yaj.1 hs with hs | hs
   ·exact .inl (ybo hs)
   rcases yah.1 hs with rfl | hs
   ·exact .inr rfl
   exact .inl (List.mem_of_mem_drop hs)
  refine ⟨fun s hs => ?_, ?_, fun s hs => ?_⟩
  ·rcases hmem s hs with hs | rfl
   ·exact hb.asc s hs
   exact (zah.1 (zcJ _ _ _)).1.1
  ·dsimp only
   rw [← heq6, yaf]; omega
  rcases hmem s hs with hs | rfl
  ·exact hb.dl s hs
  have := (zrM ba bb dead).d; omega
 clear hS1 hS2 hS3
 refine Ya (Tryz.call138 _ _) (zpU (w := w6) h6 hC hd) ?_
 rintro e w7 ⟨rfl, sv', dv', l', h7, M7⟩
 refine RT ?_
 refine KGO ?_
 exact ⟨rfl, sv', dv', l', h7, M6.trans M7⟩
end
end Go.Proofs.YtennokckmjcefaaGreatDoor
