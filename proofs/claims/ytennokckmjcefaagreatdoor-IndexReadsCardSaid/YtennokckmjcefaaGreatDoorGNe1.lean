/- Helper lemmas; no conditions of their own. -/
import Derived.Test.YtennokckmjcefaaGreatDoorGNe0
import Derived.Test.YtennokckmjcefaaGreatDoorGNf0
set_option linter.unusedVariables false
set_option maxHeartbeats 8000000
set_option maxRecDepth 100000
namespace Go.Proofs.YtennokckmjcefaaGreatDoor
open Go.Shelf Go.RowKit Go.Pw Go.Vc Go.Cs Go.Lib Go.Cd Go.Mg
def gatL (q : Sgm → List Pst) (l : List Sgm) : List Pst := l.foldl (fun o s => orP o (q s)) []
theorem ztf (a b : List Pst) : (orP a b).length ≤ a.length + b.length := by
 unfold orP
 rw [yaf]
 exact (zaN cmpD a b).2
theorem zkA (q : Sgm → List Pst) (l : List Sgm) (s : Sgm) : gatL q (l ++ [s]) = orP (gatL q l) (q s) := by
 unfold gatL; rw [List.foldl_append]; rfl
theorem zsE (q : Sgm → List Pst) (n c : Nat) (l : List Sgm) (h : ∀ s ∈ l, (q s).length ≤ n ∧ cntP (q s) ≤ c) : ∀ i, i ≤ l.length → (gatL q (l.take i)).length ≤ i * n ∧ cntP (gatL q (l.take i)) ≤ i * c := by
 intro i
 induction i with
 | zero => intro _; exact ⟨yal _, by rw [ybG]; exact yal _⟩
 | succ i ih =>
  intro hi
  obtain ⟨h1, h2⟩ := ih OM
  obtain ⟨h3, h4⟩ := h l[i] (yak _)
  rw [yad OM, zkA]
  have h5 := ztf (gatL q (l.take i)) (q l[i])
  have h6 := zeQ _ (gatL q (l.take i)) (q l[i]) (yag _)
  rw [ybp, ybp]
  omega
theorem znH {s : Sgm} (h : rightS s = true) (f : Int) (p : List UInt8 → Bool) : (lookS s f p).length ≤ s.docs.length := by
 obtain ⟨hr, hs⟩ := ziG s f p
 have hsub : ∀ d ∈ (lookS s f p).map (·.doc), d ∈ s.docs := fun d hd => by
  obtain ⟨z, hz⟩ := (zdI hr d).1 hd
  obtain ⟨k, _, hk⟩ := (hs d z).1 hz
  refine Decidable.byContradiction fun hn => ?_
  rw [zhX h hn] at hk
  cases hk
 have := zjE (zeh.1 (zbg hr)) hsub
 rwa [yaf] at this
theorem zqz {s : Sgm} (hb : Bd s 1000 20000 20000) (f : Int) (p : List UInt8 → Bool) : cntP (lookS s f p) ≤ 400000000 := by
 unfold lookS
 split
 ·have h1 := zhB (c := 20000) (s.terms.filter fun t => (decide (f = 0) || decide (f = t.field)) && p t.word) [] 0 (by decide) (fun t ht => (hb.x t (yav.1 ht).1).2.2)
  have h2 : (s.terms.filter fun t => (decide (f = 0) || decide (f = t.field)) && p t.word).length ≤ 20000 := yaw (yaK _ _) hb.t
  have h3 := yaV 20000 h2
  omega
 exact yal _
theorem zoX {l : List Pst} {c : Nat} (h : cntP l ≤ c) : ∀ p ∈ l, p.places.length ≤ c := fun p hp => by
 have := zbj l p hp
 unfold cntP at h
 omega
section
variable {w : World} {b : Nat} {sv dv : Sl} {l : List (Sv × Sgm)} {x : Ix}
theorem zmz {bx : Nat} (hv : VarK w b 84 [.slice sv.a sv.n sv.c, .slice dv.a dv.n dv.c]) {dead : List Int} (hd : RowI w dv.v dead) (ha : AscB ltI dead) (hl : dead.length ≤ 1000000) (p : Pr) (hx : VarK w bx 23 [.pointer (some ⟨b, 0, none⟩)]) : Calls Tryz.prog 127 #[.agg (prC p).toArray, .pointer (some ⟨bx, 0, none⟩)] w fun e w' => e = .returned (.bool (decide (p.p.doc ∈ dead))) ∧ Kp w w' n_ := by
 have hxa := hx.at
 refine zaa (args := [.agg (prC p).toArray, .pointer (some ⟨bx, 0, none⟩)]) Tryz.func127 rfl NL ?_; refine GW ?_
 obtain ⟨a_b3, v_b3, k_w1, z_w1, r_w1⟩ := new5 w 44 (prC p)
 generalize w.alloc (.cells (List.toArray (prC p)) 44) = w1 at *
 generalize hs_b3 : w.heap.size = b3 at *
 have a3 : At w1 b3 0 [.int .i64 p.p.doc, .slice p.h.a p.h.n p.h.c] := a_b3
 refine KGO ?_
 refine Ya (Tryz.call78 _ _) (zkg (w := w1) (hv.keep0 k_w1) (hd.keep k_w1) ha hl p.p.doc) ?_
 rintro e w2 ⟨rfl, k2⟩
 refine RT ?_
 refine KGO ?_
 exact ⟨rfl, k_w1.trans0 k2⟩
theorem znq {g : Nat} {c0 c1 : Value} (q : Sgm → List Pst) (h : IxM w b sv dv l x) (hb : IxB x) (hg : ∀ (args : Array Value) (w : World), (callFunc g args).run Tryz.prog w = .ok (.enter g args) w)
  (hone : ∀ p ∈ l, ∀ u, Kp w u n_ → Calls Tryz.prog g #[.agg (sgP p).toArray, c0, c1] u fun e u' => ∃ v, e = .returned v ∧ OwnP u' u.heap.size v (q p.2) ∧ Kp u u' n_)
  (hq : ∀ s ∈ x.segs, (q s).length ≤ 1000 ∧ cntP (q s) ≤ 400000000) :
  Calls Tryz.prog 76 #[.pointer (some ⟨b, 0, none⟩), .func (.func g) #[] #[c0, c1]] w fun e w' => ∃ v, e = .returned v ∧ OwnP w' w.heap.size v (liveP x.dead (gatL q x.segs)) ∧ Kp w w' n_ := by
 have hll : l.length = x.segs.length := by rw [← h.eq, yaf]
 have hn := hb.n
 have hgl := zsE q 1000 400000000 x.segs hq
 obtain ⟨a0, c0', es, hrs⟩ := own_rowO h.sg
 obtain ⟨sa, sn, sc⟩ := sv
 injection es with e1 e2 e3
 dsimp only at e1 e2 e3
 subst e1 e2 e3
 refine zaa (args := [.pointer (some ⟨b, 0, none⟩), .func (.func g) #[] #[c0, c1]]) Tryz.func76 rfl NL ?_; refine GW ?_
 obtain ⟨a_b2, v_b2, k_w1, z_w1, r_w1⟩ := new5 w 23 ([.pointer (some ⟨b, 0, none⟩)])
 generalize w.alloc (.cells (List.toArray ([.pointer (some ⟨b, 0, none⟩)])) 23) = w1 at *
 generalize hs_b2 : w.heap.size = b2 at *
 have h1 := h.keep0 k_w1
 have ha := h1.var.at
 dsimp only at ha
 refine KGO ?_
 refine Yc (ι := Nat × Value) (fun i => [(1, .func (.func g) #[] #[c0, c1]), (2, .pointer (some ⟨b2, 0, none⟩)), (5, i.2), (11, .slice sa l.length sc), (12, .int .i64 (l.length : Nat)), (13, .int .i64 (i.1 : Nat))])
  (fun i wr => Kp w1 wr n_ ∧ i.1 ≤ l.length ∧ OwnP wr w1.heap.size i.2 (gatL q (x.segs.take i.1))) (fun i => l.length - i.1) (0, .slice none 0 0) FR ⟨Yb _ _, yal _, by rw [ybG]; exact ownP_nil _ _⟩ ?_
 rintro ⟨i, vo⟩ gg wr ⟨hK, hi, ho⟩
 dsimp only at hi ho ⊢
 obtain ⟨hl1, hl2⟩ := hgl i OM
 obtain ⟨ao, co, rfl⟩ := ho.shape
 have z0 := hK.size
 refine GW ?_
 by_cases hlt : i < l.length
 ·obtain ⟨gb, o, rfl, hgb, hat⟩ := hrs OM
  have hat := at_mono hat k_w1
  have e1 : x.segs.take (i + 1) = x.segs.take i ++ [l[i].2] := by
   rw [yad OM]; simp only [← h.eq, ybi]
  obtain ⟨hq1, hq2⟩ := hq l[i].2 (by rw [← h.eq]; exact yax (yak hlt))
  have h1i := hone l[i] (yak hlt)
  have hst : gatL q (x.segs.take (i + 1)) = orP (gatL q (x.segs.take i)) (q l[i].2) := by rw [e1, zkA]
  have hi1 : i * 1000 ≤ 1000 * 1000 := yaV _ OM
  have hi2 : i * 400000000 ≤ 1000 * 400000000 := yaV _ OM
  have hc1 : ∀ p ∈ gatL q (x.segs.take i), p.places.length ≤ 1000000000000 := fun p hp => by have := zoX hl2 p hp; omega
  have hc2 : ∀ p ∈ q l[i].2, p.places.length ≤ 1000000000000 := fun p hp => by have := zoX hq2 p hp; omega
  generalize gatL q (x.segs.take i) = OUT at *
  refine KGO ?_
  refine Yg (vs := sgP l[i]) (by rfl) rfl (zak (by rfl)) ?_
  obtain ⟨a_b7, k_w3, z_w3⟩ := new3 wr 65 (sgP l[i])
  generalize wr.alloc (.cells (List.toArray (sgP l[i])) 65) = w3 at *
  generalize hs_b7 : wr.heap.size = b7 at *
  have K3 := hK.trans0 k_w3
  have o3 := ho.keep k_w3
  clear hat ho e1
  generalize l[i] = p at *
  refine KGO ?_
  refine Ya (hg _ _) (h1i w3 (k_w1.trans0 K3)) ?_
  rintro e w4 ⟨v4, rfl, o4, k4⟩
  have K4 := K3.trans0 k4
  obtain ⟨a4, c4, rfl⟩ := o4.shape
  refine RT ?_
  refine KGO ?_
  refine Ya (Tryz.call125 _ _) (po_Or (w := w4) OUT (q p.2) (o3.keep k4).row o4.row OM OM hc1 hc2) ?_
  rintro e w5 ⟨v5, rfl, o5, k5⟩
  obtain ⟨a5, c5, rfl⟩ := o5.shape
  refine RT ?_
  refine KGO ?_
  exact ⟨(i + 1, _), FR, ⟨K4.trans0 k5, DO, by dsimp only; rw [hst]; exact o5.base (by have := K4.size; omega)⟩, DO⟩
 obtain rfl : i = l.length := OM
 rw [yaz OM] at ho hl1 ⊢
 have hr := h1.keep0 hK
 obtain ⟨lx, hlx, hxo⟩ := ho
 have hlxl : lx.length = (gatL q x.segs).length := by rw [← hlx, yaf]
 have hfl : (lx.filter fun y => !decide (y.p.doc ∈ x.dead)).map (·.p) = liveP x.dead (gatL q x.segs) := by
  rw [← hlx]; unfold liveP; rw [List.filter_map]; rfl
 have hi1 : l.length * 1000 ≤ 1000 * 1000 := yaV _ OM
 have hdd := hb.d
 generalize hGL : gatL q x.segs = GL at *
 have hob : ∀ q, (Value.slice ao GL.length co).ownBlock = some q → w1.heap.size ≤ q := fun q e => (hxo.row.lt q e).1
 have v2 := v_b2.keep0 hK
 refine KGO ?_
 refine Ya (Tryz.call126 _ _) (zrt (w := wr) lx 127 (.pointer (some ⟨b2, 0, none⟩)) (fun y => decide (y.p.doc ∈ x.dead)) hxo.row OM Tryz.call127 (fun y hy u k => zmz (w := u) (hr.var.keep k (fun e => by have := hob b e; have := h.var.lt; omega)) (own_rowO (own_keep hr.dd k (fun q e e' => by have := hob q e'; have := (h.dd.lt q e).2; omega))) hb.ok.da OM y (v2.keep k (fun e => by have := hob b2 e; omega)))) ?_
 rintro e w4 ⟨v4, rfl, o4, k4, _⟩
 obtain ⟨a4, c4, rfl⟩ := zab o4
 refine RT ?_
 refine KGO ?_
 refine ⟨_, rfl, ⟨_, hfl, own_base o4 OM, fun y hy => own_base (zad (D := [3]) (hxo.pl y (yav.1 hy).1) k4 (zaC hxo.row (by decide)) (by decide)) OM⟩, zav hxo.row k4 (k_w1.trans0 hK) OM⟩
theorem zpV {bf bw : Nat} (field : Int) (wd : List UInt8) (hf : VarK w bf 3 [.int .i64 field]) (hw : VarK w bw 9 [.string (str wd)]) (q : Sv × Sgm) (hr : RdS w q.1 q.2) (hb : Bd q.2 1000 20000 20000) (hE : CEnv w) : Calls Tryz.prog 77 #[.agg (sgP q).toArray, .pointer (some ⟨bf, 0, none⟩), .pointer (some ⟨bw, 0, none⟩)] w fun e w' => ∃ v, e = .returned v ∧ OwnP w' w.heap.size v (lookS q.2 field (eqW wd)) ∧ Kp w w' n_ := by
 have hfa := hf.at
 have hwa := hw.at
 refine zaa (args := [.agg (sgP q).toArray, .pointer (some ⟨bf, 0, none⟩), .pointer (some ⟨bw, 0, none⟩)]) Tryz.func77 rfl NL ?_; refine GW ?_
 obtain ⟨a_b3, v_b3, k_w1, z_w1, r_w1⟩ := new5 w 65 (sgC q.1)
 generalize w.alloc (.cells (List.toArray (sgC q.1)) 65) = w1 at *
 generalize hs_b3 : w.heap.size = b3 at *
 refine KGO ?_
 refine Ya (Tryz.call43 _ _) (ztr (w := w1) q.1 q.2 field wd (hr.keep k_w1) (hb.mono OM OM OM) (hE.keep k_w1)) ?_
 rintro e w2 ⟨v2, rfl, o2, k2⟩
 obtain ⟨a2, c2, rfl⟩ := o2.shape
 refine RT ?_
 refine KGO ?_
 exact ⟨_, rfl, o2.base OM, k_w1.trans0 k2⟩
theorem zjB (h : IxM w b sv dv l x) (hb : IxB x) (hE : CEnv w) (field : Int) (wd : List UInt8) : Calls Tryz.prog 19 #[.pointer (some ⟨b, 0, none⟩), .int .i64 field, .string (str wd)] w fun e w' => ∃ v, e = .returned v ∧ OwnP w' w.heap.size v (lookX x field (eqW wd)) ∧ Kp w w' n_ := by
 refine zaa (args := [.pointer (some ⟨b, 0, none⟩), .int .i64 field, .string (str wd)]) Tryz.func19 rfl NL ?_; refine GW ?_
 obtain ⟨a_b4, v_b4, k_w1, z_w1, r_w1⟩ := new5 w 3 ([.int .i64 field])
 generalize w.alloc (.cells (List.toArray ([.int .i64 field])) 3) = w1 at *
 generalize hs_b4 : w.heap.size = b4 at *
 obtain ⟨a_b5, v_b5, k_w2, z_w2, r_w2⟩ := new5 w1 9 ([.string (str wd)])
 generalize w1.alloc (.cells (List.toArray ([.string (str wd)])) 9) = w2 at *
 generalize hs_b5 : w1.heap.size = b5 at *
 have K2 := k_w1.trans0 k_w2
 have v4 := v_b4.keep0 k_w2
 refine KGO ?_
 refine Ya (Tryz.call76 _ _) (znq (w := w2) (fun s => lookS s field (eqW wd)) (h.keep0 K2) hb Tryz.call77 (fun p hp u k => zpV (w := u) field wd (v4.keep0 k) (v_b5.keep0 k) p ((h.rd hp).keep (K2.trans0 k)) (hb.b p.2 (by rw [← h.eq]; exact yax hp)) (hE.keep (K2.trans0 k))) (fun s hs => ⟨yaw (znH (hb.ok.rt s hs) _ _) (hb.b s hs).d, zqz (hb.b s hs) _ _⟩)) ?_
 rintro e w3 ⟨v3, rfl, o3, k3⟩
 obtain ⟨a3, c3, rfl⟩ := o3.shape
 refine RT ?_
 refine KGO ?_
 exact ⟨_, rfl, o3.base OM, K2.trans0 k3⟩
end
theorem zoZ (a : List Pst) (gap : Int) (b : List Pst) : (nextP a b gap).length ≤ b.length := ybI _ _
theorem zqS {a b : List Pst} {gap : Int} {c : Nat} (h : ∀ p ∈ b, p.places.length ≤ c) : ∀ p ∈ nextP a b gap, p.places.length ≤ c := fun p hp => by
 unfold nextP at hp
 obtain ⟨y, hy, e⟩ := List.mem_filterMap.1 hp
 unfold nextO at e
 split at e
 ·cases e
 injection e with e
 subst e
 exact yaw (yaK _ _) (h y hy)
def phF (x : Ix) (f : Int) (w0 : List UInt8) (ws : List (List UInt8)) : List Pst := ws.foldl (fun l v => nextP l (lookX x f (eqW v)) 1) (lookX x f (eqW w0))
theorem zlG (x : Ix) (f : Int) (w0 v : List UInt8) (ws : List (List UInt8)) : phF x f w0 (ws ++ [v]) = nextP (phF x f w0 ws) (lookX x f (eqW v)) 1 := by
 unfold phF; rw [List.foldl_append]; rfl
def LookB (x : Ix) : Prop := ∀ f q, (lookX x f q).length ≤ 1000000 ∧ ∀ p ∈ lookX x f q, p.places.length ≤ 100000000000
theorem phF_b {x : Ix} (hl : LookB x) (f : Int) (w0 : List UInt8) (ws : List (List UInt8)) : zan (phF x f w0 ws) = true ∧ (phF x f w0 ws).length ≤ 1000000 ∧ ∀ p ∈ phF x f w0 ws, p.places.length ≤ 100000000000 := by
 have key : ∀ (n : Nat) (ws : List (List UInt8)), ws.length = n → zan (phF x f w0 ws) = true ∧ (phF x f w0 ws).length ≤ 1000000 ∧ ∀ p ∈ phF x f w0 ws, p.places.length ≤ 100000000000 := by
  intro n
  induction n with
  | zero =>
   intro ws h
   obtain rfl := yan h
   exact ⟨(zby x f (eqW w0)).1, (hl f _).1, (hl f _).2⟩
  | succ n ih =>
   intro ws h
   obtain ⟨vs, v, rfl⟩ : ∃ vs v, ws = vs ++ [v] := ⟨ws.dropLast, ws.getLast (by intro e; rw [e] at h; simp at h), (List.dropLast_concat_getLast _).symm⟩
   obtain ⟨h1, h2, h3⟩ := ih vs (by simpa using h)
   rw [zlG]
   exact ⟨(zij _ 1 _ (zby x f (eqW v)).1).1, yaw (zoZ _ _ _) (hl f _).1, zqS (hl f _).2⟩
 exact key _ ws rfl
def phD (x : Ix) (field : Int) (ws : List (List UInt8)) (i : Nat) : List Int := (([1, 2, 3, 4, 5] : List Int).take (i - 1)).flatMap fun f => if field ≠ 0 ∧ f ≠ field then [] else (zdk x f ws).map (·.doc)
theorem zrc (x : Ix) (field : Int) (ws : List (List UInt8)) (i : Nat) (h0 : 0 < i) (h6 : i < 6) : phD x field ws (i + 1) = phD x field ws i ++ if field ≠ 0 ∧ (i : Int) ≠ field then [] else (zdk x (i : Nat) ws).map (·.doc) := by
 have e : (([1, 2, 3, 4, 5] : List Int).take (i + 1 - 1)) = ([1, 2, 3, 4, 5] : List Int).take (i - 1) ++ [(i : Int)] := by
  match i, h0, h6 with
  | 1, _, _ => rfl
  | 2, _, _ => rfl
  | 3, _, _ => rfl
  | 4, _, _ => rfl
  | 5, _, _ => rfl
 unfold phD
 rw [e, yaC]
 simp
theorem zsc (x : Ix) (hl : LookB x) (field : Int) (w0 : List UInt8) (ws : List (List UInt8)) (i : Nat) : (phD x field (w0 :: ws) i).length ≤ 5000000 := by
 unfold phD
 have h : ∀ f : Int, (if field ≠ 0 ∧ f ≠ field then [] else (zdk x f (w0 :: ws)).map (·.doc)).length ≤ 1000000 := fun f => by
  split
  ·exact yal _
  rw [yaf]; exact (phF_b hl f w0 ws).2.1
 have key : ∀ l : List Int, (l.flatMap fun f => if field ≠ 0 ∧ f ≠ field then [] else (zdk x f (w0 :: ws)).map (·.doc)).length ≤ l.length * 1000000 := fun l => by
  induction l with
  | nil => exact yal _
  | cons f l ih => have := h f; rw [yao, yaa, yab]; omega
 have h1 := key (([1, 2, 3, 4, 5] : List Int).take (i - 1))
 have h2 : (([1, 2, 3, 4, 5] : List Int).take (i - 1)).length ≤ 5 := by rw [yar]; exact Nat.min_le_right _ _
 omega
section
variable {w : World} {b : Nat} {sv dv : Sl} {l : List (Sv × Sgm)} {x : Ix}
theorem zgk {v : Value} (h : IxM w b sv dv l x) (hb : IxB x) (hE : CEnv w) (hl : LookB x) (field : Int) (ws : List (List UInt8)) (hw : RowO w v txC ws) (hcap : CapK v) (hwl : ws.length ≤ 1000000) : Calls Tryz.prog 37 #[.pointer (some ⟨b, 0, none⟩), .int .i64 field, v] w fun e w' => ∃ v', e = .returned v' ∧ OwnI w' w.heap.size v' (zbH x field ws) ∧ Kp w w' n_ := by
 obtain ⟨wa, wc, rfl, hrw⟩ := hw
 have hwc := hcap _ _ _ rfl
 have qw := Yb w n_
 cases ws with
 | nil =>
  rw [yaE] at *
  refine zaa (args := [.pointer (some ⟨b, 0, none⟩), .int .i64 field, .slice wa 0 wc]) Tryz.func37 rfl NL ?_; refine GW ?_
  refine KGO ?_
  exact ⟨_, rfl, World.ownsRow_nil _ _ _ _, qw⟩
 | cons w0 rest =>
 obtain ⟨gw, ow, rfl, hgw, hatw⟩ := hrw (by simp)
 have rt := zaA (c := txC) (s := 1) (cp := wc) (fun _ => rfl) hatw hgw (by simpa using hwc)
 have hat0 : At w gw ow (txC w0) := zbt hatw
 have hc0 := hat0 0 _ rfl
 have hdl := zsc x hl field w0 rest
 rw [yab] at *
 refine zaa (args := [.pointer (some ⟨b, 0, none⟩), .int .i64 field, .slice (some ⟨gw, ow, none⟩) (rest.length + 1) wc]) Tryz.func37 rfl NL ?_; refine GW ?_
 refine KGO ?_
 refine Yc (ι := Nat × Sl) (fun q => [(0, .pointer (some ⟨b, 0, none⟩)), (1, .int .i64 field), (2, .slice (some ⟨gw, ow, none⟩) (rest.length + 1) wc), (7, .slice q.2.a q.2.n q.2.c), (15, .int .i64 (q.1 : Nat))])
  (fun q wr => Kp w wr n_ ∧ q.1 ≤ 6 ∧ OwnI wr w.heap.size q.2.v (phD x field (w0 :: rest) q.1)) (fun q => 6 - q.1) (0, ⟨none, 0, 0⟩) FR ⟨qw, yal _, World.ownsRow_nil _ _ _ _⟩ ?_
 rintro ⟨i, so⟩ gg wr ⟨hK, hi, ho⟩
 dsimp only at hi ho ⊢
 have hdi := hdl i
 refine GW ?_
 by_cases hlt : i < 6
 ·by_cases h0 : i = 0
  ·subst h0
   refine KGO ?_
   exact ⟨(1, so), FR, ⟨hK, DO, ho⟩, DO⟩
  have hst := zrc x field (w0 :: rest) i OM hlt
  by_cases hsk : field ≠ 0 ∧ (i : Int) ≠ field
  ·rw [if_pos hsk, yaA] at hst
   obtain ⟨hs1, hs2⟩ := hsk
   refine KGO ?_
   exact ⟨(i + 1, so), FR, ⟨hK, DO, by dsimp only; rw [hst]; exact ho⟩, DO⟩
  rw [if_neg hsk] at hst
  have hlast : field = 0 ∨ (i : Int) = field := by
   by_cases hf : field = 0
   ·exact .inl hf
   exact .inr (Decidable.byContradiction fun e => hsk ⟨hf, e⟩)
  clear hsk
  have hcw : wr.cell? ⟨gw, ow, none⟩ = some (.string (str w0)) := zao (by simpa using hc0) hK
  rcases hlast with hf | hf
  all_goals
   refine KGO ?_
   refine Ya (Tryz.call19 _ _) (zjB (w := wr) (h.keep0 hK) hb (hE.keep hK) (i : Nat) w0) ?_
   rintro e w2 ⟨v2, rfl, o2, k2⟩
   obtain ⟨va2, vc2, rfl⟩ := o2.shape
   have K2 := hK.trans0 k2
   have z2 := hK.size
   have ho2 := own_keep0 ho k2
   obtain ⟨aj, cj, ej⟩ := zab ho2
   obtain ⟨ja, jn, jc⟩ := so
   injection ej with e1 e2 e3
   dsimp only at e1 e2 e3
   subst e1 e2 e3
   clear ho
   refine RT ?_
   refine Yj (l := 1) OM OM ?_
   refine GW ?_
   refine KGO ?_
   refine Yc (ι := Nat × Value × Value) (fun q => [(0, .pointer (some ⟨b, 0, none⟩)), (1, .int .i64 field), (2, .slice (some ⟨gw, ow, none⟩) (rest.length + 1) wc), (7, .slice ja (phD x field (w0 :: rest) i).length jc), (8, .int .i64 (i : Nat)), (9, q.2.1), (15, .int .i64 (i : Nat)), (36, q.2.2), (37, .int .i64 (rest.length : Nat)), (38, .int .i64 (q.1 : Nat))])
    (fun q wk => Kp w wk n_ ∧ q.1 ≤ rest.length ∧ OwnP wk w.heap.size q.2.1 (phF x (i : Nat) w0 (rest.take q.1)) ∧ OwnI wk w.heap.size (.slice ja (phD x field (w0 :: rest) i).length jc) (phD x field (w0 :: rest) i) ∧ RowO w q.2.2 txC rest) (fun q => rest.length - q.1) (0, _, _) FR ⟨K2, yal _, o2.base OM, ho2, rt⟩ ?_
   clear ho2 o2 K2 k2
   rintro ⟨j, vl, vt⟩ gj wk ⟨hKk, hj, hol, ho, hrt⟩
   dsimp only at hj hol ho hrt ⊢
   obtain ⟨vla, vlc, rfl⟩ := hol.shape
   obtain ⟨ta, tc, rfl, hrt⟩ := hrt
   obtain ⟨hp1, hp2, hp3⟩ := phF_b hl (i : Nat) w0 (rest.take j)
   refine GW ?_
   by_cases hjt : j < rest.length
   ·obtain ⟨gt, ot, rfl, hgt, hatt⟩ := hrt OM
    have chj : wk.cell? ⟨gt, ot + j, none⟩ = some (.string (str rest[j])) := by
     have := zea (at_mono hatt hKk) (n := 1) (fun _ => rfl) (i := j) hjt 0 _ rfl
     simpa using this
    have hps : phF x (i : Nat) w0 (rest.take (j + 1)) = nextP (phF x (i : Nat) w0 (rest.take j)) (lookX x (i : Nat) (eqW rest[j])) 1 := by rw [yad hjt, zlG]
    obtain ⟨hl1, hl2⟩ := hl (i : Nat) (eqW rest[j])
    have hlr := (zby x (i : Nat) (eqW rest[j])).1
    refine KGO ?_
    refine Ya (Tryz.call19 _ _) (zjB (w := wk) (h.keep0 hKk) hb (hE.keep hKk) (i : Nat) rest[j]) ?_
    rintro e w3 ⟨v3, rfl, o3, k3⟩
    obtain ⟨va3, vc3, rfl⟩ := o3.shape
    have K3 := hKk.trans0 k3
    refine RT ?_
    refine Ya (Tryz.call104 _ _) (ztk (w := w3) (phF x (i : Nat) w0 (rest.take j)) (lookX x (i : Nat) (eqW rest[j])) 1 (hol.keep k3).row o3.row hp1 hlr OM OM hp3 hl2 OM) ?_
    rintro e w4 ⟨v4, rfl, o4, k4⟩
    obtain ⟨va4, vc4, rfl⟩ := o4.shape
    have z3 := K3.size
    refine RT ?_
    refine KGO ?_
    exact ⟨(j + 1, _, _), FR, ⟨K3.trans0 k4, DO, by dsimp only; rw [hps]; exact o4.base OM, own_keep0 (own_keep0 ho k3) k4, ⟨_, _, rfl, hrt⟩⟩, DO⟩
   obtain rfl : j = rest.length := OM
   rw [yaD] at hol hp1 hp2 hp3 ⊢
   have hpd : zdk x (i : Nat) (w0 :: rest) = phF x (i : Nat) w0 rest := rfl
   rw [hpd] at hst
   obtain ⟨lx, hlx, hxo⟩ := hol
   have hlxl := congrArg List.length hlx
   rw [yaf] at hlxl
   have hdm : lx.map (·.p.doc) = (phF x (i : Nat) w0 rest).map (·.doc) := by rw [← hlx, ybe]; rfl
   refine KGO ?_
   refine Ya (Tryz.call105 _ _) (znm (w := wk) lx hxo.rd OM) ?_
   rintro e w3 ⟨v3, rfl, o3, k3⟩
   rw [hdm] at o3
   obtain ⟨a3, c3, rfl⟩ := zab o3
   have hdl3 : ((phF x (i : Nat) w0 rest).map (·.doc)).length ≤ 1000000 := by rw [yaf]; exact hp2
   generalize (phF x (i : Nat) w0 rest).map (·.doc) = DD at *
   generalize phD x field (w0 :: rest) i = PD at *
   have K3 := hKk.trans0 k3
   have z3 := K3.size
   have ho3 := own_keep0 ho k3
   refine RT ?_
   refine KGO ?_
   refine tyI.app DD ho3 OM rfl (fun h => ?_) OM OM fun v5 w5 o5 k5 => ?_
   ·obtain ⟨_, _, e3, hr3⟩ := own_rowO o3
    injection e3 with e3 _ e4
    subst e3
    obtain ⟨g3, p3, eg, _, hat3⟩ := hr3 h
    exact ⟨g3, p3, eg, hat3⟩
   have K5 := zav ho3 k5 K3 (yag _)
   obtain ⟨a5, c5, rfl⟩ := zab o5
   refine KGO ?_
   exact ⟨(i + 1, ⟨a5, _, c5⟩), FR, ⟨K5, DO, by dsimp only; rw [hst]; exact o5⟩, DO⟩
 obtain rfl : i = 6 := OM
 have hph : zbH x field (w0 :: rest) = sortI (phD x field (w0 :: rest) 6) := rfl
 rw [hph, ← zfW]
 generalize phD x field (w0 :: rest) 6 = PD at *
 obtain ⟨aj, cj, ej⟩ := zab ho
 obtain ⟨ja, jn, jc⟩ := so
 injection ej with e1 e2 e3
 dsimp only at e1 e2 e3
 subst e1 e2 e3
 refine KGO ?_
 refine Ya (Tryz.call79 _ _) (srt_I (w := wr) _ ho OM) ?_
 rintro e w2 ⟨rfl, o2, k2⟩
 have K2 := zav ho k2 hK (yag _)
 have hml : (PD.mergeSort fun x y => decide (x ≤ y)).length = PD.length := yba _
 generalize (PD.mergeSort fun x y => decide (x ≤ y)) = PS at *
 have hps : PS.length ≤ 5000000 := OM
 dsimp only at o2
 rw [← hml] at o2 ⊢
 refine RT ?_
 refine KGO ?_
 refine Ya (Tryz.call106 _ _) (cmp_I (w := w2) PS o2 OM) ?_
 rintro e w3 ⟨v3, rfl, o3, k3, _⟩
 have K3 := zav o2 k3 K2 (yag _)
 obtain ⟨a3, c3, rfl⟩ := zab o3
 refine RT ?_
 refine KGO ?_
 exact ⟨_, rfl, o3, K3⟩
end
section
variable {w : World}
theorem zel (s t : List UInt8) : Calls Tryz.prog 49 #[.string (str s), .string (str t)] w fun e w' => e = .returned (.agg (List.toArray [.string (str []), .string (str []), .string (str []), .string (str s), .string (str t), .string (str [])])) ∧ Kp w w' n_ := by
 refine zaa (args := [.string (str s), .string (str t)]) Tryz.func49 rfl NL ?_; refine GW ?_
 obtain ⟨a_b4, v_b4, k_w1, z_w1, r_w1⟩ := new5 w 32 ([.string ⟨#[]⟩, .string ⟨#[]⟩, .string ⟨#[]⟩, .string ⟨#[]⟩, .string ⟨#[]⟩, .string ⟨#[]⟩])
 generalize w.alloc (.cells (List.toArray ([.string ⟨#[]⟩, .string ⟨#[]⟩, .string ⟨#[]⟩, .string ⟨#[]⟩, .string ⟨#[]⟩, .string ⟨#[]⟩])) 32) = w1 at *
 generalize hs_b4 : w.heap.size = b4 at *
 refine KGO ?_
 obtain ⟨a_b5, v_b5, k_w2, z_w2, r_w2⟩ := new5 w1 32 ([.string ⟨#[]⟩, .string ⟨#[]⟩, .string ⟨#[]⟩, .string ⟨#[]⟩, .string ⟨#[]⟩, .string ⟨#[]⟩])
 generalize w1.alloc (.cells (List.toArray ([.string ⟨#[]⟩, .string ⟨#[]⟩, .string ⟨#[]⟩, .string ⟨#[]⟩, .string ⟨#[]⟩, .string ⟨#[]⟩])) 32) = w2 at *
 generalize hs_b5 : w1.heap.size = b5 at *
 have v4 := v_b4.keep0 k_w2
 refine KGO ?_
 refine Yd (i := 3) v_b5 (by simp) (by rfl) ⟨rfl, by simp, by simp⟩ fun w3 v3 k3 => ?_
 refine KGO ?_
 refine Yd (i := 4) v3 (by simp) (by rfl) ⟨rfl, by simp, by simp⟩ fun w4 v5 k4 => ?_
 have a5 := v5.at
 have q4 := Yb w4 n_
 have v44 := (v4.keep k3 (show ¬ b4 = b5 by omega)).keep k4 (show ¬ b4 = b5 by omega)
 have K4 : Kp w w4 n_ := keeps_new (keeps_new (k_w1.trans0 k_w2) k3 OM) k4 OM
 refine KGO ?_
 refine Yi [.string ⟨#[]⟩, .string ⟨#[]⟩, .string ⟨#[]⟩, .string (str s), .string (str t), .string ⟨#[]⟩] v44 (by rfl) rfl (zak (by rfl)) fun w5 v6 k5 => ?_
 have a6 := v6.at
 have q5 := Yb w5 n_
 refine KGO ?_
 refine GW ?_
 refine KGO ?_
 refine GW ?_
 exact ⟨rfl, keeps_new K4 k5 OM⟩
theorem bs2T (a c : ByteArray) (w : World) : (Instr.buildSlice 48 2 [(0, .string a), (1, .string c)].toArray).run Tryz.prog w = .ok (.slice (some ⟨w.heap.size, 0, none⟩) 2 2) (w.alloc (.cells (List.toArray [.string a, .string c]) 9)) := by
 simp [Instr.buildSlice, Instr.fill, go_sem, Tryz.runUnderlying48]
theorem zhw {x : Ix} {N Q Z : Nat} (h : Iw x N Q Z) (hN : N ≤ 1000) : LookB x := fun f q => by
 obtain ⟨h1, h2⟩ := zoN h.ok h.wt f q
 exact ⟨OM, fun p hp => by have := h2 p hp; omega⟩
theorem znV {a : Option Addr} {n c : Nat} (h : n ≤ c) : CapK (.slice a n c) := fun a' n' c' e => by
 injection e with _ e1 e2
 omega
theorem zjt {w : World} {b : Nat} {x y : List UInt8} (h : At w b 0 [.string (str x), .string (str y)]) (hb : b < w.heap.size) : RowO w (.slice (some ⟨b, 0, none⟩) 2 2) txC [x, y] := ⟨_, 2, rfl, fun _ => ⟨b, 0, rfl, hb, h⟩⟩
theorem ztu {x : Ix} {N Q Z : Nat} (h : Iw x N Q Z) (hN : N ≤ 1000) (hQ : Q ≤ 20000) (hZ : Z ≤ 100000) : SerB x := by
 have hb := h.b hN hQ
 have hl := h.len hN hZ
 refine ⟨fun s hs => ⟨zlv (hb.b s hs) OM OM OM, by have := (hb.b s hs).d; omega⟩, by have := hb.n; omega, by have := hb.d; omega, fun d hd => ?_, OM⟩
 have := zeX h.ok d hd
 omega
theorem MutX.out {w' : World} {b g : Nat} {sv dv sv' dv' : Sl} {l l' : List (Sv × Sgm)} (m : MutX w w' b sv dv l sv' dv' l') (h : ¬ fpX b sv dv l g) (hl : g < w.heap.size) : ¬ fpX b sv' dv' l' g := fun e => (m.f g e).elim h fun e => OM
theorem zmL (hE : CEnv w) : Calls Tryz.prog 11 #[] w fun e w' => e = .returned (.bool true) ∧ Kp w w' n_ := by
 refine zaa (args := []) Tryz.func11 rfl NL ?_; refine GW ?_
 refine Ya (Tryz.call16 _ _) (zuf (w := w)) ?_
 rintro e w1 ⟨rfl, h1, k1⟩
 obtain ⟨b, hb⟩ : ∃ b, w.heap.size = b := ⟨_, rfl⟩
 rw [hb] at h1 ⊢
 have B1 : Bs w w1 b ⟨none, 0, 0⟩ ⟨none, 0, 0⟩ [] := ⟨k1, fun q e => by have := h1.fp_ge q e; omega, hE⟩
 refine RT ?_
 refine KGO ?_
 refine Ya (Tryz.call49 _ _) (zel (w := w1) [97, 32, 98] [120]) ?_
 rintro e w2 ⟨rfl, k2⟩
 refine RT ?_
 refine Ya (Tryz.call24 _ _) (zlu (w := w2) (h1.keep0 k2) (Iw.empty.b OM OM) (B1.keep k2) 3 [] [] [] [97, 32, 98] [120] [] (by decide) (by decide)) ?_
 rintro e w3 ⟨rfl, sv3, dv3, l3, h3, M3⟩
 have B3 := (B1.keep k2).mut M3
 rw [show addX zeP 3 [[], [], [], [97, 32, 98], [120], []] = (0, ⟨[sA], []⟩) from sm_a] at h3 ⊢
 dsimp only at h3 ⊢
 refine RT ?_
 refine KGO ?_
 refine Ya (Tryz.call49 _ _) (zel (w := w3) [98, 32, 97] [97, 32, 98]) ?_
 rintro e w4 ⟨rfl, k4⟩
 refine RT ?_
 refine Ya (Tryz.call24 _ _) (zlu (w := w4) (h3.keep0 k4) (iw_1.b OM OM) (B3.keep k4) 5 [] [] [] [98, 32, 97] [97, 32, 98] [] (by decide) (by decide)) ?_
 rintro e w5 ⟨rfl, sv5, dv5, l5, h5, M5⟩
 have B5 := (B3.keep k4).mut M5
 rw [show addX ⟨[sA], []⟩ 5 [[], [], [], [98, 32, 97], [97, 32, 98], []] = (0, ⟨[sA, sB], []⟩) from sm_b] at h5 ⊢
 dsimp only at h5 ⊢
 clear M3 M5 B1 B3 h1 h3 k1 k2 k4
 refine RT ?_
 refine KGO ?_
 refine Ya (Tryz.call49 _ _) (zel (w := w5) [] []) ?_
 rintro e w6 ⟨rfl, k6⟩
 refine RT ?_
 refine Ya (Tryz.call24 _ _) (zlu (w := w6) (h5.keep0 k6) (iw_2.b OM OM) (B5.keep k6) 3 [] [] [] [] [] [] (by decide) (by decide)) ?_
 rintro e w7 ⟨rfl, sv7, dv7, l7, h7, M7⟩
 have B7 := (B5.keep k6).mut M7
 rw [sm_c] at h7 ⊢
 dsimp only at h7 ⊢
 refine RT ?_
 refine KGO ?_
 refine Ya (Tryz.call49 _ _) (zel (w := w7) [] []) ?_
 rintro e w8 ⟨rfl, k8⟩
 refine RT ?_
 refine Ya (Tryz.call24 _ _) (zlu (w := w8) (h7.keep0 k8) (iw_2.b OM OM) (B7.keep k8) 0 [] [] [] [] [] [] (by decide) (by decide)) ?_
 rintro e w9 ⟨rfl, sv9, dv9, l9, h9, M9⟩
 have B9 := (B7.keep k8).mut M9
 rw [sm_e] at h9 ⊢
 dsimp only at h9 ⊢
 clear M7 M9 B5 B7 h5 h7 k6 k8
 refine RT ?_
 refine KGO ?_
 refine Ye (bs2T _ _ _) ?_
 obtain ⟨a_b10, v_b10, k_w10, z_w10, r_w10⟩ := new5 w9 9 ([.string ⟨#[97]⟩, .string ⟨#[98]⟩])
 generalize w9.alloc (.cells (List.toArray ([.string ⟨#[97]⟩, .string ⟨#[98]⟩])) 9) = w10 at *
 generalize hs_b10 : w9.heap.size = b10 at *
 have h10 := h9.keep0 k_w10
 have B10 := B9.keep k_w10
 have hr10 := zjt (x := [97]) (y := [98]) a_b10 OM
 clear h9 B9 a_b10 v_b10
 refine KGO ?_
 refine Ya (Tryz.call37 _ _) (zgk (w := w10) h10 (iw_2.b OM OM) B10.env (zhw iw_2 OM) 0 [[97], [98]] hr10 (znV OM) (by decide)) ?_
 rintro e w11 ⟨v11, rfl, o11, k11⟩
 rw [ztX] at o11
 obtain ⟨a11, c11, rfl⟩ := zab o11
 rw [show ([3, 5] : List Int).length = 2 from rfl]
 have h11 := h10.keep0 k11
 have B11 := B10.keep k11
 clear o11 h10 B10 hr10
 refine RT ?_
 refine KGO ?_
 refine Ye (bs2T _ _ _) ?_
 obtain ⟨a_b12, v_b12, k_w12, z_w12, r_w12⟩ := new5 w11 9 ([.string ⟨#[98]⟩, .string ⟨#[97]⟩])
 generalize w11.alloc (.cells (List.toArray ([.string ⟨#[98]⟩, .string ⟨#[97]⟩])) 9) = w12 at *
 generalize hs_b12 : w11.heap.size = b12 at *
 have h12 := h11.keep0 k_w12
 have B12 := B11.keep k_w12
 have hr12 := zjt (x := [98]) (y := [97]) a_b12 OM
 clear h11 B11 a_b12 v_b12
 refine KGO ?_
 refine Ya (Tryz.call37 _ _) (zgk (w := w12) h12 (iw_2.b OM OM) B12.env (zhw iw_2 OM) 3 [[98], [97]] hr12 (znV OM) (by decide)) ?_
 rintro e w13 ⟨v13, rfl, o13, k13⟩
 rw [ztN] at o13
 obtain ⟨a13, c13, e13, hr13⟩ := own_rowO o13
 subst e13
 rw [show ([5] : List Int).length = 1 from rfl] at *
 obtain ⟨g13, p13, rfl, hg13, at13⟩ := hr13 OM
 have hg13' := (o13.lt g13 rfl).1
 have h13 := h12.keep0 k13
 have B13 := B12.keep k13
 have n13 : ¬ fpX b sv9 dv9 l9 g13 := fun e => by have := h12.fp_lt g13 e; omega
 clear o13 h12 B12 hr12 hr13
 refine RT ?_
 refine KGO ?_
 refine Ya (Tryz.call22 _ _) (zoy (w := w13) h13 (iw_2.b OM OM) 3) ?_
 rintro e w14 ⟨rfl, sv14, dv14, l14, h14, M14⟩
 have B14 := B13.mut M14
 have at14 := zaI at13 M14.k n13
 have n14 := M14.out n13 hg13
 have hg14 : g13 < w14.heap.size := by have := M14.k.size; omega
 rw [sm_d] at h14 ⊢
 dsimp only at h14 ⊢
 clear M14 B13 h13 at13 n13
 refine RT ?_
 refine KGO ?_
 refine Ya (Tryz.call22 _ _) (zoy (w := w14) h14 (iw_3.b OM OM) 3) ?_
 rintro e w15 ⟨rfl, sv15, dv15, l15, h15, M15⟩
 have B15 := B14.mut M15
 have at15 := zaI at14 M15.k n14
 have hg15 : g13 < w15.heap.size := by have := M15.k.size; omega
 rw [sm_d2] at h15 ⊢
 dsimp only at h15 ⊢
 clear M15 B14 h14 at14 n14
 refine RT ?_
 refine KGO ?_
 refine Ye (bs2T _ _ _) ?_
 obtain ⟨a_b16, v_b16, k_w16, z_w16, r_w16⟩ := new5 w15 9 ([.string ⟨#[97]⟩, .string ⟨#[98]⟩])
 generalize w15.alloc (.cells (List.toArray ([.string ⟨#[97]⟩, .string ⟨#[98]⟩])) 9) = w16 at *
 generalize hs_b16 : w15.heap.size = b16 at *
 have h16 := h15.keep0 k_w16
 have B16 := B15.keep k_w16
 have hr16 := zjt (x := [97]) (y := [98]) a_b16 OM
 clear h15 B15 a_b16 v_b16
 refine KGO ?_
 refine Ya (Tryz.call37 _ _) (zgk (w := w16) h16 (iw_3.b OM OM) B16.env (zhw iw_3 OM) 0 [[97], [98]] hr16 (znV OM) (by decide)) ?_
 rintro e w17 ⟨v17, rfl, o17, k17⟩
 rw [zqE] at o17
 obtain ⟨a17, c17, rfl⟩ := zab o17
 rw [show ([5] : List Int).length = 1 from rfl]
 have h17 := h16.keep0 k17
 have B17 := B16.keep k17
 have at17 := at_mono (at_mono at15 k_w16) k17
 clear o17 h16 B16 hr16
 refine RT ?_
 refine KGO ?_
 refine Ya (Tryz.call19 _ _) (zjB (w := w17) h17 (iw_3.b OM OM) B17.env 4 [97]) ?_
 rintro e w18 ⟨v18, rfl, o18, k18⟩
 obtain ⟨p, hp, hpd⟩ := ztm
 rw [hp] at o18
 obtain ⟨lx, hlx, hxo⟩ := o18
 obtain ⟨y, rfl⟩ : ∃ y, lx = [y] := by
  match lx, hlx with
  | [y], _ => exact ⟨y, rfl⟩
  | [], h => simp at h
  | _ :: _ :: _, h => simp at h
 have hyd : y.p.doc = 5 := by rw [← hpd]; simp at hlx; rw [hlx]
 obtain ⟨a18, c18, e18, hr18⟩ := own_rowO hxo.row
 subst e18
 rw [show [y].length = 1 from rfl] at *
 obtain ⟨g18, p18, rfl, hg18, at18⟩ := hr18 OM
 have h18 := h17.keep0 k18
 have B18 := B17.keep k18
 have at13 := at_mono at17 k18
 have at18 : At w18 g18 p18 [.int .i64 5, .slice y.h.a y.h.n y.h.c] := by rw [← hyd]; simpa [prC] using at18
 have at13 : At w18 g13 p13 [.int .i64 5] := by simpa [inC] using at13
 have hg13 : g13 < w18.heap.size := by have := k_w16.size; have := k17.size; have := k18.size; omega
 have hdl : (⟨[sA, sB], [3]⟩ : Ix).dead = [3] := rfl
 clear h17 B17 at17 at15 hxo hlx hr18 hp k18 k17 k_w16
 refine RT ?_
 refine KGO ?_
 refine Ya (Tryz.call14 _ _) (zhC (w := w18) (x := ⟨[sA, sB], [3]⟩) h18.v (own_rowO h18.dd) h18.eq (ztu iw_3 OM OM OM) B18.env) ?_
 rintro e w19 ⟨rfl, k19⟩
 have hlen := iw_3.len OM OM
 refine RT ?_
 refine Ya (Tryz.call12 _ _) (zpf (w := w19) (serX ⟨[sA, sB], [3]⟩) OM (B18.keep k19).env) ?_
 rw [zqV iw_3.ok OM]
 rintro e w20 ⟨⟨c, sv20, dv20, l20, rfl, hcw, h20⟩, k20⟩
 have at13 := at_mono (at_mono at13 k19) k20
 have at18 := at_mono (at_mono at18 k19) k20
 have K20 := (B18.K.trans0 k19).trans0 k20
 have z19 := k19.size
 have n13 : ¬ fpX c sv20 dv20 l20 g13 := fun e => by have := h20.fp_ge g13 e; omega
 have n18 : ¬ fpX c sv20 dv20 l20 g18 := fun e => by have := h20.fp_ge g18 e; omega
 have B20 : Bs w w20 c sv20 dv20 l20 := ⟨K20, fun q e => by have := h20.fp_ge q e; have := B18.K.size; omega, hE⟩
 clear B18 h18 k19 k20
 refine RT ?_
 refine KGO ?_
 refine Ya (Tryz.call31 _ _) (zsD (w := w20) h20 (iw_3.b OM OM) B20.env) ?_
 rintro e w21 ⟨rfl, sv21, dv21, l21, h21, M21⟩
 have at13 := zaI at13 M21.k n13
 have at18 := zaI at18 M21.k n18
 have B21 := B20.mut M21
 rw [zoO] at h21 ⊢
 dsimp only at h21 ⊢
 clear M21 B20 h20 n13 n18
 refine RT ?_
 refine KGO ?_
 refine Ya (Tryz.call39 _ _) (zsx (w := w21) h21 (by decide) (by decide)) ?_
 rintro e w22 ⟨rfl, k22⟩
 have h22 := h21.keep0 k22
 have B22 := B21.keep k22
 have at13 := at_mono at13 k22
 have at18 := at_mono at18 k22
 have q22 := Yb w22 n_
 clear h21 B21 k22
 refine RT ?_
 refine KGO ?_
 refine Ya (Tryz.call21 _ _) (zsk (w := w22) h22 (iw_4.b OM OM)) ?_
 rintro e w23 ⟨v23, rfl, o23, k23⟩
 rw [zsd] at o23
 obtain ⟨a23, c23, rfl⟩ := zab o23
 rw [show ([5] : List Int).length = 1 from rfl]
 refine RT ?_
 refine KGO ?_
 exact ⟨rfl, B22.K.trans0 k23⟩
end
section
variable {w : World}
theorem zlx {va : Value} (la : List Int) (n : Int) (ha : RowI w va la) (hl : la.length ≤ 100000000) :
  Calls Tryz.prog 20 #[va, .int .i64 n] w fun e w' => e = .returned (.bool (decide (n ∈ la))) ∧ Kp w w' n_ := by
 obtain ⟨a, ca, rfl, hra⟩ := ha
 refine zaa (args := [.slice a la.length ca, .int .i64 n]) Tryz.func20 rfl NL ?_; refine GW ?_
 refine Yc (ι := Nat) (fun i => [(0, .slice a la.length ca), (1, .int .i64 n), (5, .int .i64 (i : Nat))])
  (fun i wr => Kp w wr n_ ∧ i ≤ la.length ∧ n ∉ la.take i) (fun i => la.length - i) 0 FR ⟨Yb _ _, yal _, by simp⟩ ?_
 rintro i gg wr ⟨hK, hi, ht⟩
 refine GW ?_
 by_cases hlt : i < la.length
 ·obtain ⟨ga, oa, rfl, hga, hata⟩ := hra OM
  have ca := zaJ hata hlt
  by_cases he : la[i] = n
  ·refine KGO ?_
   exact ⟨ret_bool (decide_eq_true (he ▸ yak hlt)).symm, hK⟩
  refine KGO ?_
  exact ⟨i + 1, FR, ⟨hK, OM, by
   rw [yad hlt, yaj, yac]
   exact fun q => q.elim ht fun q => he q.symm⟩, DO⟩
 refine KGO ?_
 rw [yaz OM] at ht
 exact ⟨ret_bool (decide_eq_false ht).symm, hK⟩
end
end Go.Proofs.YtennokckmjcefaaGreatDoor
