/- Helper lemmas that the proved statement rests on; no conditions of their own. -/
import Derived.Test.YtennokckmjcefaaGreatDoorGNf0
set_option linter.unusedVariables false
set_option maxHeartbeats 4000000
set_option maxRecDepth 100000
namespace Go.Proofs.YtennokckmjcefaaGreatDoor
open Go.Shelf Go.RowKit Go.Pw Go.Vc Go.Cs Go.Lib Go.Cd Go.Mg
def gatL (q : Sgm → List Pst) (l : List Sgm) : List Pst := l.foldl (fun o s => orP o (q s)) []
theorem zqy (a b : List Pst) : (orP a b).length ≤ a.length + b.length := by
 unfold orP
 rw [List.length_map]
 exact (zaO cmpD a b).2
theorem zjm (q : Sgm → List Pst) (l : List Sgm) (s : Sgm) : gatL q (l ++ [s]) = orP (gatL q l) (q s) := by
 unfold gatL; rw [List.foldl_append]; rfl
theorem zpX (q : Sgm → List Pst) (n c : Nat) (l : List Sgm) (h : ∀ s ∈ l, (q s).length ≤ n ∧ cntP (q s) ≤ c) : ∀ i, i ≤ l.length → (gatL q (l.take i)).length ≤ i * n ∧ cntP (gatL q (l.take i)) ≤ i * c := by
 intro i
 induction i with
 | zero => intro _; exact ⟨Nat.zero_le _, by rw [List.take_zero]; exact Nat.zero_le _⟩
 | succ i ih =>
  intro hi
  obtain ⟨h1, h2⟩ := ih (by omega)
  obtain ⟨h3, h4⟩ := h l[i] (List.getElem_mem _)
  rw [List.take_succ_eq_append_getElem (by omega), zjm]
  have h5 := zqy (gatL q (l.take i)) (q l[i])
  have h6 := zem _ (gatL q (l.take i)) (q l[i]) (Nat.le_refl _)
  rw [Nat.succ_mul, Nat.succ_mul]
  omega
theorem zlZ {s : Sgm} (h : rightS s = true) (f : Int) (p : List UInt8 → Bool) : (lookS s f p).length ≤ s.docs.length := by
 obtain ⟨hr, hs⟩ := zhB s f p
 have hsub : ∀ d ∈ (lookS s f p).map (·.doc), d ∈ s.docs := fun d hd => by
  obtain ⟨z, hz⟩ := (zer hr d).1 hd
  obtain ⟨k, _, hk⟩ := (hs d z).1 hz
  refine Decidable.byContradiction fun hn => ?_
  rw [zgT h hn] at hk
  cases hk
 have := ziy (zeC.1 (zbh hr)) hsub
 rwa [List.length_map] at this
theorem zou {s : Sgm} (hb : Bd s 1000 20000 20000) (f : Int) (p : List UInt8 → Bool) : cntP (lookS s f p) ≤ 400000000 := by
 unfold lookS
 split
 ·have h1 := zgD (c := 20000) (s.terms.filter fun t => (decide (f = 0) || decide (f = t.field)) && p t.word) [] 0 (by decide) (fun t ht => (hb.x t (List.mem_filter.1 ht).1).2.2)
  have h2 : (s.terms.filter fun t => (decide (f = 0) || decide (f = t.field)) && p t.word).length ≤ 20000 := Nat.le_trans (List.length_filter_le _ _) hb.t
  have h3 := Nat.mul_le_mul_right 20000 h2
  omega
 ·exact Nat.zero_le _
theorem zmZ {l : List Pst} {c : Nat} (h : cntP l ≤ c) : ∀ p ∈ l, p.places.length ≤ c := fun p hp => by
 have := zbq l p hp
 unfold cntP at h
 omega
section
variable {w : World} {b : Nat} {sv dv : Sl} {l : List (Sv × Sgm)} {x : Ix}
theorem zkR {bx : Nat} (hv : VarK w b 84 [.slice sv.a sv.n sv.c, .slice dv.a dv.n dv.c]) {dead : List Int} (hd : RowI w dv.v dead) (ha : AscB ltI dead) (hl : dead.length ≤ 1000000) (p : Pr) (hx : VarK w bx 23 [.pointer (some ⟨b, 0, none⟩)]) : Calls Tryz.prog 127 #[.agg (prC p).toArray, .pointer (some ⟨bx, 0, none⟩)] w fun e w' => e = .returned (.bool (decide (p.p.doc ∈ dead))) ∧ Kp w w' n_ := by
 have hxa := hx.at
 refine zaa (args := [.agg (prC p).toArray, .pointer (some ⟨bx, 0, none⟩)]) Tryz.func127 rfl NL ?_; refine GW ?_
 obtain ⟨a_b3, v_b3, k_w1, z_w1, r_w1⟩ := new5 w 44 (prC p)
 generalize w.alloc (.cells (List.toArray (prC p)) 44) = w1 at *
 generalize hs_b3 : w.heap.size = b3 at *
 have a3 : At w1 b3 0 [.int .i64 p.p.doc, .slice p.h.a p.h.n p.h.c] := a_b3
 refine KGO ?_
 refine CallS.of (Tryz.call78 _ _) (znw (w := w1) (hv.keep0 k_w1) (hd.keep k_w1) ha hl p.p.doc) ?_
 rintro e w2 ⟨rfl, k2⟩
 refine RT ?_
 refine KGO ?_
 exact ⟨rfl, k_w1.trans0 k2⟩
theorem zlK {g : Nat} {c0 c1 : Value} (q : Sgm → List Pst) (h : IxM w b sv dv l x) (hb : IxB x) (hg : ∀ (args : Array Value) (w : World), (callFunc g args).run Tryz.prog w = .ok (.enter g args) w)
  (hone : ∀ p ∈ l, ∀ u, Kp w u n_ → Calls Tryz.prog g #[.agg (sgP p).toArray, c0, c1] u fun e u' => ∃ v, e = .returned v ∧ OwnP u' u.heap.size v (q p.2) ∧ Kp u u' n_)
  (hq : ∀ s ∈ x.segs, (q s).length ≤ 1000 ∧ cntP (q s) ≤ 400000000) :
  Calls Tryz.prog 76 #[.pointer (some ⟨b, 0, none⟩), .func (.func g) #[] #[c0, c1]] w fun e w' => ∃ v, e = .returned v ∧ OwnP w' w.heap.size v (liveP x.dead (gatL q x.segs)) ∧ Kp w w' n_ := by
 have hll : l.length = x.segs.length := by rw [← h.eq, List.length_map]
 have hn := hb.n
 have hgl := zpX q 1000 400000000 x.segs hq
 obtain ⟨a0, c0', es, hrs⟩ := zaw h.sg
 obtain ⟨sa, sn, sc⟩ := sv
 injection es with e1 e2 e3
 dsimp only at e1 e2 e3
 subst e1 e2 e3
 refine zaa (args := [.pointer (some ⟨b, 0, none⟩), .func (.func g) #[] #[c0, c1]]) Tryz.func76 rfl NL ?_; refine GW ?_
 obtain ⟨a_b2, v_b2, k_w1, z_w1, r_w1⟩ := new5 w 23 ([.pointer (some ⟨b, 0, none⟩)])
 generalize w.alloc (.cells (List.toArray ([.pointer (some ⟨b, 0, none⟩)])) 23) = w1 at *
 generalize hs_b2 : w.heap.size = b2 at *
 have h1 := h.keep0 k_w1
 have ha := h1.var.at
 dsimp only at ha
 refine KGO ?_
 refine Loop.intro (ι := Nat × Value) (fun i => [(1, .func (.func g) #[] #[c0, c1]), (2, .pointer (some ⟨b2, 0, none⟩)), (5, i.2), (11, .slice sa l.length sc), (12, .int .i64 (l.length : Nat)), (13, .int .i64 (i.1 : Nat))])
  (fun i wr => Kp w1 wr n_ ∧ i.1 ≤ l.length ∧ OwnP wr w1.heap.size i.2 (gatL q (x.segs.take i.1))) (fun i => l.length - i.1) (0, .slice none 0 0) ⟨rfl, rfl, rfl, rfl, rfl, rfl, trivial⟩ ⟨Kp.refl _ _, Nat.zero_le _, by rw [List.take_zero]; exact zbp _ _⟩ ?_
 rintro ⟨i, vo⟩ gg wr ⟨hK, hi, ho⟩
 dsimp only at hi ho ⊢
 obtain ⟨hl1, hl2⟩ := hgl i (by omega)
 obtain ⟨ao, co, rfl⟩ := ho.shape
 have z0 := hK.size
 refine GW ?_
 by_cases hlt : i < l.length
 ·obtain ⟨gb, o, rfl, hgb, hat⟩ := hrs (by omega)
  have hat := zam hat k_w1
  have e1 : x.segs.take (i + 1) = x.segs.take i ++ [l[i].2] := by
   rw [List.take_succ_eq_append_getElem (by omega)]; simp only [← h.eq, List.getElem_map]
  obtain ⟨hq1, hq2⟩ := hq l[i].2 (by rw [← h.eq]; exact List.mem_map_of_mem (List.getElem_mem hlt))
  have h1i := hone l[i] (List.getElem_mem hlt)
  have hst : gatL q (x.segs.take (i + 1)) = orP (gatL q (x.segs.take i)) (q l[i].2) := by rw [e1, zjm]
  have hi1 : i * 1000 ≤ 1000 * 1000 := Nat.mul_le_mul_right _ (by omega)
  have hi2 : i * 400000000 ≤ 1000 * 400000000 := Nat.mul_le_mul_right _ (by omega)
  have hc1 : ∀ p ∈ gatL q (x.segs.take i), p.places.length ≤ 1000000000000 := fun p hp => by have := zmZ hl2 p hp; omega
  have hc2 : ∀ p ∈ q l[i].2, p.places.length ≤ 1000000000000 := fun p hp => by have := zmZ hq2 p hp; omega
  generalize gatL q (x.segs.take i) = OUT at *
  refine KGO ?_
  refine Store.fresh (vs := sgP l[i]) (by rfl) rfl (zax (by rfl)) ?_
  obtain ⟨a_b7, k_w3, z_w3⟩ := new3 wr 65 (sgP l[i])
  generalize wr.alloc (.cells (List.toArray (sgP l[i])) 65) = w3 at *
  generalize hs_b7 : wr.heap.size = b7 at *
  have K3 := hK.trans0 k_w3
  have o3 := ho.keep k_w3
  clear hat ho e1
  generalize l[i] = p at *
  refine KGO ?_
  refine CallS.of (hg _ _) (h1i w3 (k_w1.trans0 K3)) ?_
  rintro e w4 ⟨v4, rfl, o4, k4⟩
  have K4 := K3.trans0 k4
  obtain ⟨a4, c4, rfl⟩ := o4.shape
  refine RT ?_
  refine KGO ?_
  refine CallS.of (Tryz.call125 _ _) (po_Or (w := w4) OUT (q p.2) (o3.keep k4).row o4.row (by omega) (by omega) hc1 hc2) ?_
  rintro e w5 ⟨v5, rfl, o5, k5⟩
  obtain ⟨a5, c5, rfl⟩ := o5.shape
  refine RT ?_
  refine KGO ?_
  exact ⟨(i + 1, _), ⟨rfl, rfl, rfl, rfl, rfl, v_int (by simp), trivial⟩, ⟨K4.trans0 k5, by dsimp only; omega, by dsimp only; rw [hst]; exact o5.base (by have := K4.size; omega)⟩, by dsimp only; omega⟩
 obtain rfl : i = l.length := by omega
 rw [List.take_of_length_le (by omega)] at ho hl1 ⊢
 have hr := h1.keep0 hK
 obtain ⟨lx, hlx, hxo⟩ := ho
 have hlxl : lx.length = (gatL q x.segs).length := by rw [← hlx, List.length_map]
 have hfl : (lx.filter fun y => !decide (y.p.doc ∈ x.dead)).map (·.p) = liveP x.dead (gatL q x.segs) := by
  rw [← hlx]; unfold liveP; rw [List.filter_map]; rfl
 have hi1 : l.length * 1000 ≤ 1000 * 1000 := Nat.mul_le_mul_right _ (by omega)
 have hdd := hb.d
 generalize hGL : gatL q x.segs = GL at *
 have hob : ∀ q, (Value.slice ao GL.length co).ownBlock = some q → w1.heap.size ≤ q := fun q e => (hxo.row.lt q e).1
 have v2 := v_b2.keep0 hK
 refine KGO ?_
 refine CallS.of (Tryz.call126 _ _) (zpf (w := wr) lx 127 (.pointer (some ⟨b2, 0, none⟩)) (fun y => decide (y.p.doc ∈ x.dead)) hxo.row (by omega) Tryz.call127 (fun y hy u k => zkR (w := u) (hr.var.keep k (fun e => by have := hob b e; have := h.var.lt; omega)) (zaw (zaj hr.dd k (fun q e e' => by have := hob q e'; have := (h.dd.lt q e).2; omega))) hb.ok.da (by omega) y (v2.keep k (fun e => by have := hob b2 e; omega)))) ?_
 rintro e w4 ⟨v4, rfl, o4, k4, _⟩
 obtain ⟨a4, c4, rfl⟩ := zab o4
 refine RT ?_
 refine KGO ?_
 refine ⟨_, rfl, ⟨_, hfl, zaz o4 (by omega), fun y hy => zaz (zag (D := [3]) (hxo.pl y (List.mem_filter.1 hy).1) k4 (zaT hxo.row (by decide)) (by decide)) (by omega)⟩, zaU hxo.row k4 (k_w1.trans0 hK) (by omega)⟩
theorem znS {bf bw : Nat} (field : Int) (wd : List UInt8) (hf : VarK w bf 3 [.int .i64 field]) (hw : VarK w bw 9 [.string (str wd)]) (q : Sv × Sgm) (hr : RdS w q.1 q.2) (hb : Bd q.2 1000 20000 20000) (hE : CEnv w) : Calls Tryz.prog 77 #[.agg (sgP q).toArray, .pointer (some ⟨bf, 0, none⟩), .pointer (some ⟨bw, 0, none⟩)] w fun e w' => ∃ v, e = .returned v ∧ OwnP w' w.heap.size v (lookS q.2 field (eqW wd)) ∧ Kp w w' n_ := by
 have hfa := hf.at
 have hwa := hw.at
 refine zaa (args := [.agg (sgP q).toArray, .pointer (some ⟨bf, 0, none⟩), .pointer (some ⟨bw, 0, none⟩)]) Tryz.func77 rfl NL ?_; refine GW ?_
 obtain ⟨a_b3, v_b3, k_w1, z_w1, r_w1⟩ := new5 w 65 (sgC q.1)
 generalize w.alloc (.cells (List.toArray (sgC q.1)) 65) = w1 at *
 generalize hs_b3 : w.heap.size = b3 at *
 refine KGO ?_
 refine CallS.of (Tryz.call43 _ _) (zqL (w := w1) q.1 q.2 field wd (hr.keep k_w1) (hb.mono (by omega) (by omega) (by omega)) (hE.keep k_w1)) ?_
 rintro e w2 ⟨v2, rfl, o2, k2⟩
 obtain ⟨a2, c2, rfl⟩ := o2.shape
 refine RT ?_
 refine KGO ?_
 exact ⟨_, rfl, o2.base (by omega), k_w1.trans0 k2⟩
theorem ziv (h : IxM w b sv dv l x) (hb : IxB x) (hE : CEnv w) (field : Int) (wd : List UInt8) : Calls Tryz.prog 19 #[.pointer (some ⟨b, 0, none⟩), .int .i64 field, .string (str wd)] w fun e w' => ∃ v, e = .returned v ∧ OwnP w' w.heap.size v (lookX x field (eqW wd)) ∧ Kp w w' n_ := by
 refine zaa (args := [.pointer (some ⟨b, 0, none⟩), .int .i64 field, .string (str wd)]) Tryz.func19 rfl NL ?_; refine GW ?_
 obtain ⟨a_b4, v_b4, k_w1, z_w1, r_w1⟩ := new5 w 3 ([.int .i64 field])
 generalize w.alloc (.cells (List.toArray ([.int .i64 field])) 3) = w1 at *
 generalize hs_b4 : w.heap.size = b4 at *
 obtain ⟨a_b5, v_b5, k_w2, z_w2, r_w2⟩ := new5 w1 9 ([.string (str wd)])
 generalize w1.alloc (.cells (List.toArray ([.string (str wd)])) 9) = w2 at *
 generalize hs_b5 : w1.heap.size = b5 at *
 have K2 := k_w1.trans0 k_w2
 have v4 := v_b4.keep0 k_w2
 refine KGO ?_
 refine CallS.of (Tryz.call76 _ _) (zlK (w := w2) (fun s => lookS s field (eqW wd)) (h.keep0 K2) hb Tryz.call77 (fun p hp u k => znS (w := u) field wd (v4.keep0 k) (v_b5.keep0 k) p ((h.rd hp).keep (K2.trans0 k)) (hb.b p.2 (by rw [← h.eq]; exact List.mem_map_of_mem hp)) (hE.keep (K2.trans0 k))) (fun s hs => ⟨Nat.le_trans (zlZ (hb.ok.rt s hs) _ _) (hb.b s hs).d, zou (hb.b s hs) _ _⟩)) ?_
 rintro e w3 ⟨v3, rfl, o3, k3⟩
 obtain ⟨a3, c3, rfl⟩ := o3.shape
 refine RT ?_
 refine KGO ?_
 exact ⟨_, rfl, o3.base (by omega), K2.trans0 k3⟩
end
theorem znb (a : List Pst) (gap : Int) (b : List Pst) : (nextP a b gap).length ≤ b.length := List.length_filterMap_le _ _
theorem zoJ {a b : List Pst} {gap : Int} {c : Nat} (h : ∀ p ∈ b, p.places.length ≤ c) : ∀ p ∈ nextP a b gap, p.places.length ≤ c := fun p hp => by
 unfold nextP at hp
 obtain ⟨y, hy, e⟩ := List.mem_filterMap.1 hp
 unfold nextO at e
 split at e
 ·cases e
 ·injection e with e
  subst e
  exact Nat.le_trans (List.length_filter_le _ _) (h y hy)
def phF (x : Ix) (f : Int) (w0 : List UInt8) (ws : List (List UInt8)) : List Pst := ws.foldl (fun l v => nextP l (lookX x f (eqW v)) 1) (lookX x f (eqW w0))
theorem zka (x : Ix) (f : Int) (w0 v : List UInt8) (ws : List (List UInt8)) : phF x f w0 (ws ++ [v]) = nextP (phF x f w0 ws) (lookX x f (eqW v)) 1 := by
 unfold phF; rw [List.foldl_append]; rfl
def LookB (x : Ix) : Prop := ∀ f q, (lookX x f q).length ≤ 1000000 ∧ ∀ p ∈ lookX x f q, p.places.length ≤ 100000000000
theorem phF_b {x : Ix} (hl : LookB x) (f : Int) (w0 : List UInt8) (ws : List (List UInt8)) : rightP (phF x f w0 ws) = true ∧ (phF x f w0 ws).length ≤ 1000000 ∧ ∀ p ∈ phF x f w0 ws, p.places.length ≤ 100000000000 := by
 have key : ∀ (n : Nat) (ws : List (List UInt8)), ws.length = n → rightP (phF x f w0 ws) = true ∧ (phF x f w0 ws).length ≤ 1000000 ∧ ∀ p ∈ phF x f w0 ws, p.places.length ≤ 100000000000 := by
  intro n
  induction n with
  | zero =>
   intro ws h
   obtain rfl := List.eq_nil_of_length_eq_zero h
   exact ⟨(zbl x f (eqW w0)).1, (hl f _).1, (hl f _).2⟩
  | succ n ih =>
   intro ws h
   obtain ⟨vs, v, rfl⟩ : ∃ vs v, ws = vs ++ [v] := ⟨ws.dropLast, ws.getLast (by intro e; rw [e] at h; simp at h), (List.dropLast_concat_getLast _).symm⟩
   obtain ⟨h1, h2, h3⟩ := ih vs (by simpa using h)
   rw [zka]
   exact ⟨(zhd _ 1 _ (zbl x f (eqW v)).1).1, Nat.le_trans (znb _ _ _) (hl f _).1, zoJ (hl f _).2⟩
 exact key _ ws rfl
def phD (x : Ix) (field : Int) (ws : List (List UInt8)) (i : Nat) : List Int := (([1, 2, 3, 4, 5] : List Int).take (i - 1)).flatMap fun f => if field ≠ 0 ∧ f ≠ field then [] else (phraseL x f ws).map (·.doc)
theorem zoQ (x : Ix) (field : Int) (ws : List (List UInt8)) (i : Nat) (h0 : 0 < i) (h6 : i < 6) : phD x field ws (i + 1) = phD x field ws i ++ if field ≠ 0 ∧ (i : Int) ≠ field then [] else (phraseL x (i : Nat) ws).map (·.doc) := by
 have e : (([1, 2, 3, 4, 5] : List Int).take (i + 1 - 1)) = ([1, 2, 3, 4, 5] : List Int).take (i - 1) ++ [(i : Int)] := by
  match i, h0, h6 with
  | 1, _, _ => rfl
  | 2, _, _ => rfl
  | 3, _, _ => rfl
  | 4, _, _ => rfl
  | 5, _, _ => rfl
 unfold phD
 rw [e, List.flatMap_append]
 simp
theorem zpC (x : Ix) (hl : LookB x) (field : Int) (w0 : List UInt8) (ws : List (List UInt8)) (i : Nat) : (phD x field (w0 :: ws) i).length ≤ 5000000 := by
 unfold phD
 have h : ∀ f : Int, (if field ≠ 0 ∧ f ≠ field then [] else (phraseL x f (w0 :: ws)).map (·.doc)).length ≤ 1000000 := fun f => by
  split
  ·exact Nat.zero_le _
  ·rw [List.length_map]; exact (phF_b hl f w0 ws).2.1
 have key : ∀ l : List Int, (l.flatMap fun f => if field ≠ 0 ∧ f ≠ field then [] else (phraseL x f (w0 :: ws)).map (·.doc)).length ≤ l.length * 1000000 := fun l => by
  induction l with
  | nil => exact Nat.zero_le _
  | cons f l ih => have := h f; rw [List.flatMap_cons, List.length_append, List.length_cons]; omega
 have h1 := key (([1, 2, 3, 4, 5] : List Int).take (i - 1))
 have h2 : (([1, 2, 3, 4, 5] : List Int).take (i - 1)).length ≤ 5 := by rw [List.length_take]; exact Nat.min_le_right _ _
 omega
section
variable {w : World} {b : Nat} {sv dv : Sl} {l : List (Sv × Sgm)} {x : Ix}
theorem znz {v : Value} (h : IxM w b sv dv l x) (hb : IxB x) (hE : CEnv w) (hl : LookB x) (field : Int) (ws : List (List UInt8)) (hw : RowO w v txC ws) (hcap : CapK v) (hwl : ws.length ≤ 1000000) : Calls Tryz.prog 37 #[.pointer (some ⟨b, 0, none⟩), .int .i64 field, v] w fun e w' => ∃ v', e = .returned v' ∧ OwnI w' w.heap.size v' (phraseX x field ws) ∧ Kp w w' n_ := by
 obtain ⟨wa, wc, rfl, hrw⟩ := hw
 have hwc := hcap _ _ _ rfl
 have qw := Kp.refl w n_
 cases ws with
 | nil =>
  rw [List.length_nil] at *
  refine zaa (args := [.pointer (some ⟨b, 0, none⟩), .int .i64 field, .slice wa 0 wc]) Tryz.func37 rfl NL ?_; refine GW ?_
  refine KGO ?_
  exact ⟨_, rfl, World.ownsRow_nil _ _ _ _, qw⟩
 | cons w0 rest =>
 obtain ⟨gw, ow, rfl, hgw, hatw⟩ := hrw (by simp)
 have rt := zay (c := txC) (s := 1) (cp := wc) (fun _ => rfl) hatw hgw (by simpa using hwc)
 have hat0 : At w gw ow (txC w0) := zbr hatw
 have hc0 := hat0 0 _ rfl
 have hdl := zpC x hl field w0 rest
 rw [List.length_cons] at *
 refine zaa (args := [.pointer (some ⟨b, 0, none⟩), .int .i64 field, .slice (some ⟨gw, ow, none⟩) (rest.length + 1) wc]) Tryz.func37 rfl NL ?_; refine GW ?_
 refine KGO ?_
 refine Loop.intro (ι := Nat × Sl) (fun q => [(0, .pointer (some ⟨b, 0, none⟩)), (1, .int .i64 field), (2, .slice (some ⟨gw, ow, none⟩) (rest.length + 1) wc), (7, .slice q.2.a q.2.n q.2.c), (15, .int .i64 (q.1 : Nat))])
  (fun q wr => Kp w wr n_ ∧ q.1 ≤ 6 ∧ OwnI wr w.heap.size q.2.v (phD x field (w0 :: rest) q.1)) (fun q => 6 - q.1) (0, ⟨none, 0, 0⟩) ⟨rfl, rfl, rfl, rfl, rfl, trivial⟩ ⟨qw, Nat.zero_le _, World.ownsRow_nil _ _ _ _⟩ ?_
 rintro ⟨i, so⟩ gg wr ⟨hK, hi, ho⟩
 dsimp only at hi ho ⊢
 have hdi := hdl i
 refine GW ?_
 by_cases hlt : i < 6
 ·by_cases h0 : i = 0
  ·subst h0
   refine KGO ?_
   exact ⟨(1, so), ⟨rfl, rfl, rfl, rfl, v_int (by simp), trivial⟩, ⟨hK, by dsimp only; omega, ho⟩, by dsimp only; omega⟩
  have hst := zoQ x field (w0 :: rest) i (by omega) hlt
  by_cases hsk : field ≠ 0 ∧ (i : Int) ≠ field
  ·rw [if_pos hsk, List.append_nil] at hst
   obtain ⟨hs1, hs2⟩ := hsk
   refine KGO ?_
   exact ⟨(i + 1, so), ⟨rfl, rfl, rfl, rfl, v_int (by simp), trivial⟩, ⟨hK, by dsimp only; omega, by dsimp only; rw [hst]; exact ho⟩, by dsimp only; omega⟩
  rw [if_neg hsk] at hst
  have hlast : field = 0 ∨ (i : Int) = field := by
   by_cases hf : field = 0
   ·exact .inl hf
   ·exact .inr (Decidable.byContradiction fun e => hsk ⟨hf, e⟩)
  clear hsk
  have hcw : wr.cell? ⟨gw, ow, none⟩ = some (.string (str w0)) := zaK (by simpa using hc0) hK
  rcases hlast with hf | hf
  all_goals
   refine KGO ?_
   refine CallS.of (Tryz.call19 _ _) (ziv (w := wr) (h.keep0 hK) hb (hE.keep hK) (i : Nat) w0) ?_
   rintro e w2 ⟨v2, rfl, o2, k2⟩
   obtain ⟨va2, vc2, rfl⟩ := o2.shape
   have K2 := hK.trans0 k2
   have z2 := hK.size
   have ho2 := zac ho k2
   obtain ⟨aj, cj, ej⟩ := zab ho2
   obtain ⟨ja, jn, jc⟩ := so
   injection ej with e1 e2 e3
   dsimp only at e1 e2 e3
   subst e1 e2 e3
   clear ho
   refine RT ?_
   refine Cut.from (l := 1) (by omega) (by omega) ?_
   refine GW ?_
   refine KGO ?_
   refine Loop.intro (ι := Nat × Value × Value) (fun q => [(0, .pointer (some ⟨b, 0, none⟩)), (1, .int .i64 field), (2, .slice (some ⟨gw, ow, none⟩) (rest.length + 1) wc), (7, .slice ja (phD x field (w0 :: rest) i).length jc), (8, .int .i64 (i : Nat)), (9, q.2.1), (15, .int .i64 (i : Nat)), (36, q.2.2), (37, .int .i64 (rest.length : Nat)), (38, .int .i64 (q.1 : Nat))])
    (fun q wk => Kp w wk n_ ∧ q.1 ≤ rest.length ∧ OwnP wk w.heap.size q.2.1 (phF x (i : Nat) w0 (rest.take q.1)) ∧ OwnI wk w.heap.size (.slice ja (phD x field (w0 :: rest) i).length jc) (phD x field (w0 :: rest) i) ∧ RowO w q.2.2 txC rest) (fun q => rest.length - q.1) (0, _, _) ⟨rfl, rfl, rfl, rfl, rfl, rfl, rfl, rfl, v_int (by simp), rfl, trivial⟩ ⟨K2, Nat.zero_le _, o2.base (by omega), ho2, rt⟩ ?_
   clear ho2 o2 K2 k2
   rintro ⟨j, vl, vt⟩ gj wk ⟨hKk, hj, hol, ho, hrt⟩
   dsimp only at hj hol ho hrt ⊢
   obtain ⟨vla, vlc, rfl⟩ := hol.shape
   obtain ⟨ta, tc, rfl, hrt⟩ := hrt
   obtain ⟨hp1, hp2, hp3⟩ := phF_b hl (i : Nat) w0 (rest.take j)
   refine GW ?_
   by_cases hjt : j < rest.length
   ·obtain ⟨gt, ot, rfl, hgt, hatt⟩ := hrt (by omega)
    have chj : wk.cell? ⟨gt, ot + j, none⟩ = some (.string (str rest[j])) := by
     have := zfe (zam hatt hKk) (n := 1) (fun _ => rfl) (i := j) hjt 0 _ rfl
     simpa using this
    have hps : phF x (i : Nat) w0 (rest.take (j + 1)) = nextP (phF x (i : Nat) w0 (rest.take j)) (lookX x (i : Nat) (eqW rest[j])) 1 := by rw [List.take_succ_eq_append_getElem hjt, zka]
    obtain ⟨hl1, hl2⟩ := hl (i : Nat) (eqW rest[j])
    have hlr := (zbl x (i : Nat) (eqW rest[j])).1
    refine KGO ?_
    refine CallS.of (Tryz.call19 _ _) (ziv (w := wk) (h.keep0 hKk) hb (hE.keep hKk) (i : Nat) rest[j]) ?_
    rintro e w3 ⟨v3, rfl, o3, k3⟩
    obtain ⟨va3, vc3, rfl⟩ := o3.shape
    have K3 := hKk.trans0 k3
    refine RT ?_
    refine CallS.of (Tryz.call104 _ _) (zqF (w := w3) (phF x (i : Nat) w0 (rest.take j)) (lookX x (i : Nat) (eqW rest[j])) 1 (hol.keep k3).row o3.row hp1 hlr (by omega) (by omega) hp3 hl2 (by omega)) ?_
    rintro e w4 ⟨v4, rfl, o4, k4⟩
    obtain ⟨va4, vc4, rfl⟩ := o4.shape
    have z3 := K3.size
    refine RT ?_
    refine KGO ?_
    exact ⟨(j + 1, _, _), ⟨rfl, rfl, rfl, rfl, rfl, rfl, rfl, rfl, rfl, v_int (by simp), trivial⟩, ⟨K3.trans0 k4, by dsimp only; omega, by dsimp only; rw [hps]; exact o4.base (by omega), zac (zac ho k3) k4, ⟨_, _, rfl, hrt⟩⟩, by dsimp only; omega⟩
   obtain rfl : j = rest.length := by omega
   rw [List.take_length] at hol hp1 hp2 hp3 ⊢
   have hpd : phraseL x (i : Nat) (w0 :: rest) = phF x (i : Nat) w0 rest := rfl
   rw [hpd] at hst
   obtain ⟨lx, hlx, hxo⟩ := hol
   have hlxl := congrArg List.length hlx
   rw [List.length_map] at hlxl
   have hdm : lx.map (·.p.doc) = (phF x (i : Nat) w0 rest).map (·.doc) := by rw [← hlx, List.map_map]; rfl
   refine KGO ?_
   refine CallS.of (Tryz.call105 _ _) (zlG (w := wk) lx hxo.rd (by omega)) ?_
   rintro e w3 ⟨v3, rfl, o3, k3⟩
   rw [hdm] at o3
   obtain ⟨a3, c3, rfl⟩ := zab o3
   have hdl3 : ((phF x (i : Nat) w0 rest).map (·.doc)).length ≤ 1000000 := by rw [List.length_map]; exact hp2
   generalize (phF x (i : Nat) w0 rest).map (·.doc) = DD at *
   generalize phD x field (w0 :: rest) i = PD at *
   have K3 := hKk.trans0 k3
   have z3 := K3.size
   have ho3 := zac ho k3
   refine RT ?_
   refine KGO ?_
   refine tyI.app DD ho3 (by omega) rfl (fun h => ?_) (by omega) (by omega) fun v5 w5 o5 k5 => ?_
   ·obtain ⟨_, _, e3, hr3⟩ := zaw o3
    injection e3 with e3 _ e4
    subst e3
    obtain ⟨g3, p3, eg, _, hat3⟩ := hr3 h
    exact ⟨g3, p3, eg, hat3⟩
   have K5 := zaU ho3 k5 K3 (Nat.le_refl _)
   obtain ⟨a5, c5, rfl⟩ := zab o5
   refine KGO ?_
   exact ⟨(i + 1, ⟨a5, _, c5⟩), ⟨rfl, rfl, rfl, rfl, v_int (by simp), trivial⟩, ⟨K5, by dsimp only; omega, by dsimp only; rw [hst]; exact o5⟩, by dsimp only; omega⟩
 obtain rfl : i = 6 := by omega
 have hph : phraseX x field (w0 :: rest) = sortI (phD x field (w0 :: rest) 6) := rfl
 rw [hph, ← zfl]
 generalize phD x field (w0 :: rest) 6 = PD at *
 obtain ⟨aj, cj, ej⟩ := zab ho
 obtain ⟨ja, jn, jc⟩ := so
 injection ej with e1 e2 e3
 dsimp only at e1 e2 e3
 subst e1 e2 e3
 refine KGO ?_
 refine CallS.of (Tryz.call79 _ _) (srt_I (w := wr) _ ho (by omega)) ?_
 rintro e w2 ⟨rfl, o2, k2⟩
 have K2 := zaU ho k2 hK (Nat.le_refl _)
 have hml : (PD.mergeSort fun x y => decide (x ≤ y)).length = PD.length := List.length_mergeSort _
 generalize (PD.mergeSort fun x y => decide (x ≤ y)) = PS at *
 have hps : PS.length ≤ 5000000 := by omega
 dsimp only at o2
 rw [← hml] at o2 ⊢
 refine RT ?_
 refine KGO ?_
 refine CallS.of (Tryz.call106 _ _) (cmp_I (w := w2) PS o2 (by omega)) ?_
 rintro e w3 ⟨v3, rfl, o3, k3, _⟩
 have K3 := zaU o2 k3 K2 (Nat.le_refl _)
 obtain ⟨a3, c3, rfl⟩ := zab o3
 refine RT ?_
 refine KGO ?_
 exact ⟨_, rfl, o3, K3⟩
end
section
variable {w : World}
theorem znW {x : Ix} {N Q Z : Nat} (h : Iw x N Q Z) (hN : N ≤ 1000) : LookB x := fun f q => by
 obtain ⟨h1, h2⟩ := zhR h.ok h.wt f q
 exact ⟨by omega, fun p hp => by have := h2 p hp; omega⟩
end
theorem zpV (w : List UInt8) (l : List Wd3) : hits [w] l = (l.map (·.1)).count w := by
 unfold hits
 induction l with
 | nil => rfl
 | cons x l ih =>
  rw [List.map_cons, List.count_cons, ← ih, List.filter_cons]
  by_cases h : x.1 = w
  ·simp [h]
  ·simp [h]
theorem zqM {tx : List (List UInt8)} (ht : ∀ t ∈ tx, t.length ≤ 1000000000) : (addX emptyX 1 tx).1 = 0 ∧ RunOk ((addX emptyX 1 tx).2, [(1, tx)]) :=
 zpJ zmX ht (by omega) fun e he => by cases he
theorem zlL {x : Ix} {tx : List (List UInt8)} (h : RunOk (x, [(1, tx)])) (f : Int) (w : List UInt8) (d : Int) : pX x (f, w) d = if d = 1 ∧ 1 ≤ f ∧ f ≤ 5 then posF w 0 (wordsOf (tx.getD f.toNat [])) else [] := by
 rw [h.pl]
 have e : entsL [((1 : Int), tx)] = entsX 1 tx := by unfold entsL; simp
 dsimp only
 rw [e, zli]
theorem zov {x : Ix} {tx : List (List UInt8)} (h : RunOk (x, [(1, tx)])) {f : Int} (hf : 1 ≤ f ∧ f ≤ 5) (w : List UInt8) (hl : (wordsOf (tx.getD f.toNat [])).length ≤ 1000000) :
  lookX x f (eqW w) = if posF w 0 (wordsOf (tx.getD f.toNat [])) = [] then [] else [⟨1, posF w 0 (wordsOf (tx.getD f.toNat []))⟩] := by
 obtain ⟨r1, s1⟩ := zbl x f (eqW w)
 have hge := zfA w 0 (wordsOf (tx.getD f.toNat []))
 have has := zeE w 0 (wordsOf (tx.getD f.toNat []))
 have hp := fun d => zlL h f w d
 generalize posF w 0 (wordsOf (tx.getD f.toNat [])) = F at *
 have r2 : rightP (if F = [] then [] else [⟨1, F⟩]) = true := by
  by_cases h0 : F = []
  ·rw [if_pos h0]; rfl
  ·rw [if_neg h0]
   refine zas.2 ⟨List.pairwise_singleton _ _, fun p hp => ?_⟩
   rw [List.mem_singleton.1 hp]
   exact ⟨Int.le_refl 1, (by decide : (1 : Int) ≤ 1099511627776), h0, has, fun n hn => by have := hge n hn; omega⟩
 refine zhl r1 r2 fun d => zdb stoI _ _ (zdT r1 d).1 (zdT r2 d).1 fun z => ?_
 rw [zfu (by omega) w d z, hp d]
 by_cases h0 : F = []
 ·rw [if_pos h0, h0]
  constructor
  ·intro hz; split at hz <;> cases hz
  ·intro hz; cases hz
 ·rw [if_neg h0, zaJ]
  by_cases hd : d = 1
  ·subst hd
   rw [if_pos ⟨rfl, hf⟩, if_pos rfl]
  ·rw [if_neg fun e => hd e.1, if_neg fun e => hd e.symm]
   constructor
   ·intro hz; cases hz
   ·intro hz; cases hz
theorem zkB {x : Ix} {tx : List (List UInt8)} (h : RunOk (x, [(1, tx)])) {f : Int} (hf : 1 ≤ f ∧ f ≤ 5) (w : List UInt8) (hl : (wordsOf (tx.getD f.toNat [])).length ≤ 1000000) :
  ((lookX x f (eqW w)).map fun p => p.places.length).sum = (wordsOf (tx.getD f.toNat [])).count w := by
 rw [zov h hf w hl, ← zcg w 0]
 split
 ·rename_i h0; rw [h0]; rfl
 ·simp
theorem zkX {x : Ix} {tx : List (List UInt8)} (h : RunOk (x, [(1, tx)])) {f : Int} (hf : 1 ≤ f ∧ f ≤ 5) (w : List UInt8) (hn : ∀ g : Int, 1 ≤ g ∧ g ≤ 5 → g ≠ f → wordsOf (tx.getD g.toNat []) = []) :
  (phraseX x 0 [w]).length = if 0 < (wordsOf (tx.getD f.toNat [])).count w then 1 else 0 := by
 have hsp := zhm x 0 (ws := [w]) (by simp)
 have has := ziH x 0 [w]
 have hmem : ∀ d, d ∈ phraseX x 0 [w] ↔ d = 1 ∧ 0 < (wordsOf (tx.getD f.toNat [])).count w := fun d => by
  rw [hsp d]
  constructor
  ·rintro ⟨g, hg, _, z, hz⟩
   have h1 := hz 0 (by simp)
   rw [List.getElem_cons_zero, zlL h] at h1
   split at h1
   ·rename_i h2
    refine ⟨h2.1, ?_⟩
    by_cases hgf : g = f
    ·subst hgf
     rw [← zcg w 0]
     exact List.length_pos_of_mem h1
    ·rw [hn g hg hgf] at h1
     cases h1
   ·cases h1
  ·rintro ⟨rfl, hc⟩
   rw [← zcg w 0] at hc
   obtain ⟨z, hz⟩ := List.exists_mem_of_length_pos hc
   refine ⟨f, hf, .inl rfl, z, fun i hi => ?_⟩
   have : i = 0 := by simpa using hi
   subst this
   rw [List.getElem_cons_zero, zlL h, if_pos ⟨rfl, hf⟩]
   simpa using hz
 generalize phraseX x 0 [w] = P at *
 split
 ·rename_i hc
  have : P = [1] := zdb stoI _ _ has (List.pairwise_singleton _ _) fun z => by rw [hmem z, List.mem_singleton]; exact ⟨fun h => h.1, fun h => ⟨h, hc⟩⟩
  rw [this]; rfl
 ·rename_i hc
  cases P with
  | nil => rfl
  | cons a l => exact absurd ((hmem a).1 List.mem_cons_self).2 hc
end Go.Proofs.YtennokckmjcefaaGreatDoor
namespace Go.Vc
open Go Go.Pw Go.RowKit
section
variable {P : Program} {w : World} {b : Nat} {m : SM} {t kt et : TypeId} {K : Value → World → Prop}
theorem SMap.keep {w' : World} {c : Nat → Prop} (h : SMap w b m) (k : Kp w w' c) (hc : ¬ c b) : SMap w' b m := by
 obtain ⟨es, cl, hb, he⟩ := h
 have hlt : b < w.heap.size := by
  rcases Nat.lt_or_ge b w.heap.size with h' | h'
  ·exact h'
  ·rw [Array.getElem?_eq_none h'] at hb; cases hb
 exact ⟨es, cl, (k.block b hlt hc).trans hb, he⟩
theorem SMap.lt (h : SMap w b m) : b < w.heap.size := by
 obtain ⟨es, cl, hb, he⟩ := h
 rcases Nat.lt_or_ge b w.heap.size with h' | h'
 ·exact h'
 ·rw [Array.getElem?_eq_none h'] at hb; cases hb
theorem SMap.new (w : World) : SMap (w.alloc (.map #[] 0)) w.heap.size [] := ⟨#[], 0, heap_alloc_new w _, rfl⟩
theorem RunV.newMap {r : Option Value} (hr : r = none) (k : K (.map (some w.heap.size)) (w.alloc (.map #[] 0))) : RunV P (Instr.makeMap t r) w K := by
 subst hr
 exact RunV.of (by simp [Instr.makeMap]) k
theorem RunN.mapLen {ty : TypeId} {cs : Array Bool} (ht : P.underlying t = some (.map kt et)) (h : SMap w b m) (k : K (.int .i64 (m.length : Nat)) w) : RunN P (builtin .len #[t] ty cs [.map (some b)].toArray) w K := by
 obtain ⟨es, clock, hb, he⟩ := h
 have hl : es.size = m.length := by
  have := congrArg List.length he
  simpa using this
 refine ⟨_, w, ?_, k⟩
 simp [builtin, Builtin.len_, zat ht, getObj, Sem.run, hb, goInt, hl]
theorem RunN.mapDel {ty u : TypeId} {cs : Array Bool} (ht : P.underlying t = some (.map kt et)) (hk : P.underlying kt = some .string) (h : SMap w b m) (s : ByteArray) (k : ∀ w', SMap w' b (m.del s) → Kp w w' (one_ b) → K (.tuple #[]) w') :
  RunN P (builtin .delete #[t, u] ty cs [.map (some b), .string s].toArray) w K := by
 have hlt := h.lt
 obtain ⟨es, clock, hb, he⟩ := h
 rcases findNow_str s es.toList m 0 he with ⟨a1, a2, _, a4⟩ | ⟨v, j, a1, a2, a3, a4, _, a6⟩
 ·refine ⟨.tuple #[], setO w b (.map es clock), ?_, k _ ⟨_, _, zcw _ hlt, by rw [a4]; exact he⟩ (zbf _)⟩
  simp [builtin, Builtin.delete_, zat ht, getObj, setObj, Sem.run, hb, zbm hk, Instr.findKey, zat hk, a2, setO]
 ·refine ⟨.tuple #[], setO w b (.map (es.eraseIdxIfInBounds j) clock), ?_, k _ ⟨_, _, zcw _ hlt, ?_⟩ (zbf _)⟩
  ·simp [builtin, Builtin.delete_, zat ht, getObj, setObj, Sem.run, hb, zbm hk, Instr.findKey, zat hk, a3, setO]
  ·rw [← a6]
   have hj : j < es.size := by simpa using a2
   simp [Array.eraseIdxIfInBounds, hj]
end
instance : LawfulBEq ByteArray where
 eq_of_beq {a b} h := by rw [zgg] at h; exact of_decide_eq_true h
 rfl {a} := by rw [zgg]; exact decide_eq_true rfl
def SM.keys (m : SM) : List ByteArray := m.map (·.1)
theorem SM.get_mem : ∀ (m : SM) (k : ByteArray), (m.get k).isSome = decide (k ∈ m.keys)
 | [], k => by simp [SM.get, SM.keys]
 | (s, v) :: r, k => by
  unfold SM.get
  by_cases h : k = s
  ·rw [if_pos h]; simp [SM.keys, h]
  ·rw [if_neg h, SM.get_mem r k]
   unfold SM.keys
   simp only [List.map_cons, List.mem_cons, h, false_or]
theorem SM.get_put : ∀ (m : SM) (k k' : ByteArray) (x : Value), (m.put k x).get k' = if k' = k then some x else m.get k'
 | [], k, k', x => by simp [SM.put, SM.get]
 | (s, v) :: r, k, k', x => by
  unfold SM.put
  by_cases h : k = s
  ·subst h
   rw [if_pos rfl]
   simp only [SM.get]
   split <;> rfl
  ·rw [if_neg h]
   simp only [SM.get]
   by_cases h2 : k' = s
   ·rw [if_pos h2, if_pos h2, if_neg (fun e => h (by rw [← e, h2]))]
   ·rw [if_neg h2, if_neg h2, SM.get_put r k k' x]
theorem SM.keys_put : ∀ (m : SM) (k : ByteArray) (x : Value), (m.put k x).keys = if k ∈ m.keys then m.keys else m.keys ++ [k]
 | [], k, x => by simp [SM.put, SM.keys]
 | (s, v) :: r, k, x => by
  unfold SM.put
  by_cases h : k = s
  ·subst h; simp [SM.keys]
  ·rw [if_neg h]
   have ih := SM.keys_put r k x
   by_cases hk : k ∈ SM.keys r
   ·rw [if_pos hk] at ih
    have hk2 : k ∈ SM.keys ((s, v) :: r) := List.mem_cons_of_mem _ hk
    rw [if_pos hk2]
    show s :: SM.keys (SM.put r k x) = s :: SM.keys r
    rw [ih]
   ·rw [if_neg hk] at ih
    have hk2 : ¬ k ∈ SM.keys ((s, v) :: r) := fun e => by
     rcases List.mem_cons.1 e with e | e
     ·exact h e
     ·exact hk e
    rw [if_neg hk2]
    show s :: SM.keys (SM.put r k x) = s :: (SM.keys r ++ [k])
    rw [ih]
theorem SM.keys_del : ∀ (m : SM) (k : ByteArray), (m.del k).keys = m.keys.erase k
 | [], k => rfl
 | (s, v) :: r, k => by
  unfold SM.del
  by_cases h : k = s
  ·subst h; simp [SM.keys]
  ·rw [if_neg h]
   have ih := SM.keys_del r k
   simp only [SM.keys, List.map_cons] at ih ⊢
   rw [ih, List.erase_cons_tail (by simp; exact fun e => h e.symm)]
theorem SM.get_del_ne : ∀ (m : SM) (k k' : ByteArray), k' ≠ k → (m.del k).get k' = m.get k'
 | [], k, k', _ => rfl
 | (s, v) :: r, k, k', hne => by
  unfold SM.del
  by_cases h : k = s
  ·subst h
   rw [if_pos rfl]
   simp only [SM.get, if_neg hne]
  ·rw [if_neg h]
   simp only [SM.get, SM.get_del_ne r k k' hne]
theorem SM.get_del_same (m : SM) (k : ByteArray) (hn : m.keys.Nodup) : (m.del k).get k = none := by
 have h := SM.get_mem (m.del k) k
 have hk : ¬ k ∈ (m.del k).keys := fun e => by
  rw [SM.keys_del, List.Nodup.mem_erase_iff hn] at e
  exact e.1 rfl
 rw [decide_eq_false hk] at h
 simpa using h
theorem SM.nodup_put (m : SM) (k : ByteArray) (x : Value) (hn : m.keys.Nodup) : (m.put k x).keys.Nodup := by
 rw [SM.keys_put]
 split
 ·exact hn
 ·rename_i h
  rw [List.nodup_append]
  exact ⟨hn, by simp, fun a ha b hb => by simp at hb; subst hb; rintro rfl; exact h ha⟩
theorem SM.nodup_del (m : SM) (k : ByteArray) (hn : m.keys.Nodup) : (m.del k).keys.Nodup := by
 rw [SM.keys_del]; exact hn.erase k
end Go.Vc
namespace Go.Proofs.YtennokckmjcefaaGreatDoor
open Go.RowKit Go.Pw Go.Vc Go.Cs Go.Lib
def RdO (w : World) (v : Value) (n : Nat) (xs : List Value) : Prop := ∃ a cap, v = .slice a n cap ∧ (0 < n → ∃ g o, a = some ⟨g, o, none⟩ ∧ g < w.heap.size ∧ At w g o xs)
theorem Rd.toO {w : World} {v : Value} {n : Nat} {xs : List Value} (h : Rd w v n xs) : RdO w v n xs := by
 obtain ⟨a, cap, rfl, h⟩ := h
 exact ⟨a, cap, rfl, fun h0 => let ⟨g, h1, h2, h3⟩ := h h0; ⟨g, 0, h1, h2, h3⟩⟩
theorem RdO.keep {w w' : World} {v : Value} {n : Nat} {xs : List Value} (h : RdO w v n xs) (k : Kp w w' n_) : RdO w' v n xs := by
 obtain ⟨a, cap, rfl, h⟩ := h
 exact ⟨a, cap, rfl, fun h0 => let ⟨g, o, h1, h3, h4⟩ := h h0; ⟨g, o, h1, Nat.lt_of_lt_of_le h3 k.size, zaG h4 k⟩⟩
theorem zjD {w w' : World} {b o : Nat} {vs : List Value} {c : Nat → Prop} (h : At w b o vs) (k : Kp w w' c) (hc : ¬ c b) : At w' b o vs := fun i v hi => by
 have := h i v hi
 rw [k.cell (zcE this) hc]; exact this
theorem zjS {w : World} {g o : Nat} {l : List (List UInt8)} (h : At w g o (l.map sv)) {i : Nat} (hi : i < l.length) : w.cell? ⟨g, o + i, none⟩ = some (.string (str l[i])) := h i _ (by rw [List.getElem?_map, List.getElem?_eq_getElem hi]; rfl)
def SetOf (ks : List (List UInt8)) (m : SM) : Prop := ∀ t, m.get (str t) = if t ∈ ks then some (.bool true) else none
theorem SetOf.nil : SetOf [] [] := fun t => by simp [SM.get]
theorem SetOf.put {ks : List (List UInt8)} {m : SM} (h : SetOf ks m) (x : List UInt8) : SetOf (ks ++ [x]) (m.put (str x) (.bool true)) := fun t => by
 rw [SM.get_put, h t]
 by_cases e : t = x
 ·subst e; simp
 ·rw [if_neg (fun h => e (zbY.1 h))]
  by_cases hk : t ∈ ks <;> simp [hk, e]
theorem zhz (w : World) : (zeroValue 4).run Tryz.prog w = .ok (.bool false) w := Tryz.zeroValue4 w
theorem ziE (ws : List (List UInt8)) (i : Nat) (hi : i < ws.length) : soughtL (ws.take (i + 1)) = soughtL (ws.take i) ++ listL ws[i] := by
 unfold soughtL listL
 rw [List.take_succ_eq_append_getElem hi, List.flatMap_append]; simp
section
variable {w : World}
theorem zmM {v : Value} (ws : List (List UInt8)) (hv : RdO w v ws.length (ws.map sv)) (hC : CutTab w) (hF : FoldTab w) (hl : ws.length ≤ 1000) (hs : ∀ x ∈ ws, x.length ≤ 10000) :
  Calls Tryz.prog 112 #[v] w fun e w' => ∃ b m, e = .returned (.map (some b)) ∧ w.heap.size ≤ b ∧ SMap w' b m ∧ SetOf (soughtL ws) m ∧ Kp w w' n_ := by
 obtain ⟨a, cap, rfl, hr⟩ := hv
 refine zaa (args := [.slice a ws.length cap]) Tryz.func112 rfl NL ?_; refine GW ?_
 refine RunV.newMap rfl ?_
 have hm0 := SMap.new w
 have k0 : Kp w (w.alloc (.map #[] 0)) n_ := (Kp.refl _ _).alloc _
 generalize w.alloc (.map #[] 0) = w1 at *
 refine GO ?_
 have hb : ∀ {x y : World}, Kp w x n_ → Kp x y (one_ w.heap.size) → Kp w y n_ := fun h k => h.trans k fun i hi e => by
  have e : i = w.heap.size := e
  omega
 refine Loop.intro (ι := Nat × SM) (fun i => [(3, .map (some w.heap.size)), (9, .slice a ws.length cap), (10, .int .i64 (ws.length : Nat)), (11, .int .i64 (i.1 : Nat))])
  (fun i wr => Kp w wr n_ ∧ i.1 ≤ ws.length ∧ SMap wr w.heap.size i.2 ∧ SetOf (soughtL (ws.take i.1)) i.2) (fun i => ws.length - i.1) (0, []) ⟨rfl, rfl, rfl, rfl, trivial⟩
  ⟨k0, Nat.zero_le _, hm0, SetOf.nil⟩ ?_
 rintro ⟨i, m⟩ gg wr ⟨hK, hi, hm, hset⟩
 dsimp only at hi hm hset ⊢
 refine GW ?_
 by_cases hlt : i < ws.length
 ·obtain ⟨g, o, rfl, hg, hat⟩ := hr (by omega)
  have c1 := zjS (zaG hat hK) hlt
  have hx := hs ws[i] (List.getElem_mem hlt)
  have hsn := ziE ws i hlt
  generalize ws[i] = x at *
  refine GO ?_
  refine CallS.of (Tryz.call25 _ _) (zdu (str x) (hC.keep hK) (hF.keep hK) (by rw [zey]; omega)) ?_
  rintro e w2 ⟨v2, rfl, hT, k2⟩
  rw [L_str] at hT
  have hll : (listL x).length ≤ 100000 := by
   unfold listL
   rw [List.length_map]
   have := zcq x
   omega
  generalize listL x = T at *
  obtain ⟨at2, ct2, rfl⟩ := zab hT
  refine RT ?_
  refine GO ?_
  refine Loop.intro (ι := Nat × SM) (fun k => [(3, .map (some w.heap.size)), (9, .slice (some ⟨g, o, none⟩) ws.length cap), (10, .int .i64 (ws.length : Nat)), (11, .int .i64 (i : Nat)), (16, .slice at2 T.length ct2), (17, .int .i64 (T.length : Nat)), (18, .int .i64 (k.1 : Nat))])
   (fun k wr => Kp w2 wr (one_ w.heap.size) ∧ k.1 ≤ T.length ∧ SMap wr w.heap.size k.2 ∧ SetOf (soughtL (ws.take i) ++ T.take k.1) k.2) (fun k => T.length - k.1) (0, m) ⟨rfl, rfl, rfl, rfl, rfl, rfl, rfl, trivial⟩
   ⟨Kp.refl _ _, Nat.zero_le _, hm.keep k2 id, by simpa using hset⟩ ?_
  rintro ⟨k, m2⟩ g3 w3 ⟨hK3, hk, hm2, hset2⟩
  dsimp only at hk hm2 hset2 ⊢
  refine GW ?_
  by_cases hlt2 : k < T.length
  ·obtain ⟨gT, rfl, hgb, hgT, hatT⟩ := zfd hT (by omega)
   have hne : ¬ one_ w.heap.size gT := fun e => by
    have e : gT = w.heap.size := e
    have := hm.lt
    omega
   have c3 := zma (zjD hatT hK3 hne) hlt2
   have hst : T.take (k + 1) = T.take k ++ [T[k]] := List.take_succ_eq_append_getElem hlt2
   generalize T[k] = y at *
   refine GO ?_
   refine RunU.upd Tryz.underlying131 Tryz.underlying9 hm2 (str y) (.bool true) fun w4 hm4 k4 => ?_
   refine GO ?_
   exact ⟨(k + 1, m2.put (str y) (.bool true)), ⟨rfl, rfl, rfl, rfl, rfl, rfl, v_int (by simp), trivial⟩, ⟨hK3.trans' k4, by dsimp only; omega, hm4, by dsimp only; rw [hst, ← List.append_assoc]; exact hset2.put y⟩, by dsimp only; omega⟩
  ·refine GO ?_
   have e : k = T.length := by omega
   subst e
   rw [List.take_length] at hset2
   exact ⟨(i + 1, m2), ⟨rfl, rfl, rfl, v_int (by simp), trivial⟩, ⟨hb (hK.trans0 k2) hK3, by dsimp only; omega, hm2, by dsimp only; rw [hsn]; exact hset2⟩, by dsimp only; omega⟩
 ·refine GO ?_
  have e : i = ws.length := by omega
  subst e
  rw [List.take_length] at hset
  exact ⟨_, m, rfl, Nat.le_refl _, hm, hset, hK⟩
end
end Go.Proofs.YtennokckmjcefaaGreatDoor
