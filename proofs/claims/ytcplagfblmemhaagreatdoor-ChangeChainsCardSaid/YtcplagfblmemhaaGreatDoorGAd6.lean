/- Helper text of this claim: lemmas and contracts that the proved statement rests on; no conditions of its own. -/
import Derived.Test.YtcplagfblmemhaaGreatDoorGAd3
namespace Go.Proofs.YtcplagfblmemhaaGreatDoor
set_option linter.unusedVariables false
set_option maxHeartbeats 8000000
open Go.Shelf Go.RowKit Go.Pw Go.Vc Go.Cs Go.Lib
set_option linter.unusedVariables false
set_option maxRecDepth 100000
theorem zoq (a : ByteArray) (b : Int) (w : World) : (Instr.build 175 [(0, .string a), (1, .int .i64 b)].toArray).run Tryz.prog w = .ok (.agg #[.string a, .int .i64 b]) w := by
 simp [Instr.build, Instr.fill, go_sem, Tryz.runUnderlying175]
theorem zmU (a b : ByteArray) (w : World) : (Instr.build 49 [(0, .string a), (1, .string b)].toArray).run Tryz.prog w = .ok (.agg #[.string a, .string b]) w := by
 simp [Instr.build, Instr.fill, go_sem, Tryz.runUnderlying49]
section
variable {w : World}
theorem zmR {B b : Nat} {h : Hd} {lx : List Mr} {A : Acc} {v : Ov} {o : Opr} (hd : Drf w B b h lx A) (hf : Fit A) (fo : FitO o) :
  Calls Tryz.prog 61 #[.pointer (some ⟨b, 0, none⟩), .agg (opC v o).toArray] w fun e w' => Done w' b e (answerA A o) ∧ Kp w w' (from_ B) := by
 have hnl := hf.nl
 have hz : (str o.name).size = o.name.length := zbd o.name
 have hnm := fo.nm
 refine zaa (args := [.pointer (some ⟨b, 0, none⟩), .agg (opC v o).toArray]) Tryz.func61 rfl NL ?_; refine GW ?_
 obtain ⟨a_b1, v_b1, k_w1, z_w1, r_w1⟩ := new5 w 72 (opC v o)
 generalize w.alloc (.cells (List.toArray (opC v o)) 72) = w1 at *
 generalize hs_b1 : w.heap.size = b1 at *
 have kr1 := Kp.refl w1 n_
 by_cases h1 : 1000 < o.name.length
 ·have hres : answerA A o = .error 1 := by unfold answerA; rw [if_pos (.inl h1)]
  refine KGO ?_
  exact ⟨by rw [hres]; rfl, k_w1.of_none⟩
 refine KGO ?_
 refine CallS.of (Tryz.call62 _ _) (zcq (w := w1) o.at_ 0 1099511627776) ?_
 rintro e w2 ⟨rfl, rfl⟩
 have K2 : Kp w w1 n_ := k_w1
 refine RT ?_
 by_cases h2 : 0 ≤ o.at_ ∧ o.at_ ≤ 1099511627776
 rotate_left
 ·have hres : answerA A o = .error 1 := by unfold answerA; rw [if_pos (.inr h2)]
  rw [show decide (0 ≤ o.at_ ∧ o.at_ ≤ 1099511627776) = false from decide_eq_false h2]
  refine KGO ?_
  exact ⟨by rw [hres]; rfl, K2.of_none⟩
 have hres : answerA A o = .ok ({ A with seen := (seenA A.seen o).drop ((seenA A.seen o).length - 256) }, 0) := by unfold answerA; rw [if_neg (fun q => q.elim h1 fun q => q h2)]
 have hdA := zaf hd.v.at K2
 rw [show decide (0 ≤ o.at_ ∧ o.at_ ≤ 1099511627776) = true from decide_eq_true h2]
 refine KGO ?_
 conv => arg 3; simp [ev, upd]
 have K3 := K2
 refine CallS.of (Tryz.call110 _ _) (zra (w := w1) A.seen 111 (.pointer (some ⟨b1, 0, none⟩)) (fun s => decide (s.key = o.name)) (zab hd.o.n K3) (by omega) Tryz.call111 (fun s _ w' k => zkr s (v := v) (o := o) (zav a_b1 k (fun e => by have := hd.lt b1 (Hd.all_n e); have := hd.v.lt; omega)))) ?_
 rintro e w3 ⟨v3, rfl, o3, k3, hb3⟩
 have hbw : b < w.heap.size := hd.v.lt
 have hb1 : ∀ q, own_ h.N.v q → q < b := fun q hq => hd.lt q (Hd.all_n hq)
 have a3 : At w3 b1 0 (opC v o) := zav a_b1 k3 fun e => by have := hb1 b1 e; omega
 obtain ⟨a3', c3, rfl⟩ := zac o3
 generalize hl1 : (A.seen.filter fun s => !decide (s.key = o.name)) = l1 at *
 have hl1n : l1.length ≤ 100000 := by rw [← hl1]; exact Nat.le_trans (List.length_filter_le _ _) hnl
 refine RT ?_
 refine KGO ?_
 refine RunV.of (zoq _ _ _) ?_
 refine KGO ?_
 refine RunV.of (zln ⟨o.name, o.at_⟩ _) ?_
 have vb := VarK.new w3 175 (snC ⟨o.name, o.at_⟩)
 have k4 : Kp w3 (w3.alloc (.cells (snC ⟨o.name, o.at_⟩).toArray 175)) n_ := (Kp.refl _ _).alloc _
 generalize w3.alloc (.cells (snC ⟨o.name, o.at_⟩).toArray 175) = w4 at *
 generalize w3.heap.size = vbk at *
 refine KGO ?_
 refine zqw (zab o3 k4) (by have := hd.B; have := K2.size; have := k3.size; have := k4.size; omega) ⟨o.name, o.at_⟩ vb (by omega) fun v5 w5 o5 k5 => ?_
 have hl2 : l1 ++ [⟨o.name, o.at_⟩] = seenA A.seen o := by rw [← hl1]; rfl
 rw [hl2] at o5
 have hl2n : (seenA A.seen o).length ≤ 100001 := by rw [← hl2, List.length_append]; simp; omega
 have hl2p : 0 < (seenA A.seen o).length := by rw [← hl2, List.length_append]; simp
 generalize seenA A.seen o = l2 at *
 have k45 : Kp w1 w5 (own_ h.N.v) := k3.trans' (k4.of_none.trans' (k5.mono fun q _ hq => by
  have e : (Value.slice a3' l1.length c3).ownBlock = some q := hq
  rw [hb3] at e; exact e))
 have hd1 := hd.keep K2
 have vA := hd1.v.keep k45 fun e => by have := hb1 b e; omega
 rcases own_blockK o5 with ⟨hq, h0⟩ | ⟨g, cap, cells, rfl, hBg, hv, hnc, hcm, hcl, htk⟩
 ·omega
 have hz5 : w.heap.size ≤ w5.heap.size := Nat.le_trans K2.size k45.size
 have hgb : g ≠ b := fun e => by
  subst e
  have s1 := hv.shape
  rw [vA.shape] at s1
  injection s1 with s1
  injection s1 with s1
  exact absurd s1 (by decide)
 refine KGO ?_
 rw [show max ((l2.length : Nat) - 256 : Int) 0 = ((l2.length - 256 : Nat) : Int) by omega]
 refine Cut.from (by omega) hnc ?_
 refine KGO ?_
 rw [if_neg (by omega : ¬ l2.length - 256 = cap)]
 refine SCK 4 vA fun w6 v6 k6 => ?_
 refine KGO ?_
 have hg6 : VarK w6 g 175 cells := hv.keep k6 hgb
 have P := hd1.o.setN (v := ⟨some ⟨g, 0, none⟩, l2.length, cap⟩) (l := l2) k45 o5
 have P6 := P.keep k6 fun q hq e => by
  have e : q = b := e
  subst e
  unfold Hd.all Hd.bs at hq
  simp only [List.mem_append, zau] at hq
  rcases hq with (((hq | hq) | hq) | hq) | hq
  ·have := hd.lt q (Hd.all_b hq); omega
  ·have := hd.lt q (Hd.all_s hq); omega
  ·have hq : (Value.slice (some ⟨g, 0, none⟩) l2.length cap).ownBlock = some q := hq
   injection hq with hq
   exact hgb hq
  ·have := hd.lt q (Hd.all_m hq); omega
  ·have := hd.lt q (List.mem_append_right _ hq); omega
 have R := P6.read
 have hdl : (l2.drop (l2.length - 256)).length = l2.length - (l2.length - 256) := List.length_drop
 rw [← hdl] at v6
 have hrn : ∀ u, VarK u g 175 cells → RowN u (.slice (some ⟨g, 0 + (l2.length - 256) * 2, none⟩) (l2.drop (l2.length - 256)).length (cap - (l2.length - 256))) (l2.drop (l2.length - 256)) := fun u hu => ⟨_, _, rfl, fun _ => ⟨g, _, rfl, hu.lt, fun i u' hi => by
  rw [← zbc snC 2 lenSn, List.getElem?_drop, ← htk, List.getElem?_take] at hi
  split at hi
  ·rw [Nat.add_assoc]
   exact hu.at _ _ hi
  ·cases hi⟩⟩
 rw [hres]
 refine ⟨⟨rfl, ⟨h.B, h.M, h.S, ⟨some ⟨g, 0 + (l2.length - 256) * 2, none⟩, (l2.drop (l2.length - 256)).length, cap - (l2.length - 256)⟩⟩, v6, ⟨R.b, R.m, R.s, hrn _ hg6⟩, ⟨P6.stab.1.b, P6.stab.1.m, P6.stab.1.s, by show (l2.drop (l2.length - 256)).length ≤ cap - (l2.length - 256); rw [hdl]; omega⟩, fun u ku => ?_⟩, (zei K2 (k45.mono fun q _ hq => (hd.o.n.lt q hq).1)).trans' (k6.mono fun q _ hq => ?_)⟩
 ·have Q := P6.stab.2 u ku
  exact ⟨Q.b, Q.m, Q.s, hrn u (hg6.keep ku fun e => by
   obtain ⟨cs, T, hb', _, _, _, _, _, t6⟩ := e
   have s1 := hg6.shape
   rw [hb'.shape] at s1
   injection s1 with s1
   injection s1 with s1
   exact t6 s1.symm)⟩
 ·have e : q = b := hq
  have := hd.B
  show B ≤ q
  omega
end
section
variable {w : World}
theorem zqH {B b : Nat} {h : Hd} {lx : List Mr} {A : Acc} {v : Ov} {o : Opr} (hd : Drf w B b h lx A) (hf : Fit A) (fo : FitO o) (ha : AscS A.scripts) :
  Calls Tryz.prog 58 #[.pointer (some ⟨b, 0, none⟩), .agg (opC v o).toArray] w fun e w' => Done w' b e (setA A o) ∧ Kp w w' (from_ B) := by
 have hsl := hf.sl
 have hz : (str o.text).size = o.text.length := zbd o.text
 have hnm := fo.nm
 have htx := fo.tx
 refine zaa (args := [.pointer (some ⟨b, 0, none⟩), .agg (opC v o).toArray]) Tryz.func58 rfl NL ?_; refine GW ?_
 obtain ⟨a_b1, v_b1, k_w1, z_w1, r_w1⟩ := new5 w 72 (opC v o)
 generalize w.alloc (.cells (List.toArray (opC v o)) 72) = w1 at *
 generalize hs_b1 : w.heap.size = b1 at *
 refine KGO ?_
 refine CallS.of (Tryz.call106 _ _) (zeS (w := w1) (A := A) o.name (hd.keep k_w1) hf.sl ha) ?_
 rintro e w2 ⟨rfl, hix, k2⟩
 have K2 := k_w1.trans0 k2
 have a2 := zaf a_b1 k2
 have kr2 := Kp.refl w2 n_
 have hd2 := hd.keep K2
 have hdA := hd2.v.at
 refine RT ?_
 refine KGO ?_
 refine CallS.of (Tryz.call107 _ _) (zom (w := w2) o.name (by omega)) ?_
 rintro e w2' ⟨rfl, rfl⟩
 refine RT ?_
 by_cases h1 : scB o.name = true
 rotate_left
 ·have h1 : scB o.name = false := by simpa using h1
  have hres : setA A o = .error 1 := by unfold setA; rw [if_pos h1]
  rw [h1]
  refine KGO ?_
  exact ⟨by rw [hres]; rfl, K2.of_none⟩
 rw [h1]
 by_cases h2 : 32768 < o.text.length
 ·have hres : setA A o = .error 16 := by unfold setA; rw [if_neg (by rw [h1]; simp), if_pos h2]
  refine KGO ?_
  exact ⟨by rw [hres]; rfl, K2.of_none⟩
 have hown : ∀ q, own_ h.S.v q → q < b := fun q hq => hd.lt q (Hd.all_s hq)
 have hbw : b < w.heap.size := hd.v.lt
 by_cases h3 : hasS A.scripts o.name = true
 ·have hres : setA A o = .ok ({ A with scripts := A.scripts.set (idxS A.scripts o.name) ⟨o.name, o.text⟩ }, 0) := by unfold setA; rw [if_neg (by rw [h1]; simp), if_neg h2, if_pos h3]
  have h3' := h3
  rw [zeO ha, decide_eq_true_eq] at h3'
  obtain ⟨hlt, hne⟩ := h3'
  rw [h3]
  generalize hie : idxS A.scripts o.name = i at *
  rcases own_blockK hd2.o.s with ⟨_, h0⟩ | ⟨g, cap, cells, heS, hBg, hvS, hnc, hcm, hcl, htk⟩
  ·omega
  have heS' := heS
  injection heS with heS1 heS2 heS3
  have hdB := hdA
  unfold accC at hdB
  rw [heS1, heS2] at hdB
  refine KGO ?_
  refine Store.atK (i := 0 + i * 2 + 1) hvS (by rw [hcl]; omega) (by rfl) ⟨rfl, by simp, by simp⟩ fun wA vA kA => ?_
  rw [show 0 + i * 2 + 1 = i * 2 + 1 by omega] at vA
  have oA := zbm (w := w2.drew) lenSrc (l := A.scripts) (k := i) (j := 1) (x := ⟨o.name, o.text⟩) hlt (by decide) (by rw [← hne]; rfl) hBg hnc hcm hcl htk vA
  have hg : h.S.v.ownBlock = some g := by rw [heS']; rfl
  have kA' : Kp w2 wA (own_ h.S.v) := ((Kp.refl w2 n_).drew.of_none).trans' (kA.mono fun q _ e => by have e : q = g := e; rw [e]; exact hg)
  have P := hd2.o.setS (v := h.S) (B' := B) kA' (l := A.scripts.set i ⟨o.name, o.text⟩) (by rw [heS']; unfold OwnSrc; rw [List.length_set]; exact oA)
  have vb := hd2.v.keep kA' fun e => by have := hown b e; omega
  refine KGO ?_
  rw [hres]
  exact ⟨⟨rfl, h, vb, P.read, P.stab⟩, zei K2 (kA'.mono fun q _ hq => (hd.o.s.lt q hq).1)⟩
 have h3 : hasS A.scripts o.name = false := by simpa using h3
 rw [h3]
 have hSn : h.S.n = A.scripts.length := by
  obtain ⟨a, c, e⟩ := zac hd.o.s
  injection e
 by_cases h4 : 16 ≤ A.scripts.length
 ·have hres : setA A o = .error 3 := by unfold setA; rw [if_neg (by rw [h1]; simp), if_neg h2, if_neg (by rw [h3]; simp), if_pos h4]
  refine KGO ?_
  exact ⟨by rw [hres]; rfl, K2.of_none⟩
 have hres : setA A o = .ok ({ A with scripts := A.scripts.take (idxS A.scripts o.name) ++ ⟨o.name, o.text⟩ :: A.scripts.drop (idxS A.scripts o.name) }, 0) := by unfold setA; rw [if_neg (by rw [h1]; simp), if_neg h2, if_neg (by rw [h3]; simp), if_neg h4]
 generalize hie : idxS A.scripts o.name = i at *
 refine KGO ?_
 have hS1 : ∀ u, Kp w2 u (own_ h.S.v) → At u b1 0 (opC v o) := fun u hu => zav a2 hu fun e => by have := hown b1 e; omega
 have hS2 : ∀ u, Kp w2 u (own_ h.S.v) → At u b 0 (accC h A) := fun u hu => zav hdA hu fun e => by have := hown b e; omega
 refine Draw.heldEnd (fun u => Kp w2 u (own_ h.S.v)) (fun _ => true) (by simp) (by decide +kernel) (by decide +kernel) (Kp.refl _ _).drew ?_
 refine KGO ?_
 refine Held.one (by rfl) (fun u hu => hS2 u hu 2 _ rfl) ?_
 refine KGO ?_
 refine Held.one (by rfl) (fun u hu => hS1 u hu 4 _ rfl) ?_
 refine KGO ?_
 refine Held.one (by rfl) (fun u hu => hS1 u hu 6 _ rfl) ?_
 refine KGO ?_
 refine RunV.of (zmU _ _ _) ?_
 refine KGO ?_
 refine RunV.of (zkb ⟨o.name, o.text⟩ _) ?_
 have vb := VarK.new w2.drew 49 (srcC ⟨o.name, o.text⟩)
 have k4 : Kp w2 (w2.drew.alloc (.cells (srcC ⟨o.name, o.text⟩).toArray 49)) n_ := (Kp.refl w2 n_).drew.alloc _
 have hvk : w2.drew.heap.size = w2.heap.size := rfl
 generalize w2.drew.alloc (.cells (srcC ⟨o.name, o.text⟩).toArray 49) = w4 at *
 generalize w2.drew.heap.size = vbk at *
 have K4 := K2.trans0 k4
 have hd4 := hd.keep K4
 have hne : ∀ g, h.S.v.ownBlock = some g → g ≠ vbk := fun g hg => by
  have := hown g hg
  have := K2.size
  omega
 refine ⟨k4.of_none, ?_⟩
 refine KGO ?_
 refine CallS.of (Tryz.call108 _ _) (zpQ (w := w4) A.scripts i ⟨o.name, o.text⟩ hd4.o.s (by have := hd4.B; have := hd4.v.lt; omega) hix hsl vb hne) ?_
 rintro e w5 ⟨v5, rfl, o5, k5⟩
 have k5 := Kp.fresh k5
 obtain ⟨a5, c5, rfl⟩ := zac o5
 have vA := hd4.v.keep k5 fun e => by have := hown b e; omega
 have P := hd4.o.setS (v := ⟨a5, _, c5⟩) k5 o5
 have hnb := zaR o5 vA (by decide)
 refine RT ?_
 refine ⟨k4.of_none.trans' k5, ?_⟩
 refine KGO ?_
 refine SCK 2 vA fun w6 vA6 k6 => ?_
 refine KGO ?_
 rw [hres]
 refine ⟨⟨rfl, zew (ly := lx) (h' := { h with S := ⟨a5, _, c5⟩ }) vA6 P k6 fun q hq => ?_⟩, (K4.of_none.trans' (k5.mono fun q _ hq => ?_)).trans' (k6.mono fun q _ hq => ?_)⟩
 ·unfold Hd.all Hd.bs at hq
  simp only [List.mem_append, zau] at hq
  rcases hq with (((hq | hq) | hq) | hq) | hq
  ·have := hd.lt q (Hd.all_b hq); omega
  ·exact hnb q hq
  ·have := hd.lt q (Hd.all_n hq); omega
  ·have := hd.lt q (Hd.all_m hq); omega
  ·have := hd.lt q (List.mem_append_right _ hq); omega
 ·exact (hd.o.s.lt q hq).1
 ·have e : q = b := hq
  have := hd.B
  show B ≤ q
  omega
end
def newM (A : Acc) (o : Opr) : Ml := ⟨A.nm, o.blob, sortI o.boxes, sortT o.add, o.at_, o.size, A.st⟩
def NewI (w1 : World) (A : Acc) (o : Opr) (p : Nat × Sl × Sl) (u : World) : Prop :=
 Kp w1 u n_ ∧ OwnI u w1.heap.size p.2.1.v (sortI o.boxes) ∧ OwnT u w1.heap.size p.2.2.v (sortT o.add) ∧ Apart p.2.1.v p.2.2.v ∧ VarK u p.1 60 (mrC ⟨newM A o, p.2.1, p.2.2⟩) ∧ w1.heap.size ≤ p.1
theorem op_dg {w : World} {b : Nat} {v : Ov} {o : Opr} (h : At w b 0 (opC v o)) : At w b (0 + 7) (dgC o.blob) := fun i u hi => by
 have hl : (dgC o.blob).length = 32 := rfl
 have hi2 : i < 32 := by have := (List.getElem?_eq_some_iff.1 hi).1; omega
 have := h (7 + i) u (by
  unfold opC
  rw [List.getElem?_append_right (by simp), show 7 + i - List.length [Value.int .i64 o.kind, .int .i64 o.id, .int .i64 o.box, .int .i64 o.up, .string (str o.name), .string (str o.role), .string (str o.text)] = i by simp, List.getElem?_append_left (by omega)]
  exact hi)
 rw [show 0 + (7 + i) = 0 + 7 + i by omega] at this
 exact this
theorem zem (m : Ml) (b f : Sl) (w : World) : (Instr.build 60 [(0, .int .i64 m.id), (1, .agg (dgC m.blob).toArray), (2, .slice b.a b.n b.c), (3, .slice f.a f.n f.c), (4, .int .i64 m.at_), (5, .int .i64 m.size), (6, .int .i64 m.mod)].toArray).run Tryz.prog w = .ok (.agg (mrC ⟨m, b, f⟩).toArray) w := by
 simp [Instr.build, Instr.fill, go_sem, Tryz.runUnderlying60, mrC, dgC]
theorem bs_mem {x : Mr} {q : Nat} (h : q ∈ x.bs) : x.b.v.ownBlock = some q ∨ x.f.v.ownBlock = some q := by
 unfold Mr.bs at h
 rwa [List.mem_append, zau, zau] at h
theorem zll (x : Mr) (w : World) : (Instr.buildSlice 32 1 [(0, .agg (mrC x).toArray)].toArray).run Tryz.prog w = .ok (.slice (some ⟨w.heap.size, 0, none⟩) 1 1) (w.alloc (.cells (mrC x).toArray 60)) := by
 simp [Instr.buildSlice, go_sem, Tryz.runUnderlying32, mrC, dgC]
theorem zqr {K : Value → World → Prop} {B vb : Nat} {v : Value} {l : List Mr} {cs : Array Bool} {w : World} (h : OwnMl w B v l) (hB : B ≤ w.heap.size) (z : Mr) (hvb : VarK w vb 60 (mrC z)) (hl : l.length ≤ 1000000)
  (k : ∀ v' w', OwnMl w' B v' (l ++ [z]) → Kp w w' (own_ v) → K v' w') :
  RunN Tryz.prog (builtin .append #[32, 32] 32 cs [v, .slice (some ⟨vb, 0, none⟩) 1 1].toArray) w K := by
 refine RunN.app Tryz.underlying32 infoMl rfl (by decide) h hB ⟨vb, 0, none⟩ 1 1 (mrC z) rfl (hvb.cells w 0 fun j u h => by simpa using h) (by have := oneMl [z]; simpa using this) (by omega) (by omega) fun v' w' h2 h3 => k v' w' ?_ ?_
 ·unfold OwnMl
  rw [List.length_append, List.flatMap_append]
  simpa using h2
 ·exact ⟨h3.os, h3.tape, h3.output, h3.size, fun i hi hn => h3.block i hi (fun e => hn e.symm)⟩
section
variable {w : World}
theorem zpB {B b : Nat} {h : Hd} {lx : List Mr} {A : Acc} {v : Ov} {o : Opr} (hd : Drf w B b h lx A) (hf : Fit A) (ho : OpR w v o) (fo : FitO o) :
  Calls Tryz.prog 50 #[.pointer (some ⟨b, 0, none⟩), .agg (opC v o).toArray] w fun e w' => Done w' b e (mailA A o) ∧ Kp w w' (from_ B) := by
 have fml := hf.ml
 have fob := fo.b
 have foa := fo.a
 have fnm := hf.nm
 have hbn : v.b.n = o.boxes.length := by
  obtain ⟨a, c, e, _⟩ := ho.b
  injection e
 have hnil : o.boxes = [] ↔ v.b.n = 0 := by rw [hbn, List.length_eq_zero_iff]
 refine zaa (args := [.pointer (some ⟨b, 0, none⟩), .agg (opC v o).toArray]) Tryz.func50 rfl NL ?_; refine GW ?_
 obtain ⟨a_b1, v_b1, k_w1, z_w1, r_w1⟩ := new5 w 72 (opC v o)
 generalize w.alloc (.cells (List.toArray (opC v o)) 72) = w1 at *
 generalize hs_b1 : w.heap.size = b1 at *
 have hd1 := hd.keep k_w1
 have hdA := hd1.v.at
 have hdg : At w1 b1 (0 + 7) (dgC o.blob) := op_dg a_b1
 refine KGO ?_
 refine Draw.cut (ι := Nat × Sl × Sl) (fun p => [(0, .pointer (some ⟨b, 0, none⟩)), (3, .pointer (some ⟨b1, 0, none⟩)), (6, .pointer (some ⟨p.1, 0, none⟩))]) (NewI w1 A o) ?_ ?_
 ·refine Draw.float2 (fun u => Kp w1 u n_) (fun _ => true) 9 12 (by decide +kernel) (Kp.refl _ _).drew ?_
  refine GW ?_
  refine KGO ?_
  refine ⟨rfl, ?_, ?_⟩
  ·refine GW ?_
   refine KGO ?_
   obtain ⟨a_bm, v_bm, k_w2, z_w2, r_w2⟩ := new5 w1.drew 60 (zMl)
   generalize w1.drew.alloc (.cells (List.toArray (zMl)) 60) = w2 at *
   generalize hs_bm : w1.drew.heap.size = bm at *
   have K2 : Kp w1 w2 n_ := (Kp.refl w1 n_).drew.trans0 k_w2
   refine ⟨K2, ?_⟩
   refine KGO ?_
   refine CallS.of (Tryz.call91 _ _) (zec (w := w2) o.boxes (ho.b.keep (k_w1.trans0 K2)) (by omega)) ?_
   rintro e w3 ⟨vi, rfl, oi, ki⟩
   obtain ⟨ai, ci, rfl⟩ := zac oi
   have K3 : Kp w1 w3 n_ := Kp.trans0 K2 ki
   have oi := zaj oi (Kp.size K2)
   refine RT ?_
   refine ⟨K3, ?_⟩
   refine KGO ?_
   refine CallS.of (Tryz.call92 _ _) (zda (w := w3) o.add (ho.a.keep (k_w1.trans0 K3)) (by omega)) ?_
   rintro e w4 ⟨vt, rfl, ot, kt⟩
   obtain ⟨at', ct, rfl⟩ := zac ot
   have apt := zcz oi ot (by first | exact Nat.le_refl _ | exact Kp.size k_w3')
   have K4 : Kp w1 w4 n_ := Kp.trans0 K3 kt
   have ot := zaj ot (Kp.size K3)
   refine RT ?_
   refine ⟨K4, ?_⟩
   refine KGO ?_
   have oi4 := zab oi kt
   have vm := v_bm.keep0 (ki.trans0 kt)
   have hzb : w1.heap.size ≤ bm := by rw [← hs_bm]; exact Nat.le_refl _
   refine RunV.of (zem (newM A o) ⟨ai, _, ci⟩ ⟨at', _, ct⟩ _) ?_
   refine KGO ?_
   refine SVK (mrC ⟨newM A o, ⟨ai, _, ci⟩, ⟨at', _, ct⟩⟩) vm fun w7 vr k7 => ?_
   refine ⟨zan K4 k7 hzb, ?_⟩
   refine KGO ?_
   have n1 := zaR oi4 vm (by decide)
   have n2 := zaR ot vm (by decide)
   exact ⟨(bm, ⟨ai, _, ci⟩, ⟨at', _, ct⟩), ⟨rfl, rfl, rfl, trivial⟩, zan K4 k7 hzb, zck oi4 k7 n1, zck ot k7 n2, apt, vr, hzb⟩
  ·refine GW ?_
   refine KGO ?_
   have K2 : Kp w1 w1.drew n_ := (Kp.refl w1 n_).drew
   refine CallS.of (Tryz.call91 _ _) (zec (w := w1.drew) o.boxes (ho.b.keep (k_w1.trans0 K2)) (by omega)) ?_
   rintro e w3 ⟨vi, rfl, oi, ki⟩
   obtain ⟨ai, ci, rfl⟩ := zac oi
   have K3 : Kp w1 w3 n_ := Kp.trans0 K2 ki
   have oi := zaj oi (Kp.size K2)
   refine RT ?_
   refine ⟨K3, ?_⟩
   refine KGO ?_
   refine ⟨rfl, ?_, ?_⟩
   ·refine GW ?_
    refine KGO ?_
    obtain ⟨a_bm, v_bm, k_w3', z_w3', r_w3'⟩ := new5 w3 60 (zMl)
    generalize w3.alloc (.cells (List.toArray (zMl)) 60) = w3' at *
    generalize hs_bm : w3.heap.size = bm at *
    have K3' : Kp w1 w3' n_ := K3.trans0 k_w3'
    refine ⟨K3', ?_⟩
    refine KGO ?_
    refine CallS.of (Tryz.call92 _ _) (zda (w := w3') o.add (ho.a.keep (k_w1.trans0 K3')) (by omega)) ?_
    rintro e w4 ⟨vt, rfl, ot, kt⟩
    obtain ⟨at', ct, rfl⟩ := zac ot
    have apt := zcz oi ot (by first | exact Nat.le_refl _ | exact Kp.size k_w3')
    have K4 : Kp w1 w4 n_ := Kp.trans0 K3' kt
    have ot := zaj ot (Kp.size K3')
    refine RT ?_
    refine ⟨K4, ?_⟩
    refine KGO ?_
    have oi4 := zab (zab oi k_w3') kt
    have vm := v_bm.keep0 kt
    have hzb : w1.heap.size ≤ bm := by rw [← hs_bm]; exact K3.size
    refine RunV.of (zem (newM A o) ⟨ai, _, ci⟩ ⟨at', _, ct⟩ _) ?_
    refine KGO ?_
    refine SVK (mrC ⟨newM A o, ⟨ai, _, ci⟩, ⟨at', _, ct⟩⟩) vm fun w7 vr k7 => ?_
    refine ⟨zan K4 k7 hzb, ?_⟩
    refine KGO ?_
    have n1 := zaR oi4 vm (by decide)
    have n2 := zaR ot vm (by decide)
    exact ⟨(bm, ⟨ai, _, ci⟩, ⟨at', _, ct⟩), ⟨rfl, rfl, rfl, trivial⟩, zan K4 k7 hzb, zck oi4 k7 n1, zck ot k7 n2, apt, vr, hzb⟩
   ·refine GW ?_
    refine KGO ?_
    refine CallS.of (Tryz.call92 _ _) (zda (w := w3) o.add (ho.a.keep (k_w1.trans0 K3)) (by omega)) ?_
    rintro e w4' ⟨vt, rfl, ot, kt⟩
    obtain ⟨at', ct, rfl⟩ := zac ot
    have apt := zcz oi ot (by first | exact Nat.le_refl _ | exact Kp.size k_w3')
    have K4' : Kp w1 w4' n_ := Kp.trans0 K3 kt
    have ot := zaj ot (Kp.size K3)
    refine RT ?_
    refine ⟨K4', ?_⟩
    refine KGO ?_
    refine RunV.of (zem (newM A o) ⟨ai, _, ci⟩ ⟨at', _, ct⟩ _) ?_
    refine KGO ?_
    obtain ⟨a_bm, v_bm, k_w4, z_w4, r_w4⟩ := new5 w4' 60 (zMl)
    generalize w4'.alloc (.cells (List.toArray (zMl)) 60) = w4 at *
    generalize hs_bm : w4'.heap.size = bm at *
    have K4 : Kp w1 w4 n_ := K4'.trans0 k_w4
    refine ⟨K4, ?_⟩
    refine KGO ?_
    have oi4 := zab (zab oi kt) k_w4
    have ot := zab ot k_w4
    have vm := v_bm
    have hzb : w1.heap.size ≤ bm := by rw [← hs_bm]; exact K4'.size
    refine SVK (mrC ⟨newM A o, ⟨ai, _, ci⟩, ⟨at', _, ct⟩⟩) vm fun w7 vr k7 => ?_
    refine ⟨zan K4 k7 hzb, ?_⟩
    refine KGO ?_
    have n1 := zaR oi4 vm (by decide)
    have n2 := zaR ot vm (by decide)
    exact ⟨(bm, ⟨ai, _, ci⟩, ⟨at', _, ct⟩), ⟨rfl, rfl, rfl, trivial⟩, zan K4 k7 hzb, zck oi4 k7 n1, zck ot k7 n2, apt, vr, hzb⟩
 ·rintro ⟨bm, sb, sf⟩ g w2 ⟨K12, ob, of, ap, vm, hbm⟩
  dsimp only at ob of ap vm hbm
  have K2 := k_w1.trans0 K12
  have a2 := zaf a_b1 K12
  have kr2 := Kp.refl w2 n_
  have hsn : sf.n = (sortT o.add).length := by
   obtain ⟨a, c, e⟩ := zac of
   injection e
  have hMn : h.M.n = A.mails.length := by
   obtain ⟨a, c, e⟩ := zac hd.o.m
   have e2 := congrArg List.length hd.o.ml
   rw [List.length_map] at e2
   injection e with _ e _
   rw [e]; exact e2
  refine GW ?_
  by_cases h1 : v.b.n = 0
  ·have hres : mailA A o = .error 1 := by unfold mailA; rw [if_pos (.inl (hnil.2 h1))]
   refine KGO ?_
   exact ⟨by rw [hres]; rfl, K2.of_none⟩
  refine KGO ?_
  refine CallS.of (Tryz.call93 _ _) (zhf (w := w2) o.add (ho.a.keep K2) (by omega) fo.fa) ?_
  rintro e w3 ⟨rfl, k3⟩
  have K3 := K2.trans0 k3
  have a3 := zaf a2 k3
  have kr3 := Kp.refl w3 n_
  refine RT ?_
  by_cases h2 : flagsB o.add = true
  rotate_left
  ·have h2 : flagsB o.add = false := by simpa using h2
   have hres : mailA A o = .error 1 := by unfold mailA; rw [if_pos (.inr (.inl h2))]
   rw [h2]
   refine KGO ?_
   exact ⟨by rw [hres]; rfl, K3.of_none⟩
  rw [h2]
  refine KGO ?_
  refine CallS.of (Tryz.call62 _ _) (zcq (w := w3) o.at_ 0 1099511627776) ?_
  rintro e w3' ⟨rfl, rfl⟩
  refine RT ?_
  by_cases h3 : 0 ≤ o.at_ ∧ o.at_ ≤ 1099511627776
  rotate_left
  ·have hres : mailA A o = .error 1 := by unfold mailA; rw [if_pos (.inr (.inr (.inl h3)))]
   rw [show decide (0 ≤ o.at_ ∧ o.at_ ≤ 1099511627776) = false from decide_eq_false h3]
   refine KGO ?_
   exact ⟨by rw [hres]; rfl, K3.of_none⟩
  rw [show decide (0 ≤ o.at_ ∧ o.at_ ≤ 1099511627776) = true from decide_eq_true h3]
  refine KGO ?_
  refine CallS.of (Tryz.call62 _ _) (zcq (w := w3) o.size 0 65536) ?_
  rintro e w3' ⟨rfl, rfl⟩
  refine RT ?_
  by_cases h4 : 0 ≤ o.size ∧ o.size ≤ 65536
  rotate_left
  ·have hres : mailA A o = .error 1 := by unfold mailA; rw [if_pos (.inr (.inr (.inr h4)))]
   rw [show decide (0 ≤ o.size ∧ o.size ≤ 65536) = false from decide_eq_false h4]
   refine KGO ?_
   exact ⟨by rw [hres]; rfl, K3.of_none⟩
  rw [show decide (0 ≤ o.size ∧ o.size ≤ 65536) = true from decide_eq_true h4]
  have hz1 : ¬ (o.boxes = [] ∨ flagsB o.add = false ∨ ¬ (0 ≤ o.at_ ∧ o.at_ ≤ 1099511627776) ∨ ¬ (0 ≤ o.size ∧ o.size ≤ 65536)) := by
   rintro (q | q | q | q)
   ·exact h1 (hnil.1 q)
   ·rw [h2] at q; cases q
   ·exact q h3
   ·exact q h4
  have hdA3 := zaf hdA (K12.trans0 k3)
  refine KGO ?_
  refine CallS.of (Tryz.call94 _ _) (zjF (w := w3.drew) (h := h) (A := A) o.boxes (hd.o.read.b.keep K3.drew) (by have := hf.bl; omega) (ho.b.keep K3.drew) (by omega)) ?_
  rintro e w4 ⟨rfl, k4⟩
  have J4 : Kp w3 w4 n_ := (Kp.refl w3 n_).drew.trans0 k4
  have K4 := K3.trans0 J4
  refine RT ?_
  by_cases h5 : thereB A.boxes o.boxes = true
  rotate_left
  ·have h5 : thereB A.boxes o.boxes = false := by simpa using h5
   have hres : mailA A o = .error 5 := by unfold mailA; rw [if_neg hz1, if_pos h5]
   rw [h5]
   refine KGO ?_
   exact ⟨by rw [hres]; rfl, K4.of_none⟩
  rw [h5]
  have vm4 := vm.keep0 (k3.trans0 J4)
  have hm4 : At w4 bm 0 (Value.int .i64 A.nm :: (dgC o.blob ++ [.slice sb.a sb.n sb.c, .slice sf.a (sortT o.add).length sf.c, .int .i64 o.at_, .int .i64 o.size, .int .i64 A.st])) := by have := vm4.at; unfold mrC at this; rw [← hsn]; exact this
  have hdA4 := zaf hdA3 J4
  have kr4 := Kp.refl w4 n_
  by_cases h6 : 4096 ≤ A.mails.length ∨ 20 < (sortT o.add).length ∨ 1099511627776 ≤ A.nm
  ·have hres : mailA A o = .error 3 := by unfold mailA; rw [if_neg hz1, if_neg (by rw [h5]; simp), if_pos h6]
   by_cases h7 : 4096 ≤ A.mails.length
   ·refine KGO ?_
    exact ⟨by rw [hres]; rfl, K4.of_none⟩
   by_cases h8 : 20 < (sortT o.add).length
   ·refine KGO ?_
    exact ⟨by rw [hres]; rfl, K4.of_none⟩
   have h9 : 1099511627776 ≤ A.nm := by omega
   refine KGO ?_
   exact ⟨by rw [hres]; rfl, K4.of_none⟩
  have hres : mailA A o = .ok ({ A with mails := A.mails ++ [newM A o], nm := A.nm + 1 }, A.nm) := by unfold mailA; rw [if_neg hz1, if_neg (by rw [h5]; simp), if_neg h6]; rfl
  have h7 : ¬ 4096 ≤ A.mails.length := by omega
  have h8 : ¬ 20 < (sortT o.add).length := by omega
  have h9 : ¬ 1099511627776 ≤ A.nm := by omega
  refine KGO ?_
  have hown : ∀ q, own_ h.M.v q → q < b := fun q hq => hd.lt q (Hd.all_m hq)
  have hbw : b < w.heap.size := hd.v.lt
  have hsz1 : w1.heap.size = b1 + 1 := z_w1
  have hS2 : ∀ u, Kp w4 u (own_ h.M.v) → At u b 0 (accC h A) := fun u hu => zav hdA4 hu fun e => by have := hown b e; omega
  have hS3 : ∀ u, Kp w4 u (own_ h.M.v) → At u bm 0 (mrC ⟨newM A o, sb, sf⟩) := fun u hu => zav vm4.at hu fun e => by have := hown bm e; omega
  refine Draw.heldEnd (fun u => Kp w4 u (own_ h.M.v)) (fun _ => true) (by simp) (by decide +kernel) (by decide +kernel) (Kp.refl _ _).drew ?_
  refine KGO ?_
  refine Held.one (by rfl) (fun u hu => hS2 u hu 1 _ rfl) ?_
  refine KGO ?_
  refine HeldG (mrC ⟨newM A o, sb, sf⟩) (by rfl) (by rfl) (fun u hu => hS3 u hu) (by rfl) ?_
  refine KGO ?_
  refine RunV.of (zll ⟨newM A o, sb, sf⟩ _) ?_
  have vb := VarK.new w4.drew 60 (mrC ⟨newM A o, sb, sf⟩)
  have k5 : Kp w4 (w4.drew.alloc (.cells (mrC ⟨newM A o, sb, sf⟩).toArray 60)) n_ := (Kp.refl w4 n_).drew.alloc _
  generalize w4.drew.alloc (.cells (mrC ⟨newM A o, sb, sf⟩).toArray 60) = w5 at *
  generalize w4.drew.heap.size = vbk at *
  refine ⟨k5.of_none, ?_⟩
  refine KGO ?_
  have K5 := K4.trans0 k5
  have hd5 := hd.keep K5
  have hlx : lx.length = A.mails.length := by rw [← hd.o.ml, List.length_map]
  refine zqr hd5.o.m (by have := hd5.B; have := hd5.v.lt; omega) ⟨newM A o, sb, sf⟩ vb (by omega) fun v6 w6 o6 k6 => ?_
  obtain ⟨a6, c6, rfl⟩ := zac o6
  refine ⟨k5.of_none.trans' k6, ?_⟩
  have vA := hd5.v.keep k6 fun e => by have := hown b e; omega
  have K46 : Kp w1 w5 n_ := (K12.trans0 k3).trans0 (J4.trans0 k5)
  have obx := zad (zab ob ((k3.trans0 J4).trans0 k5)) k6 fun q hq e => by have := (ob.lt q hq).1; have := hown q e; omega
  have ofx := zad (zab of ((k3.trans0 J4).trans0 k5)) k6 fun q hq e => by have := (of.lt q hq).1; have := hown q e; omega
  have vm6 := (vm4.keep0 k5).keep k6 fun e => by have := hown bm e; omega
  have P := hd5.o.setM (v := ⟨a6, _, c6⟩) k6 o6 (l := A.mails ++ [newM A o]) (by rw [List.map_append, hd.o.ml]; rfl) fun y hy => by
   rcases List.mem_append.1 hy with hy | hy
   ·exact .inl hy
   ·rw [List.mem_singleton.1 hy]
    exact .inr ⟨zaj obx (Nat.zero_le _), zaj ofx (Nat.zero_le _)⟩
  have hnb := zaR o6 vA (by decide)
  refine KGO ?_
  refine SCK 1 vA fun w7 v7 k7 => ?_
  have hd7 := v7.at
  refine KGO ?_
  refine SCK 5 v7 fun w8 v8 k8 => ?_
  have k78 := k7.trans' k8
  have hm8 := (vm6.keep k78 fun e => by have e : bm = b := e; omega).at
  refine KGO ?_
  have v8' : VarK w8 b 118 (accC { h with M := ⟨a6, (lx ++ [(⟨newM A o, sb, sf⟩ : Mr)]).length, c6⟩ } { A with mails := A.mails ++ [newM A o], nm := A.nm + 1 }) := v8
  have P' : AccP w6 { h with M := ⟨a6, (lx ++ [(⟨newM A o, sb, sf⟩ : Mr)]).length, c6⟩ } (lx ++ [⟨newM A o, sb, sf⟩]) { A with mails := A.mails ++ [newM A o], nm := A.nm + 1 } := ⟨P.b, P.s, P.n, P.m, P.ml, P.mb⟩
  have kf : Kp w w8 (from_ B) := (K5.of_none.trans' (k6.mono fun q _ hq => (hd.o.m.lt q hq).1)).trans' (k78.mono fun q _ hq => by
   have e : q = b := hq
   have := hd.B
   show B ≤ q
   omega)
  have hfin : ∃ h', VarK w8 b 118 (accC h' { A with mails := A.mails ++ [newM A o], nm := A.nm + 1 }) ∧ AccR w8 h' { A with mails := A.mails ++ [newM A o], nm := A.nm + 1 } ∧ StabA w8 h' { A with mails := A.mails ++ [newM A o], nm := A.nm + 1 } := zew v8' P' k78 fun q hq => by
   unfold Hd.all Hd.bs at hq
   simp only [List.mem_append, zau] at hq
   rcases hq with (((hq | hq) | hq) | hq) | hq
   ·have := hd.lt q (Hd.all_b hq); omega
   ·have := hd.lt q (Hd.all_s hq); omega
   ·have := hd.lt q (Hd.all_n hq); omega
   ·exact hnb q hq
   ·obtain ⟨x, hx, hq⟩ := List.mem_flatMap.1 hq
    rcases List.mem_append.1 hx with hx | hx
    ·exact Nat.ne_of_lt (hd.lt q (List.mem_append_right _ (List.mem_flatMap.2 ⟨x, hx, hq⟩)))
    ·rw [List.mem_singleton.1 hx] at hq
     rcases bs_mem hq with hq | hq
     ·exact fun e => absurd (ob.lt q hq).1 (by rw [e]; omega)
     ·exact fun e => absurd (of.lt q hq).1 (by rw [e]; omega)
  rw [hres]
  exact ⟨⟨rfl, hfin⟩, kf⟩
end
theorem zgq {z : Int} : ∀ {l : List Int} {k : Nat} (hk : k < l.length), l[k] = z → (∀ j (hj : j < k), (l[j]'(by omega)) ≠ z) → l.erase z = l.take k ++ l.drop (k + 1)
 | [], k, hk, _, _ => by simp at hk
 | a :: r, 0, hk, he, _ => by
  have he : a = z := he
  subst he
  simp
 | a :: r, k + 1, hk, he, hn => by
  have h0 : a ≠ z := hn 0 (by omega)
  rw [List.erase_cons_tail (by simpa using h0), zgq (l := r) (k := k) (by simpa using hk) he fun j hj => hn (j + 1) (by omega)]
  rfl
theorem zmi {zs : List Mr} {i : Nat} {x : Mr} (hi : i < zs.length) (h : x.bs = zs[i].bs) : (zs.set i x).flatMap Mr.bs = zs.flatMap Mr.bs := by
 rw [List.flatMap_def, List.flatMap_def, List.map_set, h]
 congr 1
 apply List.ext_getElem (by simp)
 intro j h1 h2
 rw [List.getElem_set]
 split
 ·rename_i e
  subst e
  rw [List.getElem_map]
 ·rfl
section
variable {w w4 w6 : World} {B b g i : Nat} {h : Hd} {zs : List Mr} {A : Acc} {x : Mr}
theorem Drf.turn (d : Drf w B b h zs A) (hi : i < zs.length) (hg : h.M.v.ownBlock = some g) (hbb : x.b.v.ownBlock = zs[i].b.v.ownBlock) (hff : x.f = zs[i].f) (hmf : x.m.flags = zs[i].m.flags)
  (k1 : Kp w w4 (own_ zs[i].b.v)) (oi : OwnI w4 B x.b.v x.m.boxes) (k2 : Kp w4 w6 (one_ g)) (o6 : OwnMl w6 B h.M.v (zs.set i x)) : Drf w6 B b h (zs.set i x) { A with mails := (zs.set i x).map (·.m) } := by
 have o := d.o
 obtain ⟨n1, n2, n3, n4⟩ := nd4 o.nd
 have hnd := (List.nodup_append.1 o.nd).2.1
 unfold List.Nodup at hnd
 rw [List.pairwise_flatMap] at hnd
 obtain ⟨p1, p2⟩ := hnd
 have hbs : x.bs = zs[i].bs := by unfold Mr.bs; rw [hbb, hff]
 have hib : ∀ q, own_ zs[i].b.v q → q ∈ zs.flatMap Mr.bs := fun q hq => List.mem_flatMap.2 ⟨_, List.getElem_mem hi, by unfold Mr.bs; rw [List.mem_append, zau]; exact .inl hq⟩
 have hgx : ∀ q, q ∈ zs.flatMap Mr.bs → q ≠ g := fun q hq e => n4 g hg (e ▸ hq)
 have hrow : ∀ {s n : Nat} {e : TypeId} {v : Value} {xs : List Value}, w.ownsRow B e s v n xs → (∀ q, v.ownBlock = some q → q ∉ zs.flatMap Mr.bs ∧ q ≠ g) → w6.ownsRow B e s v n xs := fun ho hne =>
  zad (zad ho k1 fun q hq e => (hne q hq).1 (hib q e)) k2 fun q hq e => (hne q hq).2 e
 refine ⟨(d.v.keep k1 fun e => by have := d.lt b (List.mem_append_right _ (hib b e)); omega).keep k2 fun e => by have e : b = g := e; have := d.lt g (Hd.all_m hg); omega, ⟨?_, ?_, ?_, o6, rfl, ?_, ?_⟩, ?_, d.B⟩
 ·exact hrow o.b fun q hq => ⟨(n1 q hq).2.2.2, fun e => (n1 q hq).2.2.1 (e ▸ hg)⟩
 ·exact hrow o.s fun q hq => ⟨(n2 q hq).2.2, fun e => (n2 q hq).2.1 (e ▸ hg)⟩
 ·exact hrow o.n fun q hq => ⟨(n3 q hq).2, fun e => (n3 q hq).1 (e ▸ hg)⟩
 ·intro y hy
  obtain ⟨j, hj, rfl⟩ := List.getElem_of_mem hy
  rw [List.length_set] at hj
  rw [List.getElem_set]
  by_cases e : i = j
  ·rw [if_pos e]
   have hxi := o.mb zs[i] (List.getElem_mem hi)
   refine ⟨zad oi k2 fun q hq e => hgx q (hib q (by rw [hbb] at hq; exact hq)) e, ?_⟩
   rw [hff, hmf]
   refine zad (zad hxi.2 k1 fun q hq e => ?_) k2 fun q hq e => ?_
   ·have := p1 zs[i] (List.getElem_mem hi)
    unfold Mr.bs at this
    exact (List.pairwise_append.1 this).2.2 q (zau.2 e) q (zau.2 hq) rfl
   ·exact hgx q (List.mem_flatMap.2 ⟨_, List.getElem_mem hi, by unfold Mr.bs; rw [List.mem_append, zau, zau]; exact .inr hq⟩) e
  ·rw [if_neg e]
   have hxj := o.mb zs[j] (List.getElem_mem hj)
   have hdis : ∀ q, q ∈ zs[j].bs → ¬ own_ zs[i].b.v q := fun q hq hq2 => by
    have hq2 : q ∈ zs[i].bs := by unfold Mr.bs; rw [List.mem_append, zau]; exact .inl hq2
    rcases Nat.lt_or_gt_of_ne e with e | e
    ·exact (List.pairwise_iff_getElem.1 p2) i j hi hj e q hq2 q hq rfl
    ·exact (List.pairwise_iff_getElem.1 p2) j i hj hi e q hq q hq2 rfl
   have hjm : ∀ q, q ∈ zs[j].bs → q ≠ g := fun q hq => hgx q (List.mem_flatMap.2 ⟨_, List.getElem_mem hj, hq⟩)
   have hb : ∀ q, zs[j].b.v.ownBlock = some q → q ∈ zs[j].bs := fun q hq => by unfold Mr.bs; rw [List.mem_append, zau]; exact .inl hq
   have hf : ∀ q, zs[j].f.v.ownBlock = some q → q ∈ zs[j].bs := fun q hq => by unfold Mr.bs; rw [List.mem_append, zau, zau]; exact .inr hq
   exact ⟨zad (zad hxj.1 k1 fun q hq e => hdis q (hb q hq) e) k2 fun q hq e => hjm q (hb q hq) e, zad (zad hxj.2 k1 fun q hq e => hdis q (hf q hq) e) k2 fun q hq e => hjm q (hf q hq) e⟩
 ·rw [zmi hi hbs]; exact o.nd
 ·rw [zmi hi hbs]; exact d.lt
end
end Go.Proofs.YtcplagfblmemhaaGreatDoor
