/- Helper text of this claim: lemmas and contracts that the proved statement rests on; no conditions of its own. -/
import Derived.Test.YtohhkegmbgancaaGreatDoorGAe6
namespace Go.Proofs.YtohhkegmbgancaaGreatDoor
set_option maxHeartbeats 8000000
open Go.Shelf Go.RowKit Go.Pw Go.Vc Go.Cs Go.Lib
set_option linter.unusedVariables false
set_option maxRecDepth 100000
section
variable {w : World}
theorem ml_eq {x y : Ml} : x = y ↔ x.id = y.id ∧ x.blob = y.blob ∧ x.boxes = y.boxes ∧ x.flags = y.flags ∧ x.at_ = y.at_ ∧ x.size = y.size ∧ x.mod = y.mod := by
 cases x; cases y; simp
theorem zhX (x y : Mr) (hx : MailOk w x) (hy : MailOk w y) (h1 : x.m.boxes.length ≤ 1000000) (h2 : x.m.flags.length ≤ 1000000) :
  Calls Tryz.prog 50 #[.agg (mrC x).toArray, .agg (mrC y).toArray] w fun e w' => e = .returned (.bool (decide (x.m = y.m))) ∧ Kp w w' n_ := by
 have hmm := ml_eq (x := x.m) (y := y.m)
 refine zaa (args := [.agg (mrC x).toArray, .agg (mrC y).toArray]) Tryz.func50 rfl NL ?_; refine GW ?_
 obtain ⟨a_b1, v_b1, k_w1, z_w1, r_w1⟩ := new5 w 42 (mrC x)
 generalize w.alloc (.cells (List.toArray (mrC x)) 42) = w1 at *
 generalize hs_b1 : w.heap.size = b1 at *
 obtain ⟨a_b2, v_b2, k_w2, z_w2, r_w2⟩ := new5 w1 42 (mrC y)
 generalize w1.alloc (.cells (List.toArray (mrC y)) 42) = w2 at *
 generalize hs_b2 : w1.heap.size = b2 at *
 have K2 : Kp w w2 n_ := k_w1.trans0 k_w2
 have a1 := zac a_b1 k_w2
 have a2 := a_b2
 have d1 := dg_at a1
 have d2 := dg_at a2
 have kr2 := Kp.refl w2 n_
 by_cases c1 : x.m.id = y.m.id
 rotate_left
 ·refine KGO ?_
  exact ⟨zad (decide_eq_false fun h => c1 (hmm.1 h).1).symm, K2⟩
 refine KGO ?_
 refine znN _ _ _ _ ?_
 by_cases c2 : x.m.blob = y.m.blob
 rotate_left
 ·rw [decide_eq_false c2]
  refine KGO ?_
  exact ⟨zad (decide_eq_false fun h => c2 (hmm.1 h).2.1).symm, K2⟩
 rw [decide_eq_true c2]
 refine KGO ?_
 refine CallS.of (Tryz.call117 _ _) (eqs_I (w := w2) x.m.boxes y.m.boxes (hx.b.keep K2) (hy.b.keep K2) h1) ?_
 rintro e w3 ⟨rfl, k3⟩
 have K3 := K2.trans0 k3
 have a13 := zac a1 k3
 have a23 := zac a2 k3
 have kr3 := Kp.refl w3 n_
 refine RT ?_
 by_cases c3 : x.m.boxes = y.m.boxes
 rotate_left
 ·rw [decide_eq_false c3]
  refine KGO ?_
  exact ⟨zad (decide_eq_false fun h => c3 (hmm.1 h).2.2.1).symm, K3⟩
 rw [decide_eq_true c3]
 refine KGO ?_
 refine CallS.of (Tryz.call118 _ _) (eqs_T (w := w3) x.m.flags y.m.flags (hx.f.keep K3) (hy.f.keep K3) h2) ?_
 rintro e w4 ⟨rfl, k4⟩
 have K4 := K3.trans0 k4
 have a14 := zac a13 k4
 have a24 := zac a23 k4
 have kr4 := Kp.refl w4 n_
 refine RT ?_
 by_cases c4 : x.m.flags = y.m.flags
 rotate_left
 ·rw [decide_eq_false c4]
  refine KGO ?_
  exact ⟨zad (decide_eq_false fun h => c4 (hmm.1 h).2.2.2.1).symm, K4⟩
 rw [decide_eq_true c4]
 by_cases c5 : x.m.at_ = y.m.at_
 rotate_left
 ·refine KGO ?_
  exact ⟨zad (decide_eq_false fun h => c5 (hmm.1 h).2.2.2.2.1).symm, K4⟩
 by_cases c6 : x.m.size = y.m.size
 rotate_left
 ·refine KGO ?_
  exact ⟨zad (decide_eq_false fun h => c6 (hmm.1 h).2.2.2.2.2.1).symm, K4⟩
 refine KGO ?_
 exact ⟨zad (by rw [Bool.eq_iff_iff, beq_iff_eq, decide_eq_true_eq]; exact ⟨fun h => hmm.2 ⟨c1, c2, c3, c4, c5, c6, h⟩, fun h => (hmm.1 h).2.2.2.2.2.2⟩), K4⟩
theorem zpo {va vb : Value} (la lb : List Mr) (ha : RowMr w va la) (hb : RowMr w vb lb) (oa : ∀ x ∈ la, MailOk w x) (ob : ∀ x ∈ lb, MailOk w x) (hl : la.length ≤ 1000000) (hx : ∀ x ∈ la, x.m.boxes.length ≤ 1000000 ∧ x.m.flags.length ≤ 1000000) :
  Calls Tryz.prog 49 #[va, vb, fv 50] w fun e w' => e = .returned (.bool (decide (la.map (·.m) = lb.map (·.m)))) ∧ Kp w w' n_ := by
 obtain ⟨a, ca, rfl, hra⟩ := ha
 obtain ⟨b, cb, rfl, hrb⟩ := hb
 refine zaa (args := [.slice a la.length ca, .slice b lb.length cb, fv 50]) Tryz.func49 rfl NL ?_; refine GW ?_
 by_cases hn : la.length = lb.length
 rotate_left
 ·refine KGO ?_
  refine ⟨zad ?_, Kp.refl _ _⟩
  exact (decide_eq_false fun h => hn (by have := congrArg List.length h; simpa using this)).symm
 refine KGO ?_
 refine Loop.intro (ι := Nat) (fun i => [(0, .slice a la.length ca), (1, .slice b lb.length cb), (2, fv 50), (15, .slice a la.length ca), (16, .int .i64 (la.length : Nat)), (17, .int .i64 (i : Nat))])
  (fun i wr => Kp w wr n_ ∧ i ≤ la.length ∧ (la.map (·.m)).take i = (lb.map (·.m)).take i) (fun i => la.length - i) 0 ⟨rfl, rfl, rfl, rfl, rfl, rfl, trivial⟩ ⟨Kp.refl _ _, Nat.zero_le _, rfl⟩ ?_
 rintro i gg wr ⟨hK, hi, ht⟩
 refine GW ?_
 by_cases hlt : i < la.length
 ·have hlt2 : i < lb.length := by omega
  obtain ⟨ga, oga, rfl, hga, hata⟩ := hra (by omega)
  obtain ⟨gb, ogb, rfl, hgb, hatb⟩ := hrb (by omega)
  refine KGO ?_
  refine Store.fresh (vs := mrC la[i]) (by rfl) rfl (zan (by rfl)) ?_
  obtain ⟨a_b4, k_w4, z_w4⟩ := new3 wr 42 (mrC la[i])
  generalize wr.alloc (.cells (List.toArray (mrC la[i])) 42) = w4 at *
  generalize hs_b4 : wr.heap.size = b4 at *
  have K4 := hK.trans0 k_w4
  refine KGO ?_
  refine Store.fresh (vs := mrC lb[i]) (by rfl) rfl (zan (by rfl)) ?_
  obtain ⟨a_b5, k_w5, z_w5⟩ := new3 w4 42 (mrC lb[i])
  generalize w4.alloc (.cells (List.toArray (mrC lb[i])) 42) = w5 at *
  generalize hs_b5 : w4.heap.size = b5 at *
  have K5 := K4.trans0 k_w5
  have a45 := zac a_b4 k_w5
  have kr5 := Kp.refl w5 n_
  refine KGO ?_
  refine CallS.of (Tryz.call50 _ _) (zhX (w := w5) la[i] lb[i] ((oa _ (List.getElem_mem hlt)).keep K5) ((ob _ (List.getElem_mem hlt2)).keep K5) (hx _ (List.getElem_mem hlt)).1 (hx _ (List.getElem_mem hlt)).2) ?_
  rintro e w6 ⟨rfl, k6⟩
  have K6 := K5.trans0 k6
  refine RT ?_
  by_cases he : la[i].m = lb[i].m
  ·rw [decide_eq_true he]
   refine KGO ?_
   exact ⟨i + 1, ⟨rfl, rfl, rfl, rfl, rfl, v_int (by simp), trivial⟩, ⟨K6, by omega, by rw [List.take_succ_eq_append_getElem (by simpa using hlt), List.take_succ_eq_append_getElem (by simpa using hlt2), ht, List.getElem_map, List.getElem_map, he]⟩, by dsimp only; omega⟩
  ·rw [decide_eq_false he]
   refine KGO ?_
   refine ⟨zad (decide_eq_false fun h => he ?_).symm, K6⟩
   have h1 : (la.map (·.m))[i]? = (lb.map (·.m))[i]? := by rw [h]
   rw [List.getElem?_map, List.getElem?_map, List.getElem?_eq_getElem hlt, List.getElem?_eq_getElem hlt2] at h1
   injection h1
 ·refine KGO ?_
  refine ⟨zad ?_, hK⟩
  have e : i = la.length := by omega
  rw [List.take_of_length_le (by simp; omega), List.take_of_length_le (by simp; omega)] at ht
  rw [ht]; simp
theorem zoO {h h' : Hd} {A A' : Acc} (hr : AccR w h A) (hr' : AccR w h' A') (f : Fit A) :
  Calls Tryz.prog 21 #[.agg (accC h A).toArray, .agg (accC h' A').toArray] w fun e w' => e = .returned (.bool (decide (A = A'))) ∧ Kp w w' n_ := by
 obtain ⟨lx, hlx, hmx, hox⟩ := hr.m
 obtain ⟨ly, hly, hmy, hoy⟩ := hr'.m
 have hll : lx.length = A.mails.length := by rw [← hlx, List.length_map]
 have hacc : A = A' ↔ A.boxes = A'.boxes ∧ A.mails = A'.mails ∧ A.scripts = A'.scripts ∧ A.active = A'.active ∧ A.seen = A'.seen ∧ A.nm = A'.nm ∧ A.nb = A'.nb ∧ A.st = A'.st := by
  cases A; cases A'; simp
 have f1 := f.bl; have f2 := f.ml; have f3 := f.sl; have f4 := f.nl
 refine zaa (args := [.agg (accC h A).toArray, .agg (accC h' A').toArray]) Tryz.func21 rfl NL ?_; refine GW ?_
 obtain ⟨a_b1, v_b1, k_w1, z_w1, r_w1⟩ := new5 w 36 (accC h A)
 generalize w.alloc (.cells (List.toArray (accC h A)) 36) = w1 at *
 generalize hs_b1 : w.heap.size = b1 at *
 obtain ⟨a_b2, v_b2, k_w2, z_w2, r_w2⟩ := new5 w1 36 (accC h' A')
 generalize w1.alloc (.cells (List.toArray (accC h' A')) 36) = w2 at *
 generalize hs_b2 : w1.heap.size = b2 at *
 have K2 : Kp w w2 n_ := k_w1.trans0 k_w2
 have a1 := zac a_b1 k_w2
 have a2 := a_b2
 have kr2 := Kp.refl w2 n_
 refine KGO ?_
 refine CallS.of (Tryz.call48 _ _) (zoJ (w := w2) A.boxes A'.boxes (hr.b.keep K2) (hr'.b.keep K2) (by omega)) ?_
 rintro e w3 ⟨rfl, k3⟩
 have K3 := K2.trans0 k3
 have a13 := zac a1 k3
 have a23 := zac a2 k3
 have kr3 := Kp.refl w3 n_
 refine RT ?_
 by_cases c1 : A.boxes = A'.boxes
 rotate_left
 ·rw [decide_eq_false c1]
  refine KGO ?_
  exact ⟨zad (decide_eq_false fun q => c1 (hacc.1 q).1).symm, K3⟩
 rw [decide_eq_true c1]
 refine KGO ?_
 refine CallS.of (Tryz.call49 _ _) (zpo (w := w3) lx ly (hmx.keep K3) (hmy.keep K3) (fun x hx => (hox x hx).keep K3) (fun x hx => (hoy x hx).keep K3) (by omega) (fun x hx => by have := f.mb x.m (by rw [← hlx]; exact List.mem_map_of_mem hx); omega)) ?_
 rintro e w4 ⟨rfl, k4⟩
 rw [hlx, hly]
 have K4 := K3.trans0 k4
 have a14 := zac a13 k4
 have a24 := zac a23 k4
 have kr4 := Kp.refl w4 n_
 refine RT ?_
 by_cases c2 : A.mails = A'.mails
 rotate_left
 ·rw [decide_eq_false c2]
  refine KGO ?_
  exact ⟨zad (decide_eq_false fun q => c2 (hacc.1 q).2.1).symm, K4⟩
 rw [decide_eq_true c2]
 refine KGO ?_
 refine CallS.of (Tryz.call51 _ _) (zpc (w := w4) A.scripts A'.scripts (hr.s.keep K4) (hr'.s.keep K4) (by omega)) ?_
 rintro e w5 ⟨rfl, k5⟩
 have K5 := K4.trans0 k5
 have a15 := zac a14 k5
 have a25 := zac a24 k5
 have kr5 := Kp.refl w5 n_
 refine RT ?_
 by_cases c3 : A.scripts = A'.scripts
 rotate_left
 ·rw [decide_eq_false c3]
  refine KGO ?_
  exact ⟨zad (decide_eq_false fun q => c3 (hacc.1 q).2.2.1).symm, K5⟩
 rw [decide_eq_true c3]
 by_cases c4 : A.active = A'.active
 rotate_left
 ·have c4' : ¬ str A.active = str A'.active := fun e => c4 (zbm.1 e)
  refine KGO ?_
  exact ⟨zad (decide_eq_false fun q => c4 (hacc.1 q).2.2.2.1).symm, K5⟩
 have c4' : str A.active = str A'.active := by rw [c4]
 refine KGO ?_
 refine CallS.of (Tryz.call52 _ _) (zpT (w := w5) A.seen A'.seen (hr.n.keep K5) (hr'.n.keep K5) (by omega)) ?_
 rintro e w6 ⟨rfl, k6⟩
 have K6 := K5.trans0 k6
 have a16 := zac a15 k6
 have a26 := zac a25 k6
 have kr6 := Kp.refl w6 n_
 refine RT ?_
 by_cases c5 : A.seen = A'.seen
 rotate_left
 ·rw [decide_eq_false c5]
  refine KGO ?_
  exact ⟨zad (decide_eq_false fun q => c5 (hacc.1 q).2.2.2.2.1).symm, K6⟩
 rw [decide_eq_true c5]
 by_cases c6 : A.nm = A'.nm
 rotate_left
 ·refine KGO ?_
  exact ⟨zad (decide_eq_false fun q => c6 (hacc.1 q).2.2.2.2.2.1).symm, K6⟩
 by_cases c7 : A.nb = A'.nb
 rotate_left
 ·refine KGO ?_
  exact ⟨zad (decide_eq_false fun q => c7 (hacc.1 q).2.2.2.2.2.2.1).symm, K6⟩
 refine KGO ?_
 exact ⟨zad (by rw [Bool.eq_iff_iff, beq_iff_eq, decide_eq_true_eq]; exact ⟨fun h => hacc.2 ⟨c1, c2, c3, c4, c5, c6, c7, h⟩, fun h => (hacc.1 h).2.2.2.2.2.2.2⟩), K6⟩
end
end Go.Proofs.YtohhkegmbgancaaGreatDoor
namespace Go.Cs
set_option maxHeartbeats 8000000
open Go.Lib
set_option linter.unusedVariables false
section
end
end Go.Cs
namespace Go.Proofs.YtohhkegmbgancaaGreatDoor
set_option maxHeartbeats 8000000
open Go.Shelf Go.RowKit Go.Pw Go.Vc Go.Cs Go.Lib
set_option linter.unusedVariables false
set_option maxRecDepth 100000
theorem str_nil' : str [] = (⟨#[]⟩ : ByteArray) := rfl
def zD : Dg := ⟨0, 0, 0, 0, 0, 0, 0, 0, 0, 0, 0, 0, 0, 0, 0, 0, 0, 0, 0, 0, 0, 0, 0, 0, 0, 0, 0, 0, 0, 0, 0, 0⟩
def seenT : List UInt8 := [115, 101, 101, 110]
def smo1 : Opr := ⟨1, 0, 0, 0, [], [], [], zD, [1, 1], [seenT], [], 0, 0, -1⟩
def smo2 : Opr := ⟨2, 1, 0, 0, [], [], [], zD, [], [[98], [97]], [seenT], 0, 0, 1⟩
def smo3 : Opr := ⟨2, 1, 0, 0, [], [], [], zD, [], [], [], 0, 0, 1⟩
def smo4 : Opr := ⟨8, 0, 1, 0, [], [], [], zD, [], [], [], 0, 0, 0⟩
def smo5 : Opr := ⟨5, 0, 0, 0, [120], [], [], zD, [], [], [], 0, 0, 0⟩
def smA1 : Acc := (applyA newA smo1).1
def smA2 : Acc := (applyA smA1 smo2).1
def smA3 : Acc := (applyA smA2 smo5).1
def smM : Ml := ⟨1, zD, [1], [[97], [98]], 0, 0, 2⟩
theorem sm1 : (applyA newA smo1).2 = (1, 0) := by decide +kernel
theorem sm2 : (applyA smA1 smo2).2 = (0, 0) := by decide +kernel
theorem sm3 : (applyA smA2 smo3).2.2 = 17 := by decide +kernel
theorem sm4 : (applyA smA2 smo4).2.2 = 20 := by decide +kernel
theorem sm5 : (applyA smA2 smo5).2 = (2, 0) := by decide +kernel
theorem sm6 : findL smA3.mails 1 = some smM := by decide +kernel
theorem sm7 : smA3.st = 3 := by decide +kernel
theorem sm8 : inL smA3.mails 1 = [1] := by decide +kernel
theorem sm9 : inL smA3.mails 2 = [] := by decide +kernel
theorem smG1 : GoodP smA1 := zcI zev smo1
theorem smG2 : GoodP smA2 := zcI smG1 smo2
theorem smG3 : GoodP smA3 := zcI smG2 smo5
theorem zeU {A : Acc} (g : GoodP A) : Fit A := zmy g.toGoodQ (by have := g.top; unfold M40 at this; omega)
theorem fito (o : Opr) (h : o.boxes.length ≤ 2 ∧ o.add.length ≤ 2 ∧ o.drop.length ≤ 2 ∧ (∀ f ∈ o.add, f.length ≤ 9) ∧ (∀ f ∈ o.drop, f.length ≤ 9) ∧ o.name.length ≤ 9 ∧ o.role.length ≤ 9 ∧ o.text.length ≤ 9) : FitO o :=
 ⟨by omega, by omega, by omega, fun f hf => Nat.le_trans (h.2.2.2.1 f hf) (by decide), fun f hf => Nat.le_trans (h.2.2.2.2.1 f hf) (by decide), by omega, by omega, by omega⟩
theorem smF1 : FitO smo1 := fito _ (by decide)
theorem smF2 : FitO smo2 := fito _ (by decide)
theorem smF3 : FitO smo3 := fito _ (by decide)
theorem smF4 : FitO smo4 := fito _ (by decide)
theorem smF5 : FitO smo5 := fito _ (by decide)
abbrev nSl : Sl := ⟨none, 0, 0⟩
theorem bop1 (s t : Sl) (w : World) : (Instr.build 28 [(0, .int .i64 1), (8, .slice s.a s.n s.c), (9, .slice t.a t.n t.c), (13, .int .i64 (-1))].toArray).run Tryz.prog w = .ok (.agg (opC ⟨s, t, nSl⟩ smo1).toArray) w := by
 simp [Instr.build, Instr.fill, go_sem, Tryz.runUnderlying28, opC, smo1, dgC, zD, str_nil']
theorem bop2 (s t : Sl) (w : World) : (Instr.build 28 [(0, .int .i64 2), (1, .int .i64 1), (9, .slice s.a s.n s.c), (10, .slice t.a t.n t.c), (13, .int .i64 1)].toArray).run Tryz.prog w = .ok (.agg (opC ⟨nSl, s, t⟩ smo2).toArray) w := by
 simp [Instr.build, Instr.fill, go_sem, Tryz.runUnderlying28, opC, smo2, dgC, zD, str_nil']
theorem bop3 (w : World) : (Instr.build 28 [(0, .int .i64 2), (1, .int .i64 1), (13, .int .i64 1)].toArray).run Tryz.prog w = .ok (.agg (opC ⟨nSl, nSl, nSl⟩ smo3).toArray) w := by
 simp [Instr.build, Instr.fill, go_sem, Tryz.runUnderlying28, opC, smo3, dgC, zD, str_nil']
theorem bop4 (w : World) : (Instr.build 28 [(0, .int .i64 8), (2, .int .i64 1)].toArray).run Tryz.prog w = .ok (.agg (opC ⟨nSl, nSl, nSl⟩ smo4).toArray) w := by
 simp [Instr.build, Instr.fill, go_sem, Tryz.runUnderlying28, opC, smo4, dgC, zD, str_nil']
theorem bop5 (w : World) : (Instr.build 28 [(0, .int .i64 5), (4, .string ⟨#[120]⟩)].toArray).run Tryz.prog w = .ok (.agg (opC ⟨nSl, nSl, nSl⟩ smo5).toArray) w := by
 simp [Instr.build, Instr.fill, go_sem, Tryz.runUnderlying28, opC, smo5, dgC, zD, str_nil']
 rfl
theorem bsI2 (a b : Int) (w : World) : (Instr.buildSlice 25 2 [(0, .int .i64 a), (1, .int .i64 b)].toArray).run Tryz.prog w = .ok (.slice (some ⟨w.heap.size, 0, none⟩) 2 2) (w.alloc (.cells (List.toArray [.int .i64 a, .int .i64 b]) 3)) := by
 simp [Instr.buildSlice, go_sem, Tryz.runUnderlying25]
theorem bsT1 (a : ByteArray) (w : World) : (Instr.buildSlice 26 1 [(0, .string a)].toArray).run Tryz.prog w = .ok (.slice (some ⟨w.heap.size, 0, none⟩) 1 1) (w.alloc (.cells (List.toArray [.string a]) 9)) := by
 simp [Instr.buildSlice, go_sem, Tryz.runUnderlying26]
theorem bsT2 (a b : ByteArray) (w : World) : (Instr.buildSlice 26 2 [(0, .string a), (1, .string b)].toArray).run Tryz.prog w = .ok (.slice (some ⟨w.heap.size, 0, none⟩) 2 2) (w.alloc (.cells (List.toArray [.string a, .string b]) 9)) := by
 simp [Instr.buildSlice, go_sem, Tryz.runUnderlying26]
theorem zgy {α : Type} {w : World} {b : Nat} (c : α → List Value) (l : List α) (n : Nat) (h : At w b 0 (l.flatMap c)) (hb : b < w.heap.size) : RowO w (.slice (some ⟨b, 0, none⟩) l.length n) c l := ⟨_, n, rfl, fun _ => ⟨b, 0, rfl, hb, h⟩⟩
section
variable {w : World}
theorem zjX (hE : BEnv w) : Calls Tryz.prog 7 #[] w fun e w' => e = .returned (.bool true) ∧ Kp w w' n_ := by
 have fA0 := zeU zev
 have fA1 := zeU smG1
 have fA2 := zeU smG2
 have fA3 := zeU smG3
 refine zaa (args := []) Tryz.func7 rfl NL ?_; refine GW ?_
 refine CallS.of (Tryz.call9 _ _) (znP (w := w) hE) ?_
 rintro e w1 ⟨h0, rfl, st0, k1⟩
 have hM0 : h0.M.n = 0 := by
  obtain ⟨lx, h1, h2, _⟩ := st0.read.m
  have := RowO.len h2
  rw [this]
  have := congrArg List.length h1
  rw [List.length_map] at this
  rw [this]; rfl
 refine RT ?_
 refine KGO ?_
 refine Store.fresh (vs := accC h0 newA) (by rfl) rfl (zan (by rfl)) ?_
 obtain ⟨a_b1, k_w2, z_w2⟩ := new3 w1 36 (accC h0 newA)
 generalize w1.alloc (.cells (List.toArray (accC h0 newA)) 36) = w2 at *
 generalize hs_b1 : w1.heap.size = b1 at *
 have K2 := k1.trans0 k_w2
 have st0 := st0.keep k_w2
 have kr2 := Kp.refl w2 n_
 refine KGO ?_
 refine RunV.of (bsI2 _ _ _) ?_
 have k_w3 : Kp w2 (w2.alloc (.cells (List.toArray [.int .i64 1, .int .i64 1]) 3)) n_ := (Kp.refl _ _).alloc _
 have r3 : RowI (w2.alloc (.cells (List.toArray [.int .i64 1, .int .i64 1]) 3)) (.slice (some ⟨w2.heap.size, 0, none⟩) 2 2) [1, 1] := zgy inC [1, 1] 2 (zao _ _ _) (by simp)
 generalize w2.alloc (.cells (List.toArray [.int .i64 1, .int .i64 1]) 3) = w3 at *
 generalize w2.heap.size = bb3 at *
 refine KGO ?_
 refine RunV.of (bsT1 _ _) ?_
 have k_w4 : Kp w3 (w3.alloc (.cells (List.toArray [.string ⟨#[115, 101, 101, 110]⟩]) 9)) n_ := (Kp.refl _ _).alloc _
 have r4 : RowT (w3.alloc (.cells (List.toArray [.string ⟨#[115, 101, 101, 110]⟩]) 9)) (.slice (some ⟨w3.heap.size, 0, none⟩) 1 1) [seenT] := zgy txC [seenT] 1 (zao _ _ _) (by simp)
 generalize w3.alloc (.cells (List.toArray [.string ⟨#[115, 101, 101, 110]⟩]) 9) = w4 at *
 generalize w3.heap.size = bb4 at *
 have K4 := (K2.trans0 k_w3).trans0 k_w4
 have J4 := k_w3.trans0 k_w4
 refine KGO ?_
 refine RunV.of (bop1 ⟨_, _, _⟩ ⟨_, _, _⟩ _) ?_
 refine KGO ?_
 refine CallS.of (Tryz.call10 _ _) (zcr (w := w4) (st0.keep J4).read fA0 (by decide) zev.sasc ⟨r3.keep k_w4, r4, zaW _⟩ smF1 (hE.keep K4)) ?_
 rintro e w5 ⟨h1, rfl, st1, k5⟩
 rw [sm1]
 rw [show (applyA newA smo1).1 = smA1 from rfl] at st1 ⊢
 have K5 := K4.trans0 k5
 dsimp only
 refine RT ?_
 refine KGO ?_
 refine Store.fresh (vs := accC h1 smA1) (by rfl) rfl (zan (by rfl)) ?_
 obtain ⟨a_b6, k_w6, z_w6⟩ := new3 w5 36 (accC h1 smA1)
 generalize w5.alloc (.cells (List.toArray (accC h1 smA1)) 36) = w6 at *
 generalize hs_b6 : w5.heap.size = b6 at *
 have K6 := K5.trans0 k_w6
 have st1 := st1.keep k_w6
 have a_b1 := zac a_b1 ((J4.trans0 k5).trans0 k_w6)
 clear r3 r4 k_w3 k_w4 J4 k5 kr2 st0
 have kr6 := Kp.refl w6 n_
 refine KGO ?_
 refine RunV.of (bsT2 _ _ _) ?_
 have k_w7 : Kp w6 (w6.alloc (.cells (List.toArray [.string ⟨#[98]⟩, .string ⟨#[97]⟩]) 9)) n_ := (Kp.refl _ _).alloc _
 have r7 : RowT (w6.alloc (.cells (List.toArray [.string ⟨#[98]⟩, .string ⟨#[97]⟩]) 9)) (.slice (some ⟨w6.heap.size, 0, none⟩) 2 2) [[98], [97]] := zgy txC [[98], [97]] 2 (zao _ _ _) (by simp)
 generalize w6.alloc (.cells (List.toArray [.string ⟨#[98]⟩, .string ⟨#[97]⟩]) 9) = w7 at *
 generalize w6.heap.size = bb7 at *
 refine KGO ?_
 refine RunV.of (bsT1 _ _) ?_
 have k_w8 : Kp w7 (w7.alloc (.cells (List.toArray [.string ⟨#[115, 101, 101, 110]⟩]) 9)) n_ := (Kp.refl _ _).alloc _
 have r8 : RowT (w7.alloc (.cells (List.toArray [.string ⟨#[115, 101, 101, 110]⟩]) 9)) (.slice (some ⟨w7.heap.size, 0, none⟩) 1 1) [seenT] := zgy txC [seenT] 1 (zao _ _ _) (by simp)
 generalize w7.alloc (.cells (List.toArray [.string ⟨#[115, 101, 101, 110]⟩]) 9) = w8 at *
 generalize w7.heap.size = bb8 at *
 have J8 := k_w7.trans0 k_w8
 have K8 := K6.trans0 J8
 refine KGO ?_
 refine RunV.of (bop2 ⟨_, _, _⟩ ⟨_, _, _⟩ _) ?_
 refine KGO ?_
 refine CallS.of (Tryz.call10 _ _) (zcr (w := w8) (st1.keep J8).read fA1 (by have := smG1.top; unfold M40 at this; omega) smG1.sasc ⟨zaW _, r7.keep k_w8, r8⟩ smF2 (hE.keep K8)) ?_
 rintro e w9 ⟨h2, rfl, st2, k9⟩
 rw [sm2]
 rw [show (applyA smA1 smo2).1 = smA2 from rfl] at st2 ⊢
 have K9 := K8.trans0 k9
 dsimp only
 refine RT ?_
 refine KGO ?_
 refine Store.fresh (vs := accC h2 smA2) (by rfl) rfl (zan (by rfl)) ?_
 obtain ⟨a_b10, k_w10, z_w10⟩ := new3 w9 36 (accC h2 smA2)
 generalize w9.alloc (.cells (List.toArray (accC h2 smA2)) 36) = w10 at *
 generalize hs_b10 : w9.heap.size = b10 at *
 have K10 := K9.trans0 k_w10
 have st2 := st2.keep k_w10
 have a_b1 := zac a_b1 ((J8.trans0 k9).trans0 k_w10)
 clear r7 r8 k_w7 k_w8 J8 k9 kr6 st1 a_b6
 have kr10 := Kp.refl w10 n_
 refine KGO ?_
 refine RunV.of (bop3 _) ?_
 refine KGO ?_
 refine CallS.of (Tryz.call10 _ _) (zcr (w := w10) st2.read fA2 (by have := smG2.top; unfold M40 at this; omega) smG2.sasc ⟨zaW _, zaW _, zaW _⟩ smF3 (hE.keep K10)) ?_
 rintro e w11 ⟨h3, rfl, -, k11⟩
 rw [sm3]
 have K11 := K10.trans0 k11
 refine RT ?_
 refine KGO ?_
 refine Store.fresh (vs := accC h3 (applyA smA2 smo3).1) (by rfl) rfl (zan (by rfl)) ?_
 obtain ⟨a_b12, k_w12, z_w12⟩ := new3 w11 36 (accC h3 (applyA smA2 smo3).1)
 generalize w11.alloc (.cells (List.toArray (accC h3 (applyA smA2 smo3).1)) 36) = w12 at *
 generalize hs_b12 : w11.heap.size = b12 at *
 have K12 := K11.trans0 k_w12
 have st2 := st2.keep (k11.trans0 k_w12)
 have a_b1 := zac a_b1 (k11.trans0 k_w12)
 have a_b10 := zac a_b10 (k11.trans0 k_w12)
 clear k11 kr10 a_b12
 have kr12 := Kp.refl w12 n_
 refine KGO ?_
 refine RunV.of (bop4 _) ?_
 refine KGO ?_
 refine CallS.of (Tryz.call10 _ _) (zcr (w := w12) st2.read fA2 (by have := smG2.top; unfold M40 at this; omega) smG2.sasc ⟨zaW _, zaW _, zaW _⟩ smF4 (hE.keep K12)) ?_
 rintro e w13 ⟨h4, rfl, -, k13⟩
 rw [sm4]
 have K13 := K12.trans0 k13
 refine RT ?_
 refine KGO ?_
 refine Store.fresh (vs := accC h4 (applyA smA2 smo4).1) (by rfl) rfl (zan (by rfl)) ?_
 obtain ⟨a_b14, k_w14, z_w14⟩ := new3 w13 36 (accC h4 (applyA smA2 smo4).1)
 generalize w13.alloc (.cells (List.toArray (accC h4 (applyA smA2 smo4).1)) 36) = w14 at *
 generalize hs_b14 : w13.heap.size = b14 at *
 have K14 := K13.trans0 k_w14
 have st2 := st2.keep (k13.trans0 k_w14)
 have a_b1 := zac a_b1 (k13.trans0 k_w14)
 have a_b10 := zac a_b10 (k13.trans0 k_w14)
 clear k13 kr12 a_b14
 have kr14 := Kp.refl w14 n_
 refine KGO ?_
 refine RunV.of (bop5 _) ?_
 refine KGO ?_
 refine CallS.of (Tryz.call10 _ _) (zcr (w := w14) st2.read fA2 (by have := smG2.top; unfold M40 at this; omega) smG2.sasc ⟨zaW _, zaW _, zaW _⟩ smF5 (hE.keep K14)) ?_
 rintro e w15 ⟨h5, rfl, st5, k15⟩
 rw [sm5]
 rw [show (applyA smA2 smo5).1 = smA3 from rfl] at st5 ⊢
 have K15 := K14.trans0 k15
 dsimp only
 refine RT ?_
 refine KGO ?_
 refine Store.fresh (vs := accC h5 smA3) (by rfl) rfl (zan (by rfl)) ?_
 obtain ⟨a_b16, k_w16, z_w16⟩ := new3 w15 36 (accC h5 smA3)
 generalize w15.alloc (.cells (List.toArray (accC h5 smA3)) 36) = w16 at *
 generalize hs_b16 : w15.heap.size = b16 at *
 have K16 := K15.trans0 k_w16
 have st5 := st5.keep k_w16
 have a_b1 := zac a_b1 (k15.trans0 k_w16)
 clear k15 kr14 a_b10 st2
 have kr16 := Kp.refl w16 n_
 have hml := fA3.ml
 have hmb := fA3.mb
 refine KGO ?_
 refine CallS.of (Tryz.call11 _ _) (zly (w := w16) 1 st5.read (by omega) (fun m hm => by have := hmb m hm; omega)) ?_
 rintro e w17 ⟨y, rfl, hy, hyo, k17⟩
 rw [sm6] at hy ⊢
 dsimp only [Option.isSome, Option.getD] at hy ⊢
 obtain ⟨ym, yb, ya, yn, yc⟩ := y
 dsimp only at hy
 subst hy
 obtain ⟨fa, fc, hfe, hfr⟩ := hyo.f
 injection hfe with e1 e2 e3
 dsimp only at e1 e2 e3 hfr
 subst e1; subst e2; subst e3
 obtain ⟨fg, fo, rfl, hfg, hfat⟩ := hfr (by decide)
 have K17 := K16.trans0 k17
 refine RT ?_
 refine KGO ?_
 refine Store.fresh (vs := mrC ⟨smM, yb, ⟨some ⟨fg, fo, none⟩, smM.flags.length, yc⟩⟩) (by rfl) rfl (zan (by rfl)) ?_
 obtain ⟨a_b18, k_w18, z_w18⟩ := new3 w17 42 (mrC ⟨smM, yb, ⟨some ⟨fg, fo, none⟩, smM.flags.length, yc⟩⟩)
 generalize w17.alloc (.cells (List.toArray (mrC ⟨smM, yb, ⟨some ⟨fg, fo, none⟩, smM.flags.length, yc⟩⟩)) 42) = w18 at *
 generalize hs_b18 : w17.heap.size = b18 at *
 have K18 := K17.trans0 k_w18
 have st5 := st5.keep (k17.trans0 k_w18)
 have hyo := hyo.keep k_w18
 have a_b1 := zac a_b1 (k17.trans0 k_w18)
 have a_b16 := zac a_b16 (k17.trans0 k_w18)
 clear k17 kr16
 have kr18 := Kp.refl w18 n_
 have q1 : smM.flags.length = 2 := rfl
 have q2 : smM.mod = 2 := rfl
 have q3 := sm7
 have hfat := zac hfat k_w18
 have hf0 : w18.cell? ⟨fg, fo + 0, none⟩ = some (.string ⟨#[97]⟩) := zbB (l := smM.flags) hfat (i := 0) (by decide)
 have hf0' : w18.cell? ⟨fg, fo, none⟩ = some (.string ⟨#[97]⟩) := hf0
 have i1 : (2 : Nat) = 2 := rfl
 clear hfr hml hmb
 refine KGO ?_
 refine Idx.lit (j := 0) rfl (by show 0 < 2; decide) ?_
 refine GW ?_
 refine KGO ?_
 refine CallS.of (Tryz.call24 _ _) (zmx (w := w18) st5.read fA3 (hE.keep K18)) ?_
 rintro e w19 ⟨rfl, k19⟩
 rw [zjK smG3]
 have K19 := K18.trans0 k19
 have a_b1 := zac a_b1 k19
 have a_b16 := zac a_b16 k19
 have kr19 := Kp.refl w19 n_
 refine RT ?_
 refine KGO ?_
 refine CallS.of (Tryz.call17 _ _) (ac_In (w := w19) 1 (st5.read.keep k19).m (by have := fA3.ml; omega) (fun m hm => by have := fA3.mb m hm; omega)) ?_
 rintro e w20 ⟨v20, rfl, o20, k20⟩
 obtain ⟨a20, c20, rfl⟩ := zab o20
 rw [sm8]
 have K20 := K19.trans0 k20
 have a_b1 := zac a_b1 k20
 have a_b16 := zac a_b16 k20
 have kr20 := Kp.refl w20 n_
 refine RT ?_
 refine KGO ?_
 refine CallS.of (Tryz.call17 _ _) (ac_In (w := w20) 2 (st5.read.keep (k19.trans0 k20)).m (by have := fA3.ml; omega) (fun m hm => by have := fA3.mb m hm; omega)) ?_
 rintro e w21 ⟨v21, rfl, o21, k21⟩
 obtain ⟨a21, c21, rfl⟩ := zab o21
 rw [sm9]
 have K21 := K20.trans0 k21
 have a_b1 := zac a_b1 k21
 have kr21 := Kp.refl w21 n_
 refine RT ?_
 refine KGO ?_
 exact ⟨by rw [hM0]; rfl, K21⟩
end
section
variable {w : World}
theorem RowOp.keep {w w' : World} {v : Value} {l : List Opr} (h : RowOp w v l) (k : Kp w w' n_) : RowOp w' v l :=
 let ⟨lv, h1, h2, h3⟩ := h
 ⟨lv, h1, h2.keep k, fun p hp => (h3 p hp).keep k⟩
end
end Go.Proofs.YtohhkegmbgancaaGreatDoor
namespace Go.Cs
set_option maxHeartbeats 8000000
open Go.Lib
set_option linter.unusedVariables false
theorem zez {α : Type} [DecidableEq α] {lt : α → α → Bool} (h : STO lt) (x : α) : ∀ l : List α, insD lt x l = if l[(l.takeWhile fun y => lt y x).length]? = some x then l else l.take (l.takeWhile fun y => lt y x).length ++ x :: l.drop (l.takeWhile fun y => lt y x).length
 | [] => by simp [insD]
 | y :: r => by
  rw [insD]
  by_cases h1 : lt y x = true
  ·rw [if_pos h1, show (y :: r).takeWhile (fun y => lt y x) = y :: r.takeWhile (fun y => lt y x) from List.takeWhile_cons_of_pos h1, List.length_cons, List.getElem?_cons_succ, zez h x r]
   split
   ·rfl
   ·rfl
  ·rw [if_neg h1, show (y :: r).takeWhile (fun y => lt y x) = [] from List.takeWhile_cons_of_neg h1, List.length_nil, List.getElem?_cons_zero]
   by_cases h2 : lt x y = true
   ·rw [if_pos h2, if_neg (fun e => by injection e with e; rw [e, h.irr] at h2; cases h2)]
    rfl
   ·rw [if_neg h2, if_pos (by rw [h.tri y x (by simpa using h1) (by simpa using h2)])]
theorem zcA (x : Sc) (r : List Sc) (nm : List UInt8) : idxS (x :: r) nm = if ltT x.name nm = true then idxS r nm + 1 else 0 := by
 unfold idxS
 by_cases h : ltT x.name nm = true
 ·rw [show (x :: r).takeWhile (fun s => ltT s.name nm) = x :: r.takeWhile (fun s => ltT s.name nm) from List.takeWhile_cons_of_pos h, if_pos h]; rfl
 ·rw [show (x :: r).takeWhile (fun s => ltT s.name nm) = [] from List.takeWhile_cons_of_neg h, if_neg h]; rfl
theorem zhk (x : Sc) (r : List Sc) (nm : List UInt8) : hasS (x :: r) nm = (decide (x.name = nm) || hasS r nm) := rfl
def restS (l : List Sc) (nm : List UInt8) : List Sc := l.filter fun s => !decide (s.name = nm)
theorem zmt {l : List Sc} {nm : List UInt8} (h : ∀ s ∈ l, ltT nm s.name = true) : restS l nm = l ∧ hasS l nm = false := by
 have hne : ∀ s ∈ l, s.name ≠ nm := fun s hs e => by have := h s hs; rw [e, zgj] at this; cases this
 refine ⟨List.filter_eq_self.2 fun s hs => by simpa using hne s hs, ?_⟩
 rw [Bool.eq_false_iff]
 intro q
 obtain ⟨s, hs, e⟩ := zbH.1 q
 exact hne s hs e
theorem zeD {nm : List UInt8} : ∀ {l : List Sc}, AscS l → restS l nm = l.take (idxS l nm) ++ l.drop (idxS l nm + (if hasS l nm = true then 1 else 0)) ∧ idxS (restS l nm) nm = idxS l nm
 | [], _ => by simp [restS, idxS]
 | x :: r, ha => by
  obtain ⟨h1, h2⟩ := List.pairwise_cons.1 ha
  obtain ⟨i1, i2⟩ := zeD (nm := nm) h2
  by_cases hx : ltT x.name nm = true
  ·have hne : x.name ≠ nm := fun e => by rw [e, zgj] at hx; cases hx
   have hr : restS (x :: r) nm = x :: restS r nm := by unfold restS; rw [List.filter_cons_of_pos (by simpa using hne)]
   rw [hr, zcA, if_pos hx, zcA, if_pos hx, i2, zhk, decide_eq_false hne, Bool.false_or]
   refine ⟨?_, rfl⟩
   rw [List.take_succ_cons, show idxS r nm + 1 + (if hasS r nm = true then 1 else 0) = (idxS r nm + (if hasS r nm = true then 1 else 0)) + 1 by omega, List.drop_succ_cons, List.cons_append, ← i1]
  ·by_cases he : x.name = nm
   ·have hg := zmt (l := r) (nm := nm) fun s hs => by rw [← he]; exact h1 s hs
    have hr : restS (x :: r) nm = r := by
     unfold restS
     rw [List.filter_cons_of_neg (by simpa using he)]
     exact hg.1
    rw [hr, zcA, if_neg hx, zhk, decide_eq_true he, Bool.true_or, if_pos rfl]
    refine ⟨rfl, ?_⟩
    cases r with
    | nil => rfl
    | cons y t =>
     rw [zcA, if_neg]
     intro q
     have := ziQ (h1 y (by simp)) q
     rw [he, zgj] at this; cases this
   ·have hxg : ltT nm x.name = true := by
     cases hq : ltT nm x.name with
     | true => rfl
     | false => exact absurd (stoT.tri _ _ (by simpa using hx) hq) he
    have hg := zmt (l := x :: r) (nm := nm) fun s hs => by
     rcases List.mem_cons.1 hs with rfl | hs
     ·exact hxg
     ·exact ziQ hxg (h1 s hs)
    rw [hg.1, hg.2, zcA, if_neg hx]
    exact ⟨rfl, rfl⟩
theorem zny {l : List Sc} {nm tx : List UInt8} (ha : AscS l) (hh : hasS l nm = true) : l.set (idxS l nm) ⟨nm, tx⟩ = (restS l nm).take (idxS (restS l nm) nm) ++ ⟨nm, tx⟩ :: (restS l nm).drop (idxS (restS l nm) nm) := by
 obtain ⟨h1, h2⟩ := zeD (nm := nm) ha
 obtain ⟨hk, _⟩ := zir ha hh
 rw [if_pos hh] at h1
 rw [h2, h1, List.take_left' (by rw [List.length_take]; omega), List.drop_left' (by rw [List.length_take]; omega)]
 exact List.set_eq_take_append_cons_drop.trans (if_pos hk)
theorem zmG {l : List Sc} {nm tx : List UInt8} (ha : AscS l) (hh : hasS l nm = false) : restS l nm = l := by
 obtain ⟨h1, h2⟩ := zeD (nm := nm) ha
 rw [if_neg (by simp [hh]), Nat.add_zero, List.take_append_drop] at h1
 exact h1
theorem zmO {l : List Sc} {nm : List UInt8} (ha : AscS l) (hh : hasS l nm = true) : restS l nm = l.take (idxS l nm) ++ l.drop (idxS l nm + 1) := by
 obtain ⟨h1, h2⟩ := zeD (nm := nm) ha
 rw [if_pos hh] at h1
 exact h1
end Go.Cs
namespace Go.Proofs.YtohhkegmbgancaaGreatDoor
set_option maxHeartbeats 8000000
open Go.RowKit Go.Pw Go.Vc Go.Cs Go.Lib
set_option linter.unusedVariables false
set_option maxRecDepth 100000
section
end
def bA : Bx := ⟨5, 0, [65], [105, 110, 98, 111, 120]⟩
def LA : List Bx := [bA]
def LB : List Bx := [⟨2, 5, [98], []⟩, bA]
def LC : List Bx := [⟨2, 0, [98], []⟩, bA]
def LN : List Bx := [⟨2, 5, [120], []⟩, bA]
theorem sB : SmallB LB := by unfold SmallB; decide
theorem e1 : addL [] 0 [65] [105, 110, 98, 111, 120] 5 = (LA, 0) := by decide +kernel
theorem e2 : addL LA 5 [98] [] 2 = (LB, 0) := by decide +kernel
theorem e3 : addL LB 5 [66] [] 3 = ([], 4) := by decide +kernel
theorem e4 : addL LB 0 [99] [105, 110, 98, 111, 120] 3 = ([], 4) := by decide +kernel
theorem e5 : moveL LB 5 2 = ([], 11) := by decide +kernel
theorem e6 : moveL LB 2 0 = (LC, 0) := by decide +kernel
theorem e7 : dropL LB 5 = ([], 20) := by decide +kernel
theorem e8 : dropL LB 2 = (LA, 0) := by decide +kernel
theorem e9 : nameL LB 2 [120] = (LN, 0) := by decide +kernel
theorem e10 : addL LB 9 [99] [] 3 = ([], 5) := by decide +kernel
theorem e11 : pathL LB [97, 47, 66] = some 2 := by decide +kernel
theorem e12 : roleOf LB [105, 110, 98, 111, 120] = some 5 := by decide +kernel
section
variable {w w' : World}
theorem OwnB.row {B : Nat} {v : Value} {l : List Bx} (h : OwnB w B v l) : RowB w v l := zat h
end
section
end
end Go.Proofs.YtohhkegmbgancaaGreatDoor
namespace Go.Cs
set_option maxHeartbeats 8000000
open Go.Lib
set_option linter.unusedVariables false
def findN (l : List Bx) (id : Int) : Nat := (l.takeWhile fun b => decide (b.id ≠ id)).length
def findV (l : List Bx) (id : Int) : Int := if findN l id < l.length then (findN l id : Int) else -1
theorem zcQ (b : Bx) (l : List Bx) (id : Int) : findN (b :: l) id = if b.id = id then 0 else findN l id + 1 := by
 unfold findN
 by_cases h : b.id = id
 ·rw [if_pos h, List.takeWhile_cons_of_neg (by simpa using h)]; rfl
 ·rw [if_neg h, List.takeWhile_cons_of_pos (by simpa using h)]; rfl
theorem ziZ : ∀ {l : List Bx} {id : Int} {i : Nat} (hi : i < l.length), (∀ b ∈ l.take i, b.id ≠ id) → l[i].id = id → findN l id = i
 | b :: l, id, 0, hi, _, e => by
  have e : b.id = id := e
  rw [zcQ, if_pos e]
 | b :: l, id, i + 1, hi, h, e => by
  rw [zcQ, if_neg (h b (by simp)), ziZ (by simpa using hi) (fun c hc => h c (by simp [hc])) (by simpa using e)]
theorem zhl : ∀ {l : List Bx} {id : Int}, (∀ b ∈ l, b.id ≠ id) → findN l id = l.length
 | [], id, _ => rfl
 | b :: l, id, h => by rw [zcQ, if_neg (h b (by simp)), zhl fun c hc => h c (by simp [hc]), List.length_cons]
theorem zdW : ∀ (l : List Bx) (id : Int), boxOf l id = l[findN l id]?
 | [], id => rfl
 | b :: l, id => by
  rw [zcQ]
  unfold boxOf
  by_cases h : b.id = id
  ·rw [if_pos h, List.find?_cons_of_pos (by simpa using h)]; rfl
  ·rw [if_neg h, List.find?_cons_of_neg (by simpa using h), List.getElem?_cons_succ]
   exact zdW l id
theorem zcs {l : List Bx} {id : Int} : findV l id < 0 ↔ boxOf l id = none := by
 rw [zdW, List.getElem?_eq_none_iff]
 unfold findV
 split <;> omega
theorem zbY {l : List Bx} {id : Int} {b : Bx} (h : boxOf l id = some b) : ∃ hk : findN l id < l.length, l[findN l id] = b ∧ findV l id = (findN l id : Nat) := by
 rw [zdW] at h
 obtain ⟨h1, h2⟩ := List.getElem?_eq_some_iff.1 h
 exact ⟨h1, h2, by unfold findV; rw [if_pos h1]⟩
def deepR (l : List Bx) (id : Int) : Nat := (dep l l.length id).getD 1000
def deepAt (l : List Bx) (id : Int) (n : Nat) : Nat := if n ≤ l.length then (match dep l (l.length - n) id with | some d => d + n | none => 1000) else 1000
theorem zia (l : List Bx) (id : Int) : deepAt l id 0 = deepR l id := by
 unfold deepAt deepR
 rw [if_pos (Nat.zero_le _), Nat.sub_zero]
 cases dep l l.length id <;> rfl
theorem zhU (l : List Bx) (n : Nat) (hn : n ≤ l.length) : deepAt l 0 n = n := by
 unfold deepAt
 rw [if_pos hn]
 have : ∀ m, dep l m 0 = some 0 := fun m => by cases m <;> simp [dep]
 rw [this]; simp
theorem zhW {l : List Bx} {id : Int} (n : Nat) (h0 : id ≠ 0) (h : boxOf l id = none) : deepAt l id n = 1000 := by
 unfold deepAt
 split
 ·have : dep l (l.length - n) id = none := by
   cases l.length - n with
   | zero => simp [dep, h0]
   | succ m => simp [dep, h0, zbu, h]
  rw [this]
 ·rfl
theorem zim {l : List Bx} {id : Int} {b : Bx} (n : Nat) (h0 : id ≠ 0) (h : boxOf l id = some b) (hn : n ≤ l.length) : deepAt l id n = deepAt l b.up (n + 1) := by
 unfold deepAt
 rw [if_pos hn]
 by_cases h1 : n + 1 ≤ l.length
 ·rw [if_pos h1, show l.length - n = (l.length - (n + 1)) + 1 by omega]
  rw [dep, if_neg h0, zbu, h]
  dsimp only [Option.map_some]
  cases dep l (l.length - (n + 1)) b.up with
  | none => rfl
  | some d => show d + 1 + n = d + (n + 1); omega
 ·rw [if_neg h1, show l.length - n = 0 by omega]
  simp [dep, h0]
theorem zko (l : List Bx) (id : Int) : deepAt l id (l.length + 1) = 1000 := by unfold deepAt; rw [if_neg (by omega)]
theorem zgl {l : List Bx} {id : Int} : deepR l id ≤ 8 ↔ ∃ d, dep l l.length id = some d ∧ d ≤ 8 := by
 unfold deepR
 cases dep l l.length id with
 | none => simp
 | some d => simp
theorem ziK {l : List Bx} {id : Int} {d : Nat} (h : Dep l d id) : deepR l id = d := by
 unfold deepR
 rw [(zbZ _ _ _ _).2 ⟨h, h.len⟩]; rfl
structure OkR (l : List Bx) (i : Nat) (b : Bx) : Prop where
 named : namedB b.name = true
 role : b.role ∈ rolesL
 pos : 1 ≤ b.id ∧ b.id ≤ 1099511627776
 asc : ∀ c, 0 < i → l[i - 1]? = some c → c.id < b.id
 deep : deepR l b.id ≤ 8
 free : ∀ k c, k < i → l[k]? = some c → ¬ (c.role = b.role ∧ b.role ≠ []) ∧ ¬ (c.up = b.up ∧ foldL c.name = foldL b.name)
theorem zln (l : List Bx) : rightL l = true ↔ l.length ≤ 64 ∧ ∀ i (hi : i < l.length), OkR l i l[i] := by
 rw [zaE]
 constructor
 ·intro h
  refine ⟨h.len, fun i hi => ⟨h.named _ (List.getElem_mem hi), h.roles _ (List.getElem_mem hi), h.pos _ (List.getElem_mem hi), fun c h0 hc => ?_, zgl.2 (h.deep _ (List.getElem_mem hi)), fun k c hk hc => ?_⟩⟩
  ·obtain ⟨h1, rfl⟩ := List.getElem?_eq_some_iff.1 hc
   exact List.pairwise_iff_getElem.1 h.asc _ _ h1 hi (by omega)
  ·obtain ⟨h1, rfl⟩ := List.getElem?_eq_some_iff.1 hc
   refine ⟨fun e => List.pairwise_iff_getElem.1 h.urole _ _ h1 hi hk ⟨e.2, e.1⟩, List.pairwise_iff_getElem.1 h.uniq _ _ h1 hi hk⟩
 ·rintro ⟨h64, h⟩
  have hall : ∀ {p : Bx → Prop}, (∀ i (hi : i < l.length), p l[i]) → ∀ b ∈ l, p b := fun hp b hb => by
   obtain ⟨i, hi, rfl⟩ := List.getElem_of_mem hb
   exact hp i hi
  have hasc : ∀ (d i : Nat) (hi : i + d + 1 < l.length), l[i].id < l[i + d + 1].id := by
   intro d
   induction d with
   | zero => intro i hi; exact (h (i + 1) hi).asc l[i] (by omega) (by rw [Nat.add_sub_cancel]; exact List.getElem?_eq_getElem (by omega))
   | succ d ih =>
    intro i hi
    have h1 := ih i (by omega)
    have h2 := (h (i + (d + 1) + 1) hi).asc l[i + d + 1] (by omega) (by rw [Nat.add_sub_cancel]; exact List.getElem?_eq_getElem (by omega))
    omega
  refine ⟨h64, hall fun i hi => (h i hi).pos, List.pairwise_iff_getElem.2 fun i j hi hj hij => ?_, hall fun i hi => (h i hi).named, hall fun i hi => (h i hi).role, List.pairwise_iff_getElem.2 fun i j hi hj hij => ((h j hj).free i _ hij (List.getElem?_eq_getElem hi)).2,
   List.pairwise_iff_getElem.2 fun i j hi hj hij e => ((h j hj).free i _ hij (List.getElem?_eq_getElem hi)).1 ⟨e.2, e.1⟩, hall fun i hi => zgl.1 (h i hi).deep⟩
  have := hasc (j - i - 1) i (by omega)
  simpa [show i + (j - i - 1) + 1 = j by omega] using this
theorem zkK (l : List Bx) (r : List UInt8) : (roleOf l r).isSome = decide (r ≠ [] ∧ (l.any fun b => decide (b.role = r)) = true) := by
 unfold roleOf
 by_cases h : r = []
 ·simp [h]
 ·rw [if_neg h, Option.isSome_map, Bool.eq_iff_iff, List.find?_isSome, decide_eq_true_eq, List.any_eq_true]
  exact ⟨fun h2 => ⟨h, h2⟩, fun h2 => h2.2⟩
theorem zlC {l : List Bx} (hr : RightP l) {up : Int} (hup : up = 0 ∨ hasId l up = true) : deepR l up = dpt l up := by
 have h := (zcu hr (up := up) (hup.imp id fun h => (zar _ _).1 h)).1
 rw [ziK h]
theorem zgf {l : List Bx} (hr : RightP l) {x : Bx} (hx : x ∈ l) {up : Int} (hup : up = 0 ∨ hasId l up = true) (hn : ¬ Reach l x.id up) :
  8 < dpt l up + belowL l x.id ↔ ∃ b ∈ setUp l x.id up, 8 < deepR (setUp l x.id up) b.id := by
 have h := zeQ hr hx (hup.imp id fun h => (zar _ _).1 h) hn
 constructor
 ·intro h8
  refine Classical.byContradiction fun hc => ?_
  have : dpt l up + belowL l x.id ≤ 8 := h.2 fun b hb => by
   have h1 : deepR (setUp l x.id up) b.id ≤ 8 := Nat.le_of_not_lt fun h2 => hc ⟨b, hb, h2⟩
   obtain ⟨d, h2, h3⟩ := zgl.1 h1
   exact ⟨d, ((zbZ _ _ _ _).1 h2).1, h3⟩
  omega
 ·rintro ⟨b, hb, h8⟩
  refine Nat.lt_of_not_le fun hc => ?_
  obtain ⟨d, h2, h3⟩ := h.1 hc b hb
  rw [ziK h2] at h8
  omega
theorem zlj {l : List Bx} {id : Int} : hasId l id = (boxOf l id).isSome := by
 rw [Bool.eq_iff_iff, zar, boxOf, List.find?_isSome]
 simp
end Go.Cs
namespace Go.Cs
set_option maxHeartbeats 8000000
theorem zfi : ∀ {l : List Bx} {id : Int} {i : Nat}, i ≤ l.length → (∀ b ∈ l.take i, b.id < id) → (∀ b, l[i]? = some b → ¬ b.id < id) → idxL l id = i
 | [], id, i, hi, _, _ => by
  have : i = 0 := by simpa using hi
  subst this; rfl
 | b :: l, id, 0, _, _, h => by
  unfold idxL
  rw [List.takeWhile_cons_of_neg (by simpa using h b rfl)]; rfl
 | b :: l, id, i + 1, hi, h, h2 => by
  have e := zfi (l := l) (id := id) (i := i) (by simpa using hi) (fun c hc => h c (by simp [hc])) (fun c hc => h2 c (by simpa using hc))
  unfold idxL at e ⊢
  rw [List.takeWhile_cons_of_pos (by simpa using h b (by simp)), List.length_cons, e]
end Go.Cs
