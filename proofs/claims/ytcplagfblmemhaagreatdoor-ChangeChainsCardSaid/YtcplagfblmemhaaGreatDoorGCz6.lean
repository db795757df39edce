/- Helper text of this claim: lemmas and contracts that the proved statement rests on; no conditions of its own. -/
import Derived.Test.YtcplagfblmemhaaGreatDoorGAdA
namespace Go.Proofs.YtcplagfblmemhaaGreatDoor
set_option linter.unusedVariables false
set_option maxHeartbeats 8000000
open Go.Shelf Go.RowKit Go.Pw Go.Vc Go.Cs Go.Lib Go.Cd Go.Cx
set_option linter.unusedVariables false
set_option maxRecDepth 100000
theorem fitZ {A : Acc} (g : GoodP A) : Fit A := zoa g.toGoodQ (by have := g.top; unfold M40 at this; omega)
section
variable {w : World}
theorem zaM {va : Value} (la : List Int) (n : Int) (ha : RowI w va la) (hl : la.length ≤ 1000000) :
  Calls Tryz.prog 11 #[va, .int .i64 n] w fun e w' => e = .returned (.bool (decide (n ∈ la))) ∧ Kp w w' n_ := by
 obtain ⟨a, ca, rfl, hra⟩ := ha
 refine zaa (args := [.slice a la.length ca, .int .i64 n]) Tryz.func11 rfl NL ?_; refine GW ?_
 refine Loop.intro (ι := Nat) (fun i => [(0, .slice a la.length ca), (1, .int .i64 n), (5, .int .i64 (i : Nat))])
  (fun i wr => Kp w wr n_ ∧ i ≤ la.length ∧ n ∉ la.take i) (fun i => la.length - i) 0 ⟨rfl, rfl, rfl, trivial⟩ ⟨Kp.refl _ _, Nat.zero_le _, by simp⟩ ?_
 rintro i gg wr ⟨hK, hi, ht⟩
 refine GW ?_
 by_cases hlt : i < la.length
 ·obtain ⟨ga, oa, rfl, hga, hata⟩ := hra (by omega)
  have ca := zfb hata hlt
  by_cases he : la[i] = n
  ·refine KGO ?_
   exact ⟨zag (decide_eq_true (he ▸ List.getElem_mem hlt)).symm, hK⟩
  ·refine KGO ?_
   exact ⟨i + 1, ⟨rfl, rfl, v_int (by simp), trivial⟩, ⟨hK, by omega, by
    rw [List.take_succ_eq_append_getElem hlt, List.mem_append, List.mem_singleton]
    exact fun q => q.elim ht fun q => he q.symm⟩, by dsimp only; omega⟩
 ·refine KGO ?_
  rw [List.take_of_length_le (by omega)] at ht
  exact ⟨zag (decide_eq_false ht).symm, hK⟩
theorem zhw {v : Value} (l : List Opr) (hv : RowOp w v l) (hl : l.length ≤ 1000000000000) :
  Calls Tryz.prog 7 #[v] w fun e w' => (∃ q, e = .returned (.bool q) ∧ (q = true → l.length ≤ 40)) ∧ Kp w w' n_ := by
 obtain ⟨lv, hlv, hr, hop⟩ := hv
 have hlen : lv.length = l.length := by rw [← hlv, List.length_map]
 obtain ⟨a, cap, rfl, hr⟩ := hr
 refine zaa (args := [.slice a lv.length cap]) Tryz.func7 rfl NL ?_; refine GW ?_
 refine Loop.intro (ι := Nat) (fun i => [(0, .slice a lv.length cap), (3, .int .i64 (i : Nat))])
  (fun i wr => Kp w wr n_ ∧ i ≤ lv.length ∧ i ≤ 50) (fun i => 50 - i) 0 ⟨rfl, rfl, trivial⟩ ⟨Kp.refl _ _, by omega, by omega⟩ ?_
 rintro i gf wr ⟨hK, hi, hi5⟩
 refine GW ?_
 by_cases hlt : i < lv.length
 ·by_cases h50 : i < 50
  ·obtain ⟨gb, o, rfl, hgb, hat⟩ := hr (by omega)
   have hO := hop lv[i] (List.getElem_mem hlt)
   have n1 := hO.b
   have n2 := hO.a
   have n3 := hO.d
   obtain ⟨ba, hba⟩ : ∃ ba, lv[i].1.b.n = ba := ⟨_, rfl⟩
   obtain ⟨bb, hbb⟩ : ∃ bb, lv[i].1.a.n = bb := ⟨_, rfl⟩
   obtain ⟨bc, hbc⟩ : ∃ bc, lv[i].1.d.n = bc := ⟨_, rfl⟩
   refine KGO ?_
   rw [hba]
   by_cases c1 : 10 < ba
   ·refine KGO ?_
    exact ⟨⟨false, rfl, fun e => by cases e⟩, hK⟩
   refine KGO ?_
   rw [hbb]
   by_cases c2 : 10 < bb
   ·refine KGO ?_
    exact ⟨⟨false, rfl, fun e => by cases e⟩, hK⟩
   refine KGO ?_
   rw [hbc]
   by_cases c3 : 10 < bc
   ·refine KGO ?_
    exact ⟨⟨false, rfl, fun e => by cases e⟩, hK⟩
   refine KGO ?_
   by_cases c4 : 100 < (str lv[i].2.text).size
   ·refine KGO ?_
    exact ⟨⟨false, rfl, fun e => by cases e⟩, hK⟩
   ·refine KGO ?_
    exact ⟨i + 1, ⟨rfl, v_int (by simp), trivial⟩, ⟨hK, by omega, by omega⟩, by dsimp only; omega⟩
  ·refine KGO ?_
   exact ⟨⟨_, rfl, fun e => by have := of_decide_eq_true e; omega⟩, hK⟩
 ·refine KGO ?_
  exact ⟨⟨_, rfl, fun e => by have := of_decide_eq_true e; omega⟩, hK⟩
theorem zgo (w : World) : (Instr.build 66 [(0, .int .i64 3), (2, .int .i64 2)].toArray).run Tryz.prog w = .ok (.agg #[.int .i64 3, .int .i64 0, .int .i64 2]) w := by
 simp [Instr.build, Instr.fill, go_sem, Tryz.runUnderlying66]
theorem cx_Of {h g : Hd} {X Y : Acc} (hX : AccR w h X) (hY : AccR w g Y) (cX : CapsH h) (cY : CapsH g) (gX : GoodP X) (gY : GoodP Y) :
  Calls Tryz.prog 14 #[.agg (accC h X).toArray, .agg (accC g Y).toArray] w fun e w' => ∃ v, e = .returned v ∧ OwnChg w' w.heap.size v (chgOf X Y) ∧ Kp w w' n_ := by
 have fX := fitZ gX
 have fY := fitZ gY
 obtain ⟨lx, mx, rx, ox⟩ := hX.m
 obtain ⟨ly, my, ry, oy⟩ := hY.m
 have fx : ∀ x ∈ lx, MailOk w x ∧ x.m.boxes.length ≤ 1000000 ∧ x.m.flags.length ≤ 1000000 := fun x hx => ⟨ox x hx, by
  have := fX.mb x.m (by rw [← mx]; exact List.mem_map_of_mem hx)
  omega⟩
 have lX : lx.length = X.mails.length := by rw [← mx, List.length_map]
 have lY : ly.length = Y.mails.length := by rw [← my, List.length_map]
 have bX := hX.b
 have bY := hY.b
 have sX := hX.s
 have sY := hY.s
 have nX := gX.ml
 have nY := gY.ml
 have xX := gX.bx.len
 have xY := gY.bx.len
 have cXm := cX.m
 have cYm := cY.m
 have cXb := cX.b
 have cYb := cY.b
 obtain ⟨⟨hBa, hBn, hBc⟩, ⟨hMa, hMn, hMc⟩, ⟨hSa, hSn, hSc⟩, hN⟩ := h
 obtain ⟨⟨gBa, gBn, gBc⟩, ⟨gMa, gMn, gMc⟩, ⟨gSa, gSn, gSc⟩, gN⟩ := g
 obtain rfl : hMn = lx.length := RowO.len rx
 obtain rfl : gMn = ly.length := RowO.len ry
 obtain rfl : hBn = X.boxes.length := RowO.len bX
 obtain rfl : gBn = Y.boxes.length := RowO.len bY
 obtain rfl : hSn = X.scripts.length := RowO.len sX
 obtain rfl : gSn = Y.scripts.length := RowO.len sY
 obtain ⟨hh, eh⟩ : ∃ hh : Hd, (⟨⟨hBa, X.boxes.length, hBc⟩, ⟨hMa, lx.length, hMc⟩, ⟨hSa, X.scripts.length, hSc⟩, hN⟩ : Hd) = hh := ⟨_, rfl⟩
 obtain ⟨gg, eg⟩ : ∃ gg : Hd, (⟨⟨gBa, Y.boxes.length, gBc⟩, ⟨gMa, ly.length, gMc⟩, ⟨gSa, Y.scripts.length, gSc⟩, gN⟩ : Hd) = gg := ⟨_, rfl⟩
 rw [eh, eg]
 have eA : accC hh X = [.slice hBa X.boxes.length hBc, .slice hMa lx.length hMc, .slice hSa X.scripts.length hSc, .string (str X.active), .slice hN.a hN.n hN.c, .int .i64 X.nm, .int .i64 X.nb, .int .i64 X.st] := by rw [← eh]; rfl
 have eB : accC gg Y = [.slice gBa Y.boxes.length gBc, .slice gMa ly.length gMc, .slice gSa Y.scripts.length gSc, .string (str Y.active), .slice gN.a gN.n gN.c, .int .i64 Y.nm, .int .i64 Y.nb, .int .i64 Y.st] := by rw [← eg]; rfl
 refine zaa (args := [.agg (accC hh X).toArray, .agg (accC gg Y).toArray]) Tryz.func14 rfl NL ?_; refine GW ?_
 obtain ⟨a_b1, v_b1, k_w1, z_w1, r_w1⟩ := new5 w 36 (accC hh X)
 generalize w.alloc (.cells (List.toArray (accC hh X)) 36) = w1 at *
 generalize hs_b1 : w.heap.size = b1 at *
 obtain ⟨a_b2, v_b2, k_w2, z_w2, r_w2⟩ := new5 w1 36 (accC gg Y)
 generalize w1.alloc (.cells (List.toArray (accC gg Y)) 36) = w2 at *
 generalize hs_b2 : w1.heap.size = b2 at *
 have K2 := k_w1.trans0 k_w2
 have a1 := zaf a_b1 k_w2
 have a2 := a_b2
 rw [eA] at a1
 rw [eB] at a2
 clear a_b1 a_b2
 have q2 := Kp.refl w2 n_
 refine KGO ?_
 have hcall := zpd (w := w2) (va := ⟨hMa, lx.length, hMc⟩) (vb := ⟨gMa, ly.length, gMc⟩) lx ly (rx.keep K2) (ry.keep K2) (fun x hx => ⟨(fx x hx).1.keep K2, (fx x hx).2⟩) (fun y hy => (oy y hy).keep K2) cXm cYm (by omega)
 refine CallS.of (Tryz.call33 _ _) hcall ?_
 rintro e w3 ⟨v3, rfl, o3, k3⟩
 obtain ⟨a3, c3, rfl⟩ := zac o3
 refine RT ?_
 have K3 := K2.trans0 k3
 have a13 := zaf a1 k3
 have a23 := zaf a2 k3
 clear a1 a2
 have q3 := Kp.refl w3 n_
 refine KGO ?_
 have hcall := zpi (w := w3) (va := ⟨hBa, X.boxes.length, hBc⟩) (vb := ⟨gBa, Y.boxes.length, gBc⟩) X.boxes Y.boxes (bX.keep K3) (bY.keep K3) cXb cYb (by omega)
 refine CallS.of (Tryz.call35 _ _) hcall ?_
 rintro e w4 ⟨v4, rfl, o4, k4⟩
 obtain ⟨a4, c4, rfl⟩ := zac o4
 refine RT ?_
 have K4 := K3.trans0 k4
 have a14 := zaf a13 k4
 have a24 := zaf a23 k4
 clear a13 a23
 have o34 := zab o3 k4
 have eM : cmpD 1 Ml.id (fun a b => decide (a = b)) (lx.map (·.m)) (ly.map (·.m)) = mailsD X Y := by unfold mailsD; rw [mx, my]
 have eQ : cmpD 2 Bx.id (fun a b => decide (a = b)) X.boxes Y.boxes = boxesD X Y := rfl
 have lM : (mailsD X Y).length ≤ X.mails.length + Y.mails.length := zcw _ _
 have lB : (boxesD X Y).length ≤ X.boxes.length + Y.boxes.length := zcw _ _
 rw [eM] at o34 ⊢
 rw [eQ] at o4 ⊢
 have hfin : chgOf X Y = mailsD X Y ++ boxesD X Y ++ scriptsD X Y := rfl
 rw [hfin]
 have hsc1 : X.active ≠ Y.active ∨ X.scripts ≠ Y.scripts → scriptsD X Y = [⟨3, 0, 2⟩] := fun h => by unfold scriptsD; rw [if_pos h]
 have hsc0 : X.active = Y.active → X.scripts = Y.scripts → scriptsD X Y = [] := fun h1 h2 => by unfold scriptsD; rw [if_neg (fun e => e.elim (fun e => e h1) (fun e => e h2))]
 clear hfin eM eQ o3
 obtain ⟨DM, hDM⟩ : ∃ L, mailsD X Y = L := ⟨_, rfl⟩
 obtain ⟨DB, hDB⟩ : ∃ L, boxesD X Y = L := ⟨_, rfl⟩
 rw [hDM] at o34 lM ⊢
 rw [hDB] at o4 lB ⊢
 have o34 : w4.ownsRow w2.heap.size 66 3 (.slice a3 DM.length c3) DM.length (DM.flatMap chC) := o34
 refine KGO ?_
 have hB4 : w2.heap.size ≤ w4.heap.size := (k3.trans0 k4).size
 refine tyChg.app (l := DM) DB o34 hB4 rfl (fun hp => by obtain ⟨gg', e', _, _, h'⟩ := zcI o4 hp; exact ⟨gg', 0, e', h'⟩) (by omega) (by omega) fun v5 w5 o5 k5 => ?_
 have J5 : Kp w w5 n_ := zaZ o34 k5 K4 K2.size
 have a15 : At w5 b1 0 _ := zav a14 k5 (fun e => by have := (o34.lt b1 e).1; omega)
 have a25 : At w5 b2 0 _ := zav a24 k5 (fun e => by have := (o34.lt b2 e).1; omega)
 clear a14 a24
 obtain ⟨a5, c5, rfl⟩ := zac o5
 have q5 := Kp.refl w5 n_
 have hszw : w.heap.size ≤ w2.heap.size := K2.size
 refine KGO ?_
 by_cases hact : X.active = Y.active
 ·have hq : str X.active = str Y.active := by rw [hact]
  refine KGO ?_
  have hcall := zpM (w := w5) X.scripts Y.scripts (sX.keep J5) (sY.keep J5) (by have := gX.sl; omega)
  refine CallS.of (Tryz.call38 _ _) hcall ?_
  rintro e w6 ⟨rfl, k6⟩
  refine RT ?_
  have J6 := J5.trans0 k6
  have o6 := zab o5 k6
  by_cases hsc : X.scripts = Y.scripts
  ·rw [decide_eq_true hsc, hsc0 hact hsc, List.append_nil]
   refine KGO ?_
   exact ⟨_, rfl, zaj o6 (by omega), J6⟩
  ·rw [decide_eq_false hsc, hsc1 (.inr hsc)]
   refine KGO ?_
   refine RunV.of (zgo _) ?_
   refine KGO ?_
   refine RunV.of (bs1Chg ⟨3, 0, 2⟩ _) ?_
   have k7 : Kp w6 (w6.alloc (.cells (List.toArray (chC ⟨3, 0, 2⟩)) 66)) n_ := (Kp.refl _ _).alloc _
   have h7 := zaq w6 66 (chC ⟨3, 0, 2⟩)
   have o7 := zab o6 k7
   generalize w6.alloc (.cells (List.toArray (chC ⟨3, 0, 2⟩)) 66) = w7 at k7 h7 o7 ⊢
   generalize w6.heap.size = g7 at h7 ⊢
   have J7 := (J6).trans0 k7
   refine KGO ?_
   refine tyChg.app1 ⟨3, 0, 2⟩ o7 (by have := k3.size; have := k4.size; have := k5.size; have := k7.size; first | omega | (have := k6.size; omega)) h7 (by rw [List.length_append]; omega) (by rw [List.length_append]; omega) fun v8 w8 o8 k8 => ?_
   have J8 : Kp w w8 n_ := zaZ o7 k8 J7 (by omega)
   obtain ⟨a8, c8, rfl⟩ := zac o8
   refine KGO ?_
   exact ⟨_, rfl, zaj o8 (by omega), J8⟩
 ·have hq : ¬ str X.active = str Y.active := fun e => hact ((zfW _ _).1 e)
  rw [hsc1 (.inl hact)]
  refine KGO ?_
  refine RunV.of (zgo _) ?_
  refine KGO ?_
  refine RunV.of (bs1Chg ⟨3, 0, 2⟩ _) ?_
  have k7 : Kp w5 (w5.alloc (.cells (List.toArray (chC ⟨3, 0, 2⟩)) 66)) n_ := (Kp.refl _ _).alloc _
  have h7 := zaq w5 66 (chC ⟨3, 0, 2⟩)
  have o7 := zab o5 k7
  generalize w5.alloc (.cells (List.toArray (chC ⟨3, 0, 2⟩)) 66) = w7 at k7 h7 o7 ⊢
  generalize w5.heap.size = g7 at h7 ⊢
  have J7 := (J5).trans0 k7
  refine KGO ?_
  refine tyChg.app1 ⟨3, 0, 2⟩ o7 (by have := k3.size; have := k4.size; have := k5.size; have := k7.size; first | omega | (have := k6.size; omega)) h7 (by rw [List.length_append]; omega) (by rw [List.length_append]; omega) fun v8 w8 o8 k8 => ?_
  have J8 : Kp w w8 n_ := zaZ o7 k8 J7 (by omega)
  obtain ⟨a8, c8, rfl⟩ := zac o8
  refine KGO ?_
  exact ⟨_, rfl, zaj o8 (by omega), J8⟩
end
section
end
section
end
section
end
section
end
structure D3 (B db : Nat) (st : Int) (m c g : Sl) (lm lc lg : List Int) (w : World) : Prop where
 va : VarK w db 39 [m.v, c.v, g.v, .int .i64 st]
 om : OwnI w B m.v lm
 oc : OwnI w B c.v lc
 og : OwnI w B g.v lg
 mc : Apart m.v c.v
 mg : Apart m.v g.v
 cg : Apart c.v g.v
 hd : db < B
theorem D3.keep0 {B db : Nat} {st : Int} {m c g : Sl} {lm lc lg : List Int} {w w' : World} (h : D3 B db st m c g lm lc lg w) (k : Kp w w' n_) : D3 B db st m c g lm lc lg w' := ⟨h.va.keep0 k, zab h.om k, zab h.oc k, zab h.og k, h.mc, h.mg, h.cg, h.hd⟩
theorem D3.made {B db : Nat} {st z : Int} {m c g m' : Sl} {lm lc lg : List Int} {w w1 w2 : World} (h : D3 B db st m c g lm lc lg w) (o : OwnI w1 B m'.v (lm ++ [z])) (k : Kp w w1 (own_ m.v)) (hb : m'.v.ownBlock = m.v.ownBlock ∨ m'.v.ownBlock = some w.heap.size) (v2 : VarK w2 db 39 [m'.v, c.v, g.v, .int .i64 st]) (k2 : Kp w1 w2 (one_ db)) : D3 B db st m' c g (lm ++ [z]) lc lg w2 :=
 have ne : ∀ {u : Value} {L : List Int} {x : World}, OwnI x B u L → ∀ q, u.ownBlock = some q → ¬ one_ db q := fun h' q hq e => by have e : q = db := e; have := (h'.lt q hq).1; have := h.hd; omega
 ⟨v2, zad o k2 (ne o), zad (zaD h.oc k (zat h.mc)) k2 (ne h.oc), zad (zaD h.og k (zat h.mg)) k2 (ne h.og), zba h.mc hb (fun q hq => (h.oc.lt q hq).2), zba h.mg hb (fun q hq => (h.og.lt q hq).2), h.cg, h.hd⟩
theorem D3.changed {B db : Nat} {st z : Int} {m c g c' : Sl} {lm lc lg : List Int} {w w1 w2 : World} (h : D3 B db st m c g lm lc lg w) (o : OwnI w1 B c'.v (lc ++ [z])) (k : Kp w w1 (own_ c.v)) (hb : c'.v.ownBlock = c.v.ownBlock ∨ c'.v.ownBlock = some w.heap.size) (v2 : VarK w2 db 39 [m.v, c'.v, g.v, .int .i64 st]) (k2 : Kp w1 w2 (one_ db)) : D3 B db st m c' g lm (lc ++ [z]) lg w2 :=
 have ne : ∀ {u : Value} {L : List Int} {x : World}, OwnI x B u L → ∀ q, u.ownBlock = some q → ¬ one_ db q := fun h' q hq e => by have e : q = db := e; have := (h'.lt q hq).1; have := h.hd; omega
 ⟨v2, zad (zaD h.om k h.mc) k2 (ne h.om), zad o k2 (ne o), zad (zaD h.og k (zat h.cg)) k2 (ne h.og), zat (zba (zat h.mc) hb (fun q hq => (h.om.lt q hq).2)), h.mg, zba h.cg hb (fun q hq => (h.og.lt q hq).2), h.hd⟩
theorem D3.gone {B db : Nat} {st z : Int} {m c g g' : Sl} {lm lc lg : List Int} {w w1 w2 : World} (h : D3 B db st m c g lm lc lg w) (o : OwnI w1 B g'.v (lg ++ [z])) (k : Kp w w1 (own_ g.v)) (hb : g'.v.ownBlock = g.v.ownBlock ∨ g'.v.ownBlock = some w.heap.size) (v2 : VarK w2 db 39 [m.v, c.v, g'.v, .int .i64 st]) (k2 : Kp w1 w2 (one_ db)) : D3 B db st m c g' lm lc (lg ++ [z]) w2 :=
 have ne : ∀ {u : Value} {L : List Int} {x : World}, OwnI x B u L → ∀ q, u.ownBlock = some q → ¬ one_ db q := fun h' q hq e => by have e : q = db := e; have := (h'.lt q hq).1; have := h.hd; omega
 ⟨v2, zad (zaD h.om k h.mg) k2 (ne h.om), zad (zaD h.oc k h.cg) k2 (ne h.oc), zad o k2 (ne o), h.mc, zat (zba (zat h.mg) hb (fun q hq => (h.om.lt q hq).2)), zat (zba (zat h.cg) hb (fun q hq => (h.oc.lt q hq).2)), h.hd⟩
section
end
section
end
def dlC (m c g : Sl) (st : Int) : List Value := [.slice m.a m.n m.c, .slice c.a c.n c.c, .slice g.a g.n g.c, .int .i64 st]
section
end
def sm1 : List Chg := [⟨1, 3, 1⟩, ⟨2, 3, 3⟩]
def sm2 : List Chg := [⟨1, 3, 2⟩, ⟨1, 2, 2⟩]
def sm3 : List Chg := [⟨4, 3, 1⟩]
def sm4 : List Chg := [⟨1, 3, 3⟩]
def smK0 : Bk := ⟨5, 2, []⟩
def smK1 : Bk := ⟨6, 2, [sm1]⟩
def smK2 : Bk := ⟨7, 2, [sm1, sm2]⟩
def smK3 : Bk := ⟨8, 2, [sm2, sm4]⟩
theorem sn1 : noteA smK0 6 sm1 = (0, smK1) := by kernel_rfl
theorem sn2 : noteA smK1 7 sm2 = (0, smK2) := by kernel_rfl
theorem sn3 : noteA smK2 9 [] = (17, smK2) := by kernel_rfl
theorem sn4 : noteA smK2 8 sm3 = (1, smK2) := by kernel_rfl
theorem sn5 : noteA smK2 8 sm4 = (0, smK3) := by kernel_rfl
theorem ss1 : sinceA smK2 5 1 = (⟨[3], [2], [], 7⟩, 0) := by kernel_rfl
theorem ss2 : sinceA smK2 6 1 = (⟨[], [2, 3], [], 7⟩, 0) := by kernel_rfl
theorem ss3 : sinceA smK3 5 1 = (⟨[], [], [], 0⟩, 18) := by kernel_rfl
theorem ss4 : sinceA smK3 9 1 = (⟨[], [], [], 0⟩, 17) := by kernel_rfl
theorem ss5 : sinceA smK3 7 0 = (⟨[], [], [], 0⟩, 1) := by kernel_rfl
theorem ss6 : sinceA smK3 6 1 = (⟨[], [2], [3], 8⟩, 0) := by kernel_rfl
theorem sb3 : bytesA smK3 = [2, 6, 2, 6, 1, 3, 2, 1, 2, 2, 3, 1, 3, 3] := by kernel_rfl
theorem sr3 : readA (L (str [2, 6, 2, 6, 1, 3, 2, 1, 2, 2, 3, 1, 3, 3])) = some smK3 := by kernel_rfl
theorem sf3 : firstA smK3 = 6 := by kernel_rfl
theorem smallK2 : ∀ l ∈ smK2.notes, l.length ≤ 1000 := by decide
theorem smallK3 : ∀ l ∈ smK3.notes, l.length ≤ 1000 := by decide
theorem idsK3 : ∀ l ∈ smK3.notes, ∀ c ∈ l, c.id < 9223372036854775808 := by decide
theorem bs2Chg (x y : Chg) (w : World) : (Instr.buildSlice 53 2 [(0, .agg #[.int .i64 x.of, .int .i64 x.id, .int .i64 x.what]), (1, .agg #[.int .i64 y.of, .int .i64 y.id, .int .i64 y.what])].toArray).run Tryz.prog w = .ok (.slice (some ⟨w.heap.size, 0, none⟩) 2 2) (w.alloc (.cells (List.toArray (chC x ++ chC y)) 66)) := by
 simp [Instr.buildSlice, go_sem, Tryz.runUnderlying53, chC]
structure DvAt (w : World) (db B : Nat) (m c g : Sl) (d : Dlt) : Prop where
 va : VarK w db 39 (dlC m c g d.state)
 om : OwnI w B m.v d.made
 oc : OwnI w B c.v d.changed
 og : OwnI w B g.v d.gone
theorem DvAt.keep0 {w w' : World} {db B : Nat} {m c g : Sl} {d : Dlt} (h : DvAt w db B m c g d) (k : Kp w w' n_) : DvAt w' db B m c g d := ⟨h.va.keep0 k, zab h.om k, zab h.oc k, zab h.og k⟩
theorem zgN {w w' : World} {B nb B' : Nat} {v : Sl} {hs : List Sl} {k : Bk} {u : Value} {l : List Int} (hb : BkAt w B nb v hs k) (h : OwnI w B' u l) (kk : Kp w w' (fun q => q = nb ∨ v.v.ownBlock = some q)) : OwnI w' B' u l :=
 zad h kk fun q hq e => by
  rcases e with rfl | e
  ·exact zae h hb.var (by decide) hq
  ·exact zbK h hb.own (by decide) hq e
theorem DvAt.note {w w' : World} {B nb db B' : Nat} {v : Sl} {hs : List Sl} {k : Bk} {m c g : Sl} {d : Dlt} (hb : BkAt w B nb v hs k) (h : DvAt w db B' m c g d) (kk : Kp w w' (fun q => q = nb ∨ v.v.ownBlock = some q)) : DvAt w' db B' m c g d :=
 ⟨zdb hb h.va (by decide) (by decide) kk, zgN hb h.om kk, zgN hb h.oc kk, zgN hb h.og kk⟩
theorem zfg {w : World} {B n : Nat} {s : Sl} {l : List Int} (h : OwnI w B s.v l) (hn : l.length = n) (h0 : 0 < n) : ∃ g c, s = ⟨some ⟨g, 0, none⟩, n, c⟩ := by
 have hn2 := zcc h
 obtain ⟨sa, sn, sc⟩ := s
 have h : OwnI w B (.slice sa sn sc) l := h
 obtain rfl : sn = l.length := hn2
 obtain ⟨g, rfl, _⟩ := zcI h (by omega)
 subst hn
 exact ⟨g, sc, rfl⟩
theorem zgK {w : World} {B : Nat} {s : Sl} (h : OwnI w B s.v []) : s.n = 0 := zcc h
section
variable {w : World}
theorem zgw : Calls Tryz.prog 6 #[] w fun e w' => e = .returned (.bool true) ∧ Kp w w' n_ := by
 refine zaa (args := []) Tryz.func6 rfl NL ?_; refine GW ?_
 refine CallS.of (Tryz.call12 _ _) (zcJ 5 2 (by decide)) ?_
 rintro e w1 (⟨hbad, _⟩ | ⟨_, rfl, hb, k1⟩)
 ·omega
 refine RT ?_
 obtain ⟨nb, hnb⟩ : ∃ nb, w.heap.size = nb := ⟨_, rfl⟩
 rw [hnb] at hb ⊢
 have hb : BkAt w1 nb nb ⟨none, 0, 0⟩ [] smK0 := hb
 refine KGO ?_
 refine CallS.of (Tryz.call12 _ _) (zcJ (-1) 2 (by decide)) ?_
 rintro e w2 (⟨_, rfl, k2⟩ | ⟨hok, _⟩)
 rotate_left
 ·omega
 refine RT ?_
 refine KGO ?_
 refine CallS.of (Tryz.call12 _ _) (zcJ 5 0 (by decide)) ?_
 rintro e w3 (⟨_, rfl, k3⟩ | ⟨hok, _⟩)
 rotate_left
 ·omega
 refine RT ?_
 refine KGO ?_
 refine CallS.of (Tryz.call12 _ _) (zcJ 5 257 (by decide)) ?_
 rintro e w4 (⟨_, rfl, k4⟩ | ⟨hok, _⟩)
 rotate_left
 ·omega
 refine RT ?_
 have K4 := ((k1.trans0 k2).trans0 k3).trans0 k4
 have hb := hb.keep0 ((k2.trans0 k3).trans0 k4)
 clear k1 k2 k3 k4
 refine KGO ?_
 refine RunV.of (zaE _ _ _ _) ?_
 refine KGO ?_
 refine RunV.of (zaE _ _ _ _) ?_
 refine KGO ?_
 refine RunV.of (bs2Chg ⟨_, _, _⟩ ⟨_, _, _⟩ _) ?_
 have ka4 : Kp w4 (w4.alloc (.cells (List.toArray (chC ⟨1, 3, 1⟩ ++ chC ⟨2, 3, 3⟩)) 66)) n_ := (Kp.refl _ _).alloc _
 have ro4 : RowC (w4.alloc (.cells (List.toArray (chC ⟨1, 3, 1⟩ ++ chC ⟨2, 3, 3⟩)) 66)) (⟨some ⟨w4.heap.size, 0, none⟩, 2, 2⟩ : Sl).v sm1 := ⟨_, 2, rfl, fun _ => ⟨_, 0, rfl, by simp, zaq w4 66 (chC ⟨1, 3, 1⟩ ++ chC ⟨2, 3, 3⟩)⟩⟩
 generalize w4.alloc (.cells (List.toArray (chC ⟨1, 3, 1⟩ ++ chC ⟨2, 3, 3⟩)) 66) = w5 at *
 generalize w4.heap.size = ga4 at *
 have K5 := K4.trans0 ka4
 have hb := hb.keep0 ka4
 refine GW ?_
 have hcall := zcg (vl := ⟨some ⟨ga4, 0, none⟩, 2, 2⟩) hb (by have := K5.size; omega) 6 (by decide) (by decide) sm1 ro4 (by decide)
 refine CallS.of (Tryz.call13 _ _) hcall ?_
 rintro e w6 ⟨rfl, ⟨v6, hs6, hb6⟩, k6⟩
 rw [sn1] at hb6 ⊢
 dsimp only at hb6 ⊢
 refine RT ?_
 have K6 := K5.trans k6 (fun q hq e => by
  rcases e with e | e
  ·omega
  ·have := hb.own.lt q e; omega)
 have hb := hb6
 clear hb6 k6
 refine KGO ?_
 refine RunV.of (zaE _ _ _ _) ?_
 refine KGO ?_
 refine RunV.of (zaE _ _ _ _) ?_
 refine KGO ?_
 refine RunV.of (bs2Chg ⟨_, _, _⟩ ⟨_, _, _⟩ _) ?_
 have ka6 : Kp w6 (w6.alloc (.cells (List.toArray (chC ⟨1, 3, 2⟩ ++ chC ⟨1, 2, 2⟩)) 66)) n_ := (Kp.refl _ _).alloc _
 have ro6 : RowC (w6.alloc (.cells (List.toArray (chC ⟨1, 3, 2⟩ ++ chC ⟨1, 2, 2⟩)) 66)) (⟨some ⟨w6.heap.size, 0, none⟩, 2, 2⟩ : Sl).v sm2 := ⟨_, 2, rfl, fun _ => ⟨_, 0, rfl, by simp, zaq w6 66 (chC ⟨1, 3, 2⟩ ++ chC ⟨1, 2, 2⟩)⟩⟩
 generalize w6.alloc (.cells (List.toArray (chC ⟨1, 3, 2⟩ ++ chC ⟨1, 2, 2⟩)) 66) = w7 at *
 generalize w6.heap.size = ga6 at *
 have K7 := K6.trans0 ka6
 have hb := hb.keep0 ka6
 refine GW ?_
 have hcall := zcg (vl := ⟨some ⟨ga6, 0, none⟩, 2, 2⟩) hb (by have := K7.size; omega) 7 (by decide) (by decide) sm2 ro6 (by decide)
 refine CallS.of (Tryz.call13 _ _) hcall ?_
 rintro e w8 ⟨rfl, ⟨v8, hs8, hb8⟩, k8⟩
 rw [sn2] at hb8 ⊢
 dsimp only at hb8 ⊢
 refine RT ?_
 have K8 := K7.trans k8 (fun q hq e => by
  rcases e with e | e
  ·omega
  ·have := hb.own.lt q e; omega)
 have hb := hb8
 clear hb8 k8
 refine KGO ?_
 have hcall := zcg (vl := ⟨none, 0, 0⟩) hb (by have := K8.size; omega) 9 (by decide) (by decide) [] ⟨none, 0, rfl, fun h => absurd h (by decide)⟩ (by decide)
 refine CallS.of (Tryz.call13 _ _) hcall ?_
 rintro e w9 ⟨rfl, ⟨v9, hs9, hb9⟩, k9⟩
 rw [sn3] at hb9 ⊢
 dsimp only at hb9 ⊢
 refine RT ?_
 have K9 := K8.trans k9 (fun q hq e => by
  rcases e with e | e
  ·omega
  ·have := hb.own.lt q e; omega)
 have hb := hb9
 clear hb9 k9
 refine KGO ?_
 refine RunV.of (zaE _ _ _ _) ?_
 refine KGO ?_
 refine RunV.of (bs1Chg ⟨_, _, _⟩ _) ?_
 have ka9 : Kp w9 (w9.alloc (.cells (List.toArray (chC ⟨4, 3, 1⟩)) 66)) n_ := (Kp.refl _ _).alloc _
 have ro9 : RowC (w9.alloc (.cells (List.toArray (chC ⟨4, 3, 1⟩)) 66)) (⟨some ⟨w9.heap.size, 0, none⟩, 1, 1⟩ : Sl).v sm3 := ⟨_, 1, rfl, fun _ => ⟨_, 0, rfl, by simp, zaq w9 66 (chC ⟨4, 3, 1⟩)⟩⟩
 generalize w9.alloc (.cells (List.toArray (chC ⟨4, 3, 1⟩)) 66) = w10 at *
 generalize w9.heap.size = ga9 at *
 have K10 := K9.trans0 ka9
 have hb := hb.keep0 ka9
 refine GW ?_
 have hcall := zcg (vl := ⟨some ⟨ga9, 0, none⟩, 1, 1⟩) hb (by have := K10.size; omega) 8 (by decide) (by decide) sm3 ro9 (by decide)
 refine CallS.of (Tryz.call13 _ _) hcall ?_
 rintro e w11 ⟨rfl, ⟨v11, hs11, hb11⟩, k11⟩
 rw [sn4] at hb11 ⊢
 dsimp only at hb11 ⊢
 refine RT ?_
 have K11 := K10.trans k11 (fun q hq e => by
  rcases e with e | e
  ·omega
  ·have := hb.own.lt q e; omega)
 have hb := hb11
 clear hb11 k11
 refine KGO ?_
 refine CallS.of (Tryz.call9 _ _) (zaW hb smallK2 5 1 (by decide)) ?_
 rintro e w12 ⟨⟨mD, cD, gD, rfl, omD, ocD, ogD⟩, k12⟩
 rw [ss1] at omD ocD ogD ⊢
 dsimp only at omD ocD ogD ⊢
 refine RT ?_
 have K12 := K11.trans0 k12
 have hb := hb.keep0 k12
 have vdD := VarK.new w12 39 (dlC mD cD gD 7)
 refine Store.fresh (vs := dlC mD cD gD 7) (by rfl) rfl (zam (by rfl)) ?_
 obtain ⟨a_bD, k_w13, z_w13⟩ := new3 w12 39 (dlC mD cD gD 7)
 generalize w12.alloc (.cells (List.toArray (dlC mD cD gD 7)) 39) = w13 at *
 generalize hs_bD : w12.heap.size = bD at *
 have dvD : DvAt w13 bD w11.heap.size mD cD gD ⟨[3], [2], [], 7⟩ := ⟨vdD, zab omD k_w13, zab ocD k_w13, zab ogD k_w13⟩
 clear a_bD vdD omD ocD ogD
 have K13 := K12.trans0 k_w13
 have hb := hb.keep0 k_w13
 refine KGO ?_
 refine CallS.of (Tryz.call9 _ _) (zaW hb smallK2 6 1 (by decide)) ?_
 rintro e w14 ⟨⟨mF, cF, gF, rfl, omF, ocF, ogF⟩, k14⟩
 rw [ss2] at omF ocF ogF ⊢
 dsimp only at omF ocF ogF ⊢
 refine RT ?_
 have K14 := K13.trans0 k14
 have hb := hb.keep0 k14
 have dvD := dvD.keep0 k14
 have vdF := VarK.new w14 39 (dlC mF cF gF 7)
 refine Store.fresh (vs := dlC mF cF gF 7) (by rfl) rfl (zam (by rfl)) ?_
 obtain ⟨a_bF, k_w15, z_w15⟩ := new3 w14 39 (dlC mF cF gF 7)
 generalize w14.alloc (.cells (List.toArray (dlC mF cF gF 7)) 39) = w15 at *
 generalize hs_bF : w14.heap.size = bF at *
 have dvF : DvAt w15 bF w13.heap.size mF cF gF ⟨[], [2, 3], [], 7⟩ := ⟨vdF, zab omF k_w15, zab ocF k_w15, zab ogF k_w15⟩
 clear a_bF vdF omF ocF ogF
 have K15 := K14.trans0 k_w15
 have hb := hb.keep0 k_w15
 have dvD := dvD.keep0 k_w15
 refine KGO ?_
 refine RunV.of (zaE _ _ _ _) ?_
 refine KGO ?_
 refine RunV.of (bs1Chg ⟨_, _, _⟩ _) ?_
 have ka15 : Kp w15 (w15.alloc (.cells (List.toArray (chC ⟨1, 3, 3⟩)) 66)) n_ := (Kp.refl _ _).alloc _
 have ro15 : RowC (w15.alloc (.cells (List.toArray (chC ⟨1, 3, 3⟩)) 66)) (⟨some ⟨w15.heap.size, 0, none⟩, 1, 1⟩ : Sl).v sm4 := ⟨_, 1, rfl, fun _ => ⟨_, 0, rfl, by simp, zaq w15 66 (chC ⟨1, 3, 3⟩)⟩⟩
 generalize w15.alloc (.cells (List.toArray (chC ⟨1, 3, 3⟩)) 66) = w16 at *
 generalize w15.heap.size = ga15 at *
 have K16 := K15.trans0 ka15
 have hb := hb.keep0 ka15
 refine GW ?_
 have dvD := dvD.keep0 ka15
 have dvF := dvF.keep0 ka15
 have hcall := zcg (vl := ⟨some ⟨ga15, 0, none⟩, 1, 1⟩) hb (by have := K16.size; omega) 8 (by decide) (by decide) sm4 ro15 (by decide)
 refine CallS.of (Tryz.call13 _ _) hcall ?_
 rintro e w17 ⟨rfl, ⟨v17, hs17, hb17⟩, k17⟩
 rw [sn5] at hb17 ⊢
 dsimp only at hb17 ⊢
 refine RT ?_
 have K17 := K16.trans k17 (fun q hq e => by
  rcases e with e | e
  ·omega
  ·have := hb.own.lt q e; omega)
 have dvD := dvD.note hb k17
 have dvF := dvF.note hb k17
 have hb := hb17
 clear hb17 k17
 refine KGO ?_
 refine CallS.of (Tryz.call9 _ _) (zaW hb smallK3 5 1 (by decide)) ?_
 rintro e w18 ⟨⟨mX, cX, gX, rfl, omX, ocX, ogX⟩, k18⟩
 rw [ss3] at omX ocX ogX ⊢
 dsimp only at omX ocX ogX ⊢
 refine RT ?_
 have K18 := K17.trans0 k18
 have hb := hb.keep0 k18
 have dvD := dvD.keep0 k18
 have dvF := dvF.keep0 k18
 have vdX := VarK.new w18 39 (dlC mX cX gX 0)
 refine Store.fresh (vs := dlC mX cX gX 0) (by rfl) rfl (zam (by rfl)) ?_
 obtain ⟨a_bX, k_w19, z_w19⟩ := new3 w18 39 (dlC mX cX gX 0)
 generalize w18.alloc (.cells (List.toArray (dlC mX cX gX 0)) 39) = w19 at *
 generalize hs_bX : w18.heap.size = bX at *
 have dvX : DvAt w19 bX w17.heap.size mX cX gX ⟨[], [], [], 0⟩ := ⟨vdX, zab omX k_w19, zab ocX k_w19, zab ogX k_w19⟩
 clear a_bX vdX omX ocX ogX
 have K19 := K18.trans0 k_w19
 have hb := hb.keep0 k_w19
 have dvD := dvD.keep0 k_w19
 have dvF := dvF.keep0 k_w19
 refine KGO ?_
 refine CallS.of (Tryz.call9 _ _) (zaW hb smallK3 9 1 (by decide)) ?_
 rintro e w20 ⟨⟨mY, cY, gY, rfl, omY, ocY, ogY⟩, k20⟩
 rw [ss4] at omY ocY ogY ⊢
 dsimp only at omY ocY ogY ⊢
 refine RT ?_
 have K20 := K19.trans0 k20
 have hb := hb.keep0 k20
 have dvD := dvD.keep0 k20
 have dvF := dvF.keep0 k20
 have vdY := VarK.new w20 39 (dlC mY cY gY 0)
 refine Store.fresh (vs := dlC mY cY gY 0) (by rfl) rfl (zam (by rfl)) ?_
 obtain ⟨a_bY, k_w21, z_w21⟩ := new3 w20 39 (dlC mY cY gY 0)
 generalize w20.alloc (.cells (List.toArray (dlC mY cY gY 0)) 39) = w21 at *
 generalize hs_bY : w20.heap.size = bY at *
 have dvY : DvAt w21 bY w19.heap.size mY cY gY ⟨[], [], [], 0⟩ := ⟨vdY, zab omY k_w21, zab ocY k_w21, zab ogY k_w21⟩
 clear a_bY vdY omY ocY ogY
 have K21 := K20.trans0 k_w21
 have hb := hb.keep0 k_w21
 have dvD := dvD.keep0 k_w21
 have dvF := dvF.keep0 k_w21
 refine KGO ?_
 refine CallS.of (Tryz.call9 _ _) (zaW hb smallK3 7 0 (by decide)) ?_
 rintro e w22 ⟨⟨mZ, cZ, gZ, rfl, omZ, ocZ, ogZ⟩, k22⟩
 rw [ss5] at omZ ocZ ogZ ⊢
 dsimp only at omZ ocZ ogZ ⊢
 refine RT ?_
 have K22 := K21.trans0 k22
 have hb := hb.keep0 k22
 have dvD := dvD.keep0 k22
 have dvF := dvF.keep0 k22
 have vdZ := VarK.new w22 39 (dlC mZ cZ gZ 0)
 refine Store.fresh (vs := dlC mZ cZ gZ 0) (by rfl) rfl (zam (by rfl)) ?_
 obtain ⟨a_bZ, k_w23, z_w23⟩ := new3 w22 39 (dlC mZ cZ gZ 0)
 generalize w22.alloc (.cells (List.toArray (dlC mZ cZ gZ 0)) 39) = w23 at *
 generalize hs_bZ : w22.heap.size = bZ at *
 have dvZ : DvAt w23 bZ w21.heap.size mZ cZ gZ ⟨[], [], [], 0⟩ := ⟨vdZ, zab omZ k_w23, zab ocZ k_w23, zab ogZ k_w23⟩
 clear a_bZ vdZ omZ ocZ ogZ
 have K23 := K22.trans0 k_w23
 have hb := hb.keep0 k_w23
 have dvD := dvD.keep0 k_w23
 have dvF := dvF.keep0 k_w23
 refine KGO ?_
 refine CallS.of (Tryz.call19 _ _) (zjg hb idsK3 smallK3) ?_
 rintro e w24 ⟨rfl, k24⟩
 rw [sb3]
 refine RT ?_
 have K24 := K23.trans0 k24
 have hb := hb.keep0 k24
 have dvD := dvD.keep0 k24
 have dvF := dvF.keep0 k24
 refine KGO ?_
 refine CallS.of (Tryz.call18 _ _) (zpN (str [2, 6, 2, 6, 1, 3, 2, 1, 2, 2, 3, 1, 3, 3]) (by decide)) ?_
 rintro e w25 ⟨hR, k25⟩
 rw [sr3] at hR
 obtain ⟨nc, vc, hc, rfl, hnc, hcb⟩ := hR
 refine RT ?_
 have K25 := K24.trans0 k25
 have hb := hb.keep0 k25
 have dvD := dvD.keep0 k25
 have dvF := dvF.keep0 k25
 obtain ⟨gD1, cD1, e1⟩ := zfg (n := 1) dvD.om rfl (by decide)
 obtain ⟨gD2, cD2, e2⟩ := zfg (n := 1) dvD.oc rfl (by decide)
 obtain ⟨gF2, cF2, e3⟩ := zfg (n := 2) dvF.oc rfl (by decide)
 have e4 := zgK dvD.og
 have e5 := zgK dvF.om
 have e6 := zgK dvF.og
 obtain ⟨gDa, gDn, gDc⟩ := gD
 obtain ⟨mFa, mFn, mFc⟩ := mF
 obtain ⟨gFa, gFn, gFc⟩ := gF
 subst e1; subst e2; subst e3
 dsimp only at e4 e5 e6
 subst e4; subst e5; subst e6
 have xD : At w25 bD 0 [.slice (some ⟨gD1, 0, none⟩) 1 cD1, .slice (some ⟨gD2, 0, none⟩) 1 cD2, .slice gDa 0 gDc, .int .i64 7] := dvD.va.at
 have xF : At w25 bF 0 [.slice mFa 0 mFc, .slice (some ⟨gF2, 0, none⟩) 2 cF2, .slice gFa 0 gFc, .int .i64 7] := dvF.va.at
 have q25 := Kp.refl w25 n_
 refine KGO ?_
 refine CallS.of (Tryz.call9 _ _) (zaW hcb smallK3 6 1 (by decide)) ?_
 rintro e w26 ⟨⟨mH, cH, gH, rfl, omH, ocH, ogH⟩, k26⟩
 rw [ss6] at omH ocH ogH ⊢
 dsimp only at omH ocH ogH ⊢
 refine RT ?_
 have K26 := K25.trans0 k26
 have hb := hb.keep0 k26
 have hcb := hcb.keep0 k26
 have dvD := dvD.keep0 k26
 have dvF := dvF.keep0 k26
 have vdH := VarK.new w26 39 (dlC mH cH gH 8)
 refine Store.fresh (vs := dlC mH cH gH 8) (by rfl) rfl (zam (by rfl)) ?_
 obtain ⟨a_bH, k_w27, z_w27⟩ := new3 w26 39 (dlC mH cH gH 8)
 generalize w26.alloc (.cells (List.toArray (dlC mH cH gH 8)) 39) = w27 at *
 generalize hs_bH : w26.heap.size = bH at *
 have dvH : DvAt w27 bH w25.heap.size mH cH gH ⟨[], [2], [3], 8⟩ := ⟨vdH, zab omH k_w27, zab ocH k_w27, zab ogH k_w27⟩
 clear a_bH vdH omH ocH ogH
 have K27 := K26.trans0 k_w27
 have hb := hb.keep0 k_w27
 have hcb := hcb.keep0 k_w27
 have dvD := dvD.keep0 k_w27
 have dvF := dvF.keep0 k_w27
 refine KGO ?_
 obtain ⟨gH2, cH2, e7⟩ := zfg (n := 1) dvH.oc rfl (by decide)
 obtain ⟨gH3, cH3, e8⟩ := zfg (n := 1) dvH.og rfl (by decide)
 subst e7; subst e8
 clear xD xF
 have xD : At w27 bD 0 [.slice (some ⟨gD1, 0, none⟩) 1 cD1, .slice (some ⟨gD2, 0, none⟩) 1 cD2, .slice gDa 0 gDc, .int .i64 7] := dvD.va.at
 have xF : At w27 bF 0 [.slice mFa 0 mFc, .slice (some ⟨gF2, 0, none⟩) 2 cF2, .slice gFa 0 gFc, .int .i64 7] := dvF.va.at
 have xH : At w27 bH 0 [.slice mH.a mH.n mH.c, .slice (some ⟨gH2, 0, none⟩) 1 cH2, .slice (some ⟨gH3, 0, none⟩) 1 cH3, .int .i64 8] := dvH.va.at
 have aD1 : At w27 gD1 0 [.int .i64 3] := zbF dvD.om
 have aD2 : At w27 gD2 0 [.int .i64 2] := zbF dvD.oc
 have aF2 : At w27 gF2 0 [.int .i64 2, .int .i64 3] := zbF dvF.oc
 have q27 := Kp.refl w27 n_
 refine KGO ?_
 refine CallS.of (Tryz.call20 _ _) (zdz hb) ?_
 rintro e w28 ⟨rfl, k28⟩
 rw [sf3]
 refine RT ?_
 have hb := hb.keep0 k28
 refine KGO ?_
 refine CallS.of (Tryz.call21 _ _) (znu hb) ?_
 rintro e w29 ⟨rfl, k29⟩
 refine RT ?_
 have hb := hb.keep0 k29
 have k2_ := k28.trans0 k29
 rw [show smK3.state = 8 from rfl]
 refine KGO ?_
 refine CallS.of (Tryz.call19 _ _) (zjg hb idsK3 smallK3) ?_
 rintro e w30 ⟨rfl, k30⟩
 rw [sb3]
 refine RT ?_
 have k3_ := k2_.trans0 k30
 refine KGO ?_
 exact ⟨zag (decide_eq_true rfl), K27.trans0 k3_⟩
end
theorem zby {w : World} {B s n q : Nat} {e : TypeId} {v : Value} {xs : List Value} (h : w.ownsRow B e s v n xs) (hq : v.ownBlock = some q) : ∃ cs, VarK w q e cs := by
 rcases own_blockK h with ⟨rfl, _⟩ | ⟨g, cap, cells, rfl, _, hv, _⟩
 ·cases hq
 ·have e1 : g = q := by simpa [Value.ownBlock] using hq
  subst e1; exact ⟨_, hv⟩
section
end
theorem BkAt.other {w w' : World} {B nb B' nc : Nat} {v vc : Sl} {hs hc : List Sl} {k k' : Bk} (hb : BkAt w B nb v hs k) (hcb : BkAt w B' nc vc hc k') (ne : nb ≠ nc) (no : ∀ q, v.v.ownBlock = some q → vc.v.ownBlock ≠ some q) (kk : Kp w w' (fun q => q = nc ∨ vc.v.ownBlock = some q)) : BkAt w' B nb v hs k := by
 refine ⟨hb.var.keep kk fun e => ?_, zad hb.own kk fun q hq e => ?_, hb.hl, fun i hi => zad (hb.row i hi) kk fun q hq e => ?_, hb.good⟩
 ·rcases e with e | e
  ·exact ne e
  ·exact zae hcb.own hb.var (by decide) e
 ·rcases e with rfl | e
  ·exact zae hb.own hcb.var (by decide) hq
  ·exact no q hq e
 ·rcases e with rfl | e
  ·exact zae (hb.row i hi) hcb.var (by decide) hq
  ·exact zbK (hb.row i hi) hcb.own (by decide) hq e
section
end
end Go.Proofs.YtcplagfblmemhaaGreatDoor
