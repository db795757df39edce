/- Helper text of this claim: lemmas and contracts that the proved statement rests on; no conditions of its own. -/
import Derived.Test.YtohhkegmbgancaaGreatDoorAt8
namespace Go.Proofs.YtohhkegmbgancaaGreatDoor
set_option maxHeartbeats 8000000
open Go.Shelf Go.RowKit Go.Pw Go.Vc Go.Cs Go.Lib
set_option linter.unusedVariables false
set_option maxRecDepth 100000
def changeA (A : Acc) (o : Opr) : Except Nat (Acc × Int) := if o.kind = 4 then destroyA A o else if o.kind = 3 then moveA A o else flagA A o
theorem zfL {A : Acc} {o : Opr} {c : Nat} (h : ofA A o = .error c) : changeA A o = .error c := by
 unfold changeA destroyA moveA flagA
 rw [h]
 dsimp only
 split
 ·rfl
 ·split <;> rfl
theorem zgc {α : Type} {c : α → List Value} {w : World} {a : Option Addr} {n cap : Nat} {l : List α} (h : RowO w (.slice a n cap) c l) : 0 < n → ∃ g o, a = some ⟨g, o, none⟩ ∧ At w g o (l.flatMap c) := fun h0 => by
 obtain ⟨a', c', e, hh⟩ := h
 injection e with e1 e2 e3
 subst e1; subst e2
 obtain ⟨g, o, e, _, hat⟩ := hh h0
 exact ⟨g, o, e, hat⟩
section
variable {w : World}
theorem zfk {h : Hd} {A : Acc} {v : Ov} {o : Opr} (r : RefA w h A) (cp : Caps h) (hf : Fit A) (ho : OpR w v o) (fo : FitO o) :
  Calls Tryz.prog 111 #[.agg (accC h A).toArray, .agg (opC v o).toArray] w (Ends2 w (changeA A o)) := by
 have hml := hf.ml
 have hmb := hf.mb
 have fbl := hf.bl
 have fob := fo.b
 have foa := fo.a
 have fod := fo.d
 have hbn : v.b.n = o.boxes.length := RowO.len ho.b
 have hnil : o.boxes = [] ↔ v.b.n = 0 := by rw [hbn, List.length_eq_zero_iff]
 refine zaa (args := [.agg (accC h A).toArray, .agg (opC v o).toArray]) Tryz.func111 rfl NL ?_; refine GW ?_
 obtain ⟨a_b1, v_b1, k_w1, z_w1, r_w1⟩ := new5 w 36 (accC h A)
 generalize w.alloc (.cells (List.toArray (accC h A)) 36) = w1 at *
 generalize hs_b1 : w.heap.size = b1 at *
 obtain ⟨a_b2, v_b2, k_w2, z_w2, r_w2⟩ := new5 w1 28 (opC v o)
 generalize w1.alloc (.cells (List.toArray (opC v o)) 28) = w2 at *
 generalize hs_b2 : w1.heap.size = b2 at *
 obtain ⟨a_b3, v_b3, k_w3, z_w3, r_w3⟩ := new5 w2 36 (zAcc')
 generalize w2.alloc (.cells (List.toArray (zAcc')) 36) = w3 at *
 generalize hs_b3 : w2.heap.size = b3 at *
 have K3 := (k_w1.trans0 k_w2).trans0 k_w3
 have v1 := v_b1.keep0 (k_w2.trans0 k_w3)
 have v2 := v_b2.keep0 k_w3
 have v3 := v_b3
 obtain ⟨lx, hm, hs⟩ := r
 have hlx : lx.length = A.mails.length := by rw [← hm, List.length_map]
 obtain ⟨ma, mc, he, hrr⟩ := hs.now.m
 injection he with e1 e2 e3
 have hcap : lx.length ≤ mc := (cp.M ma lx.length mc (by rw [← e1, ← e2, ← e3])).1
 have hcl : accC h A = [.slice h.B.a h.B.n h.B.c, .slice ma lx.length mc, .slice h.S.a h.S.n h.S.c, .string (str A.active), .slice h.N.a h.N.n h.N.c, .int .i64 A.nm, .int .i64 A.nb, .int .i64 A.st] := by
  unfold accC
  rw [e1, e2, e3]
 have a1 := v1.at
 have a2 := v2.at
 have kr3 := Kp.refl w3 n_
 clear a_b1 a_b2 a_b3
 refine KGO ?_
 refine CallS.of (Tryz.call53 _ _) (ziS (w := w3) (h := h) (A := A) o.id (RefA.read (RefA.keep ⟨lx, hm, hs⟩ K3)).m (by omega)) ?_
 rintro e w4 ⟨rfl, k4⟩
 have K4 := K3.trans0 k4
 have v1 := v1.keep0 k4
 have v3 := v3.keep0 k4
 have a2 := zac a2 k4
 refine RT ?_
 rcases place_find A.mails o.id with ⟨hp, hfn⟩ | ⟨i, hi, hp, hfn, hid, hfirst⟩
 ·rw [hp]
  have hof : ofA A o = .error 5 := by unfold ofA; rw [zdl, hfn]
  clear a1
  have a1 := v1.at
  have kr4 := Kp.refl w4 n_
  refine KGO ?_
  refine SVK (accC h A) v3 fun w8 v8 k8 => ?_
  have K8' : Kp w w8 n_ := zae K4 k8 (by omega)
  have hat := v8.at
  refine KGO ?_
  refine GW ?_
  refine KGO ?_
  refine GW ?_
  exact ⟨h, A, 5, rfl, RefA.keep ⟨lx, hm, hs⟩ K8', cp, zas (zfL hof), K8'⟩
 rw [hp]
 have hfA : findA A.mails o.id = some A.mails[i] := hfn
 have hi2 : i < lx.length := by omega
 have hxm : lx[i].m = A.mails[i] := by simp [← hm]
 obtain ⟨gb, go, rfl, hgb, hat⟩ := hrr (by omega)
 have hat4 := zac hat K4
 clear a1 kr3
 have a1 : At w4 b1 0 [.slice h.B.a h.B.n h.B.c, .slice (some ⟨gb, go, none⟩) lx.length mc, .slice h.S.a h.S.n h.S.c, .string (str A.active), .slice h.N.a h.N.n h.N.c, .int .i64 A.nm, .int .i64 A.nb, .int .i64 A.st] := hcl ▸ v1.at
 have kr4 := Kp.refl w4 n_
 refine KGO ?_
 have v7 := VarK.new w4 42 (mrC lx[i])
 refine Store.fresh (vs := mrC lx[i]) (by rfl) rfl (zan (by rfl)) ?_
 obtain ⟨a_b7, k_w5, z_w5⟩ := new3 w4 42 (mrC lx[i])
 generalize w4.alloc (.cells (List.toArray (mrC lx[i])) 42) = w5 at *
 generalize hs_b7 : w4.heap.size = b7 at *
 have K5 := K4.trans0 k_w5
 have v1 := v1.keep0 k_w5
 have v3 := v3.keep0 k_w5
 have a2 := zac a2 k_w5
 have kr5 := Kp.refl w5 n_
 have hb1 : b1 < b7 := by have := (k_w2.trans0 (k_w3.trans0 k4)).size; omega
 have hb3 : b3 < b7 := by have := k4.size; omega
 clear a1 hat4 kr4
 by_cases hif : 0 ≤ o.if_ ∧ o.if_ ≠ lx[i].m.mod
 ·have hof : ofA A o = .error 17 := by unfold ofA; rw [hfA]; dsimp only; rw [if_pos (by rw [← hxm]; exact hif)]
  obtain ⟨hif1, hif2⟩ := hif
  have a1 := v1.at
  refine KGO ?_
  refine SVK (accC h A) v3 fun w8 v8 k8 => ?_
  have K8' : Kp w w8 n_ := zae K5 k8 (by omega)
  have hat := v8.at
  refine KGO ?_
  refine GW ?_
  refine KGO ?_
  refine GW ?_
  exact ⟨h, A, 17, rfl, RefA.keep ⟨lx, hm, hs⟩ K8', cp, zas (zfL hof), K8'⟩
 have hof : ofA A o = .ok A.mails[i] := by unfold ofA; rw [hfA]; dsimp only; rw [if_neg (by rw [← hxm]; exact hif)]
 have a1 := v1.at
 by_cases hif0 : 0 ≤ o.if_
 ·have hif1 : o.if_ = lx[i].m.mod := Classical.byContradiction fun q => hif ⟨hif0, q⟩
  refine KGO ?_
  refine SCK 37 v7 fun w6 v7 k6 => ?_
  have v7 : VarK w6 b7 42 (mrC ⟨{ lx[i].m with mod := A.st }, lx[i].b, lx[i].f⟩) := v7
  have K6 : Kp w w6 n_ := zae K5 k6 (by omega)
  have v1 := v1.keep k6 (fun e => by have e : b1 = b7 := e; omega)
  have v3 := v3.keep k6 (fun e => by have e : b3 = b7 := e; omega)
  have v2 := ((v2.keep0 k4).keep0 k_w5).keep k6 (fun e => by have e : b2 = b7 := e; omega)
  have hx6 : Stab w6 (fun u => MailOk u lx[i]) := (hs.keep K6).imp fun u q => q.x _ (List.getElem_mem hi2)
  have o6 := ho.keep K6
  have hupd := fun (f : Ml → Ml) => zgC f o.id A.mails i hi hid hfirst
  clear a1 a2 kr5 hif
  have a2 := v2.at
  have a1 := v1.at
  have a7 := v7.at
  have kr6 := Kp.refl w6 n_
  by_cases k4' : o.kind = 4
  ·have hx : changeA A o = destroyA A o := by unfold changeA; rw [if_pos k4']
   rw [hx]
   clear a1
   have a1 : At w6 b1 0 [.slice h.B.a h.B.n h.B.c, .slice (some ⟨gb, go, none⟩) lx.length mc, .slice h.S.a h.S.n h.S.c, .string (str A.active), .slice h.N.a h.N.n h.N.c, .int .i64 A.nm, .int .i64 A.nb, .int .i64 A.st] := hcl ▸ v1.at
   have hres : destroyA A o = .ok ({ A with mails := A.mails.take i ++ A.mails.drop (i + 1) }, 0) := by
    unfold destroyA
    rw [hof]
    dsimp only
    rw [zer o.id A.mails i hi hid hfirst]
   refine KGO ?_
   refine RunV.of (build0Ml _) ?_
   have k8 : Kp w6 (w6.alloc (.cells #[] 42)) n_ := (Kp.refl _ _).alloc _
   have o8 := zbc 42 mrC 38 (by decide) w6
   have hB8 := k8.size
   generalize w6.alloc (.cells #[] 42) = w8 at *
   have hat8 := zac hat (K6.trans0 k8)
   refine KGO ?_
   rw [if_neg (by omega : ¬ 0 = mc)]
   refine tyM.app (lx.take i) o8 hB8 (by rw [List.length_take]; omega) (fun _ => ⟨gb, _, rfl, by simpa using zbw lenMl hat8 i⟩) (by rw [List.length_take]; simp; omega) (by rw [List.length_take]; simp; omega) fun v9 w9 o9 k9 => ?_
   have K9 : Kp w6 w9 n_ := zaq o8 k9 w6 k8 (Nat.le_refl _)
   rw [List.nil_append] at o9
   obtain ⟨a9, c9, rfl⟩ := zab o9
   have hlt9 : (lx.take i).length = i := by rw [List.length_take]; omega
   have hat9 := zac hat (K6.trans0 K9)
   refine KGO ?_
   rw [show ((i : Nat) : Int) + 1 = ((i + 1 : Nat) : Int) by omega]
   refine Cut.from (by omega) hcap ?_
   refine KGO ?_
   refine tyM.app (lx.drop (i + 1)) o9 K9.size (by rw [List.length_drop]) (fun hpos => ?_) (by rw [List.length_take, List.length_drop]; omega) (by rw [List.length_take, List.length_drop]; omega) fun vA wA oA kA => ?_
   ·rw [if_neg (by omega : ¬ i + 1 = mc)]
    exact ⟨gb, _, rfl, zbq lenMl hat9 (i + 1)⟩
   have KA : Kp w6 wA n_ := zaq o9 kA w6 K9 (Nat.le_refl _)
   obtain ⟨aA, cA, rfl⟩ := zab oA
   have stA := zaB oA (by decide) (by decide)
   have cpA := zbk oA
   have v1 := v1.keep0 KA
   have v3 := v3.keep0 KA
   refine KGO ?_
   refine SCK 1 v1 fun w8 v8 k8 => ?_
   have v8 : VarK w8 b1 36 (accC ⟨h.B, ⟨aA, _, cA⟩, h.S, h.N⟩ { A with mails := A.mails.take i ++ A.mails.drop (i + 1) }) := v8
   have v3 := v3.keep k8 (fun e => by have e : b3 = b1 := e; omega)
   have a8 := v8.at
   have kr8 := Kp.refl w8 n_
   refine KGO ?_
   refine SVK (accC ⟨h.B, ⟨aA, _, cA⟩, h.S, h.N⟩ { A with mails := A.mails.take i ++ A.mails.drop (i + 1) }) v3 fun w9 v9 k9 => ?_
   have K9 : Kp w w9 n_ := zae (zae (K6.trans0 KA) k8 (by omega)) k9 (by omega)
   have hat := v9.at
   refine KGO ?_
   refine GW ?_
   refine KGO ?_
   refine GW ?_
   have s9 := hs.keep K9
   have n9 := (stA.step v1 k8).step v3 k9
   refine ⟨_, _, 0, rfl, ⟨lx.take i ++ lx.drop (i + 1), by rw [List.map_append, List.map_take, List.map_drop, hm], fun u ku => ⟨(s9 u ku).b, n9 u ku, fun z hz => (s9 u ku).x z ?_, (s9 u ku).s, (s9 u ku).n⟩⟩, ⟨cp.B, cpA⟩, zba hres, K9⟩
   rcases List.mem_append.1 hz with hz | hz
   ·exact List.mem_of_mem_take hz
   ·exact List.mem_of_mem_drop hz
  by_cases k3' : o.kind = 3
  ·have hx : changeA A o = moveA A o := by unfold changeA; rw [if_neg k4', if_pos k3']
   rw [hx]
   refine KGO ?_
   refine CallS.of (Tryz.call163 _ _) (zgF (w := w6) A.boxes o.boxes (hs.keep K6).now.b o6.b (by omega) (by omega)) ?_
   rintro e w7 ⟨rfl, k7⟩
   have K7 := K6.trans0 k7
   have v3 := v3.keep0 k7
   refine RT ?_
   by_cases c1 : o.boxes = []
   ·have c1' := hnil.1 c1
    refine KGO ?_
    refine SVK (accC h A) v3 fun w8 v8 k8 => ?_
    have K8' : Kp w w8 n_ := zae K7 k8 (by omega)
    have hat := v8.at
    refine KGO ?_
    refine GW ?_
    refine KGO ?_
    refine GW ?_
    exact ⟨h, A, 1, rfl, RefA.keep ⟨lx, hm, hs⟩ K8', cp, zas (by unfold moveA; rw [hof]; dsimp only; rw [if_pos c1]), K8'⟩
   have c1' : ¬ v.b.n = 0 := fun q => c1 (hnil.2 q)
   by_cases c2 : thereB A.boxes o.boxes = true
   rotate_left
   ·have c2 : thereB A.boxes o.boxes = false := by simpa using c2
    rw [c2]
    refine KGO ?_
    refine SVK (accC h A) v3 fun w8 v8 k8 => ?_
    have K8' : Kp w w8 n_ := zae K7 k8 (by omega)
    have hat := v8.at
    refine KGO ?_
    refine GW ?_
    refine KGO ?_
    refine GW ?_
    exact ⟨h, A, 5, rfl, RefA.keep ⟨lx, hm, hs⟩ K8', cp, zas (by unfold moveA; rw [hof]; dsimp only; rw [if_neg c1, if_pos c2]), K8'⟩
   rw [c2]
   have hres : moveA A o = .ok ({ A with mails := A.mails.set i { A.mails[i] with boxes := sortI o.boxes, mod := A.st } }, 0) := by
    unfold moveA
    rw [hof]
    dsimp only
    rw [if_neg c1, if_neg (by rw [c2]; simp), hupd]
   refine KGO ?_
   refine CallS.of (Tryz.call165 _ _) (zgt (w := w7) o.boxes (o6.b.keep k7) (by omega)) ?_
   rintro e w8 ⟨vi, rfl, oi, k8⟩
   obtain ⟨ai, ci, rfl⟩ := zab oi
   have K8 := K7.trans0 k8
   have J8 := k7.trans0 k8
   have v3 := v3.keep0 k8
   have v1 := v1.keep0 J8
   have v7 := v7.keep0 J8
   have v2 := v2.keep0 J8
   clear a7 a1
   refine RT ?_
   refine KGO ?_
   refine SCK 33 v7 fun w9 v9 k9 => ?_
   have v9 : VarK w9 b7 42 (mrC ⟨{ lx[i].m with boxes := sortI o.boxes, mod := A.st }, ⟨ai, (sortI o.boxes).length, ci⟩, lx[i].f⟩) := v9
   have K9 : Kp w w9 n_ := zae K8 k9 (by omega)
   have v1 := v1.keep k9 (fun e => by have e : b1 = b7 := e; omega)
   have v3 := v3.keep k9 (fun e => by have e : b3 = b7 := e; omega)
   have oi9 := zah oi k9 (fun q hq e => zau oi v7 (by decide) q hq e)
   have hY : Stab w9 (fun u => MailOk u ⟨{ lx[i].m with boxes := sortI o.boxes, mod := A.st }, ⟨ai, (sortI o.boxes).length, ci⟩, lx[i].f⟩) := ((zaB oi9 (by decide) (by decide)).and (hs.keep K9)).imp fun u q => ⟨q.1, (q.2.x _ (List.getElem_mem hi2)).f⟩
   have a1 := v1.at
   have a7 := v9.at
   have kr9 := Kp.refl w9 n_
   refine KGO ?_
   refine CallS.of (Tryz.call166 _ _) (zgk (w := w9) i ⟨{ lx[i].m with boxes := sortI o.boxes, mod := A.st }, ⟨ai, (sortI o.boxes).length, ci⟩, lx[i].f⟩ (RefA.keep ⟨lx, hm, hs⟩ K9) cp hY hi hml) ?_
   rintro e wB ⟨h', rfl, rB, cB, kB⟩
   have v3 := v3.keep0 kB
   have KB := (K9).trans0 kB
   refine RT ?_
   refine KGO ?_
   refine SVK _ v3 fun wC vC kC => ?_
   have KC : Kp w wC n_ := zae KB kC (by omega)
   have hat := vC.at
   refine KGO ?_
   refine GW ?_
   refine KGO ?_
   refine GW ?_
   exact ⟨_, _, 0, rfl, rB.step v3 kC, cB, zba (by rw [hres, hxm]), KC⟩
  have hx : changeA A o = flagA A o := by unfold changeA; rw [if_neg k4', if_neg k3']
  rw [hx]
  obtain ⟨hmb1, hmb2⟩ : lx[i].m.boxes.length ≤ 100000 ∧ lx[i].m.flags.length ≤ 200 := by rw [hxm]; exact hmb _ (List.getElem_mem hi)
  refine KGO ?_
  refine CallS.of (Tryz.call161 _ _) (zdy (w := w6) o.add o6.a (by omega) fo.fa) ?_
  rintro e w7 ⟨rfl, k7⟩
  have K7 := K6.trans0 k7
  refine RT ?_
  refine KGO ?_
  refine CallS.of (Tryz.call161 _ _) (zdy (w := w7) o.drop (o6.d.keep k7) (by omega) fo.fd) ?_
  rintro e w8 ⟨rfl, k8⟩
  have K8 := K7.trans0 k8
  have J8 := k7.trans0 k8
  have v3 := v3.keep0 J8
  refine RT ?_
  by_cases c1 : flagsB o.add = true
  rotate_left
  ·have c1 : flagsB o.add = false := by simpa using c1
   rw [c1]
   refine KGO ?_
   refine SVK (accC h A) v3 fun w8 v8 k8 => ?_
   have K8' : Kp w w8 n_ := zae K8 k8 (by omega)
   have hat := v8.at
   refine KGO ?_
   refine GW ?_
   refine KGO ?_
   refine GW ?_
   exact ⟨h, A, 1, rfl, RefA.keep ⟨lx, hm, hs⟩ K8', cp, zas (by unfold flagA; rw [hof]; dsimp only; rw [if_pos (.inl c1)]), K8'⟩
  rw [c1]
  by_cases c2 : flagsB o.drop = true
  rotate_left
  ·have c2 : flagsB o.drop = false := by simpa using c2
   rw [c2]
   refine KGO ?_
   refine SVK (accC h A) v3 fun w8 v8 k8 => ?_
   have K8' : Kp w w8 n_ := zae K8 k8 (by omega)
   have hat := v8.at
   refine KGO ?_
   refine GW ?_
   refine KGO ?_
   refine GW ?_
   exact ⟨h, A, 1, rfl, RefA.keep ⟨lx, hm, hs⟩ K8', cp, zas (by unfold flagA; rw [hof]; dsimp only; rw [if_pos (.inr c2)]), K8'⟩
  rw [c2]
  have g1 : ¬ (flagsB o.add = false ∨ flagsB o.drop = false) := fun q => by rw [c1, c2] at q; rcases q with q | q <;> cases q
  have hxf := hx6.now.f
  have hfn2 : lx[i].f.n = lx[i].m.flags.length := RowO.len hxf
  refine KGO ?_
  refine RunV.of (build0T _) ?_
  have k9 : Kp w8 (w8.alloc (.cells #[] 9)) n_ := (Kp.refl _ _).alloc _
  have o9 := zbc 9 txC 1 (by decide) w8
  have hB9 := k9.size
  generalize w8.alloc (.cells #[] 9) = w9 at *
  have J9 := J8.trans0 k9
  refine KGO ?_
  refine tyT.app lx[i].m.flags o9 hB9 hfn2 (zgc (hxf.keep (J8.trans0 k9))) (by simp; omega) (by simp; omega) fun vA wA oA kA => ?_
  have KA : Kp w8 wA n_ := zaq o9 kA w8 k9 (Nat.le_refl _)
  rw [List.nil_append] at oA
  obtain ⟨aA, cA, rfl⟩ := zab oA
  have JA := J8.trans0 KA
  have han : v.a.n = o.add.length := RowO.len o6.a
  refine KGO ?_
  refine tyT.app o.add oA KA.size han (zgc (o6.a.keep JA)) (by omega) (by omega) fun vB wB oB kB => ?_
  have KB : Kp w8 wB n_ := zaq oA kB w8 KA (Nat.le_refl _)
  obtain ⟨aB, cB, rfl⟩ := zab oB
  have JB := J8.trans0 KB
  have rB := zat oB
  have hlB : (lx[i].m.flags ++ o.add).length ≤ 8796093022200 := by rw [List.length_append]; omega
  have v7 := v7.keep0 JB
  have v3 := v3.keep0 KB
  have v1 := v1.keep0 JB
  have a2B := zac a2 JB
  have hlS : (sortT (lx[i].m.flags ++ o.add)).length ≤ (lx[i].m.flags ++ o.add).length := zcc _
  clear a7
  refine KGO ?_
  refine Draw.heldEnd (fun u => Kp wB u n_) (fun _ => true) (by simp) (by decide +kernel) (by decide +kernel) (Kp.refl _ _).drew ?_
  have kdB : Kp wB wB.drew n_ := (Kp.refl _ _).drew
  refine GW ?_
  refine KGO ?_
  refine CallS.of (Tryz.call164 _ _) (zgw (w := wB.drew) (lx[i].m.flags ++ o.add) (rB.keep kdB) hlB) ?_
  rintro e wC ⟨vC, rfl, oC, kC⟩
  obtain ⟨aC, cC, rfl⟩ := zab oC
  have JC : Kp wB wC n_ := kdB.trans0 kC
  refine RT ?_
  refine ⟨JC, ?_⟩
  refine KGO ?_
  refine CallS.of (Tryz.call167 _ _) (zfR (w := wC) (sortT (lx[i].m.flags ++ o.add)) o.drop (zat oC) (o6.d.keep (JB.trans0 JC)) (by omega) (by omega)) ?_
  rintro e wD ⟨vD, rfl, oD, kD⟩
  obtain ⟨aD, cD, rfl⟩ := zab oD
  have JD : Kp wB wD n_ := JC.trans0 kD
  refine RT ?_
  refine ⟨JD, ?_⟩
  have hnf : (sortT (lx[i].m.flags ++ o.add)).filter (fun f => !decide (f ∈ o.drop)) = newFlags A.mails[i] o := by unfold newFlags; rw [hxm]
  rw [hnf] at oD ⊢
  have v7 := v7.keep0 JD
  have v3 := v3.keep0 JD
  have v1 := v1.keep0 JD
  refine KGO ?_
  refine SCK 34 v7 fun wE vE kE => ?_
  have vE : VarK wE b7 42 (mrC ⟨{ lx[i].m with flags := newFlags A.mails[i] o, mod := A.st }, lx[i].b, ⟨aD, (newFlags A.mails[i] o).length, cD⟩⟩) := vE
  have KD := (K8.trans0 KB).trans0 JD
  have KE : Kp w wE n_ := zae KD kE (by omega)
  have v1 := v1.keep kE (fun e => by have e : b1 = b7 := e; omega)
  have v3 := v3.keep kE (fun e => by have e : b3 = b7 := e; omega)
  have oE := zah oD kE (fun q hq e => zau oD v7 (by decide) q hq e)
  have hY : Stab wE (fun u => MailOk u ⟨{ lx[i].m with flags := newFlags A.mails[i] o, mod := A.st }, lx[i].b, ⟨aD, (newFlags A.mails[i] o).length, cD⟩⟩) := ((zaB oE (by decide) (by decide)).and (hs.keep KE)).imp fun u q => ⟨(q.2.x _ (List.getElem_mem hi2)).b, q.1⟩
  clear a1 a2 a2B kr6
  have a1 := v1.at
  have a7 : At wE b7 0 (.int .i64 lx[i].m.id :: (dgC lx[i].m.blob ++ [.slice lx[i].b.a lx[i].b.n lx[i].b.c, .slice aD (newFlags A.mails[i] o).length cD, .int .i64 lx[i].m.at_, .int .i64 lx[i].m.size, .int .i64 A.st])) := vE.at
  have krE := Kp.refl wE n_
  by_cases c3 : 20 < (newFlags A.mails[i] o).length
  ·skip
   refine KGO ?_
   refine SVK (accC h A) v3 fun w8 v8 k8 => ?_
   have K8' : Kp w w8 n_ := zae KE k8 (by omega)
   have hat := v8.at
   refine KGO ?_
   refine GW ?_
   refine KGO ?_
   refine GW ?_
   exact ⟨h, A, 3, rfl, RefA.keep ⟨lx, hm, hs⟩ K8', cp, zas (by unfold flagA; rw [hof]; dsimp only; rw [if_neg g1, if_pos c3]), K8'⟩
  have hres : flagA A o = .ok ({ A with mails := A.mails.set i { A.mails[i] with flags := newFlags A.mails[i] o, mod := A.st } }, 0) := by
   unfold flagA
   rw [hof]
   dsimp only
   rw [if_neg g1, if_neg c3, hupd]
  refine KGO ?_
  refine CallS.of (Tryz.call166 _ _) (zgk (w := wE) i ⟨{ lx[i].m with flags := newFlags A.mails[i] o, mod := A.st }, lx[i].b, ⟨aD, (newFlags A.mails[i] o).length, cD⟩⟩ (RefA.keep ⟨lx, hm, hs⟩ KE) cp hY hi hml) ?_
  rintro e wB ⟨h', rfl, rB, cB, kB⟩
  have v3 := v3.keep0 kB
  have KB := (KE).trans0 kB
  refine RT ?_
  refine KGO ?_
  refine SVK _ v3 fun wC vC kC => ?_
  have KC : Kp w wC n_ := zae KB kC (by omega)
  have hat := vC.at
  refine KGO ?_
  refine GW ?_
  refine KGO ?_
  refine GW ?_
  exact ⟨_, _, 0, rfl, rB.step v3 kC, cB, zba (by rw [hres, hxm]), KC⟩
 ·skip
  refine KGO ?_
  refine SCK 37 v7 fun w6 v7 k6 => ?_
  have v7 : VarK w6 b7 42 (mrC ⟨{ lx[i].m with mod := A.st }, lx[i].b, lx[i].f⟩) := v7
  have K6 : Kp w w6 n_ := zae K5 k6 (by omega)
  have v1 := v1.keep k6 (fun e => by have e : b1 = b7 := e; omega)
  have v3 := v3.keep k6 (fun e => by have e : b3 = b7 := e; omega)
  have v2 := ((v2.keep0 k4).keep0 k_w5).keep k6 (fun e => by have e : b2 = b7 := e; omega)
  have hx6 : Stab w6 (fun u => MailOk u lx[i]) := (hs.keep K6).imp fun u q => q.x _ (List.getElem_mem hi2)
  have o6 := ho.keep K6
  have hupd := fun (f : Ml → Ml) => zgC f o.id A.mails i hi hid hfirst
  clear a1 a2 kr5 hif
  have a2 := v2.at
  have a1 := v1.at
  have a7 := v7.at
  have kr6 := Kp.refl w6 n_
  by_cases k4' : o.kind = 4
  ·have hx : changeA A o = destroyA A o := by unfold changeA; rw [if_pos k4']
   rw [hx]
   clear a1
   have a1 : At w6 b1 0 [.slice h.B.a h.B.n h.B.c, .slice (some ⟨gb, go, none⟩) lx.length mc, .slice h.S.a h.S.n h.S.c, .string (str A.active), .slice h.N.a h.N.n h.N.c, .int .i64 A.nm, .int .i64 A.nb, .int .i64 A.st] := hcl ▸ v1.at
   have hres : destroyA A o = .ok ({ A with mails := A.mails.take i ++ A.mails.drop (i + 1) }, 0) := by
    unfold destroyA
    rw [hof]
    dsimp only
    rw [zer o.id A.mails i hi hid hfirst]
   refine KGO ?_
   refine RunV.of (build0Ml _) ?_
   have k8 : Kp w6 (w6.alloc (.cells #[] 42)) n_ := (Kp.refl _ _).alloc _
   have o8 := zbc 42 mrC 38 (by decide) w6
   have hB8 := k8.size
   generalize w6.alloc (.cells #[] 42) = w8 at *
   have hat8 := zac hat (K6.trans0 k8)
   refine KGO ?_
   rw [if_neg (by omega : ¬ 0 = mc)]
   refine tyM.app (lx.take i) o8 hB8 (by rw [List.length_take]; omega) (fun _ => ⟨gb, _, rfl, by simpa using zbw lenMl hat8 i⟩) (by rw [List.length_take]; simp; omega) (by rw [List.length_take]; simp; omega) fun v9 w9 o9 k9 => ?_
   have K9 : Kp w6 w9 n_ := zaq o8 k9 w6 k8 (Nat.le_refl _)
   rw [List.nil_append] at o9
   obtain ⟨a9, c9, rfl⟩ := zab o9
   have hlt9 : (lx.take i).length = i := by rw [List.length_take]; omega
   have hat9 := zac hat (K6.trans0 K9)
   refine KGO ?_
   rw [show ((i : Nat) : Int) + 1 = ((i + 1 : Nat) : Int) by omega]
   refine Cut.from (by omega) hcap ?_
   refine KGO ?_
   refine tyM.app (lx.drop (i + 1)) o9 K9.size (by rw [List.length_drop]) (fun hpos => ?_) (by rw [List.length_take, List.length_drop]; omega) (by rw [List.length_take, List.length_drop]; omega) fun vA wA oA kA => ?_
   ·rw [if_neg (by omega : ¬ i + 1 = mc)]
    exact ⟨gb, _, rfl, zbq lenMl hat9 (i + 1)⟩
   have KA : Kp w6 wA n_ := zaq o9 kA w6 K9 (Nat.le_refl _)
   obtain ⟨aA, cA, rfl⟩ := zab oA
   have stA := zaB oA (by decide) (by decide)
   have cpA := zbk oA
   have v1 := v1.keep0 KA
   have v3 := v3.keep0 KA
   refine KGO ?_
   refine SCK 1 v1 fun w8 v8 k8 => ?_
   have v8 : VarK w8 b1 36 (accC ⟨h.B, ⟨aA, _, cA⟩, h.S, h.N⟩ { A with mails := A.mails.take i ++ A.mails.drop (i + 1) }) := v8
   have v3 := v3.keep k8 (fun e => by have e : b3 = b1 := e; omega)
   have a8 := v8.at
   have kr8 := Kp.refl w8 n_
   refine KGO ?_
   refine SVK (accC ⟨h.B, ⟨aA, _, cA⟩, h.S, h.N⟩ { A with mails := A.mails.take i ++ A.mails.drop (i + 1) }) v3 fun w9 v9 k9 => ?_
   have K9 : Kp w w9 n_ := zae (zae (K6.trans0 KA) k8 (by omega)) k9 (by omega)
   have hat := v9.at
   refine KGO ?_
   refine GW ?_
   refine KGO ?_
   refine GW ?_
   have s9 := hs.keep K9
   have n9 := (stA.step v1 k8).step v3 k9
   refine ⟨_, _, 0, rfl, ⟨lx.take i ++ lx.drop (i + 1), by rw [List.map_append, List.map_take, List.map_drop, hm], fun u ku => ⟨(s9 u ku).b, n9 u ku, fun z hz => (s9 u ku).x z ?_, (s9 u ku).s, (s9 u ku).n⟩⟩, ⟨cp.B, cpA⟩, zba hres, K9⟩
   rcases List.mem_append.1 hz with hz | hz
   ·exact List.mem_of_mem_take hz
   ·exact List.mem_of_mem_drop hz
  by_cases k3' : o.kind = 3
  ·have hx : changeA A o = moveA A o := by unfold changeA; rw [if_neg k4', if_pos k3']
   rw [hx]
   refine KGO ?_
   refine CallS.of (Tryz.call163 _ _) (zgF (w := w6) A.boxes o.boxes (hs.keep K6).now.b o6.b (by omega) (by omega)) ?_
   rintro e w7 ⟨rfl, k7⟩
   have K7 := K6.trans0 k7
   have v3 := v3.keep0 k7
   refine RT ?_
   by_cases c1 : o.boxes = []
   ·have c1' := hnil.1 c1
    refine KGO ?_
    refine SVK (accC h A) v3 fun w8 v8 k8 => ?_
    have K8' : Kp w w8 n_ := zae K7 k8 (by omega)
    have hat := v8.at
    refine KGO ?_
    refine GW ?_
    refine KGO ?_
    refine GW ?_
    exact ⟨h, A, 1, rfl, RefA.keep ⟨lx, hm, hs⟩ K8', cp, zas (by unfold moveA; rw [hof]; dsimp only; rw [if_pos c1]), K8'⟩
   have c1' : ¬ v.b.n = 0 := fun q => c1 (hnil.2 q)
   by_cases c2 : thereB A.boxes o.boxes = true
   rotate_left
   ·have c2 : thereB A.boxes o.boxes = false := by simpa using c2
    rw [c2]
    refine KGO ?_
    refine SVK (accC h A) v3 fun w8 v8 k8 => ?_
    have K8' : Kp w w8 n_ := zae K7 k8 (by omega)
    have hat := v8.at
    refine KGO ?_
    refine GW ?_
    refine KGO ?_
    refine GW ?_
    exact ⟨h, A, 5, rfl, RefA.keep ⟨lx, hm, hs⟩ K8', cp, zas (by unfold moveA; rw [hof]; dsimp only; rw [if_neg c1, if_pos c2]), K8'⟩
   rw [c2]
   have hres : moveA A o = .ok ({ A with mails := A.mails.set i { A.mails[i] with boxes := sortI o.boxes, mod := A.st } }, 0) := by
    unfold moveA
    rw [hof]
    dsimp only
    rw [if_neg c1, if_neg (by rw [c2]; simp), hupd]
   refine KGO ?_
   refine CallS.of (Tryz.call165 _ _) (zgt (w := w7) o.boxes (o6.b.keep k7) (by omega)) ?_
   rintro e w8 ⟨vi, rfl, oi, k8⟩
   obtain ⟨ai, ci, rfl⟩ := zab oi
   have K8 := K7.trans0 k8
   have J8 := k7.trans0 k8
   have v3 := v3.keep0 k8
   have v1 := v1.keep0 J8
   have v7 := v7.keep0 J8
   have v2 := v2.keep0 J8
   clear a7 a1
   refine RT ?_
   refine KGO ?_
   refine SCK 33 v7 fun w9 v9 k9 => ?_
   have v9 : VarK w9 b7 42 (mrC ⟨{ lx[i].m with boxes := sortI o.boxes, mod := A.st }, ⟨ai, (sortI o.boxes).length, ci⟩, lx[i].f⟩) := v9
   have K9 : Kp w w9 n_ := zae K8 k9 (by omega)
   have v1 := v1.keep k9 (fun e => by have e : b1 = b7 := e; omega)
   have v3 := v3.keep k9 (fun e => by have e : b3 = b7 := e; omega)
   have oi9 := zah oi k9 (fun q hq e => zau oi v7 (by decide) q hq e)
   have hY : Stab w9 (fun u => MailOk u ⟨{ lx[i].m with boxes := sortI o.boxes, mod := A.st }, ⟨ai, (sortI o.boxes).length, ci⟩, lx[i].f⟩) := ((zaB oi9 (by decide) (by decide)).and (hs.keep K9)).imp fun u q => ⟨q.1, (q.2.x _ (List.getElem_mem hi2)).f⟩
   have a1 := v1.at
   have a7 := v9.at
   have kr9 := Kp.refl w9 n_
   refine KGO ?_
   refine CallS.of (Tryz.call166 _ _) (zgk (w := w9) i ⟨{ lx[i].m with boxes := sortI o.boxes, mod := A.st }, ⟨ai, (sortI o.boxes).length, ci⟩, lx[i].f⟩ (RefA.keep ⟨lx, hm, hs⟩ K9) cp hY hi hml) ?_
   rintro e wB ⟨h', rfl, rB, cB, kB⟩
   have v3 := v3.keep0 kB
   have KB := (K9).trans0 kB
   refine RT ?_
   refine KGO ?_
   refine SVK _ v3 fun wC vC kC => ?_
   have KC : Kp w wC n_ := zae KB kC (by omega)
   have hat := vC.at
   refine KGO ?_
   refine GW ?_
   refine KGO ?_
   refine GW ?_
   exact ⟨_, _, 0, rfl, rB.step v3 kC, cB, zba (by rw [hres, hxm]), KC⟩
  have hx : changeA A o = flagA A o := by unfold changeA; rw [if_neg k4', if_neg k3']
  rw [hx]
  obtain ⟨hmb1, hmb2⟩ : lx[i].m.boxes.length ≤ 100000 ∧ lx[i].m.flags.length ≤ 200 := by rw [hxm]; exact hmb _ (List.getElem_mem hi)
  refine KGO ?_
  refine CallS.of (Tryz.call161 _ _) (zdy (w := w6) o.add o6.a (by omega) fo.fa) ?_
  rintro e w7 ⟨rfl, k7⟩
  have K7 := K6.trans0 k7
  refine RT ?_
  refine KGO ?_
  refine CallS.of (Tryz.call161 _ _) (zdy (w := w7) o.drop (o6.d.keep k7) (by omega) fo.fd) ?_
  rintro e w8 ⟨rfl, k8⟩
  have K8 := K7.trans0 k8
  have J8 := k7.trans0 k8
  have v3 := v3.keep0 J8
  refine RT ?_
  by_cases c1 : flagsB o.add = true
  rotate_left
  ·have c1 : flagsB o.add = false := by simpa using c1
   rw [c1]
   refine KGO ?_
   refine SVK (accC h A) v3 fun w8 v8 k8 => ?_
   have K8' : Kp w w8 n_ := zae K8 k8 (by omega)
   have hat := v8.at
   refine KGO ?_
   refine GW ?_
   refine KGO ?_
   refine GW ?_
   exact ⟨h, A, 1, rfl, RefA.keep ⟨lx, hm, hs⟩ K8', cp, zas (by unfold flagA; rw [hof]; dsimp only; rw [if_pos (.inl c1)]), K8'⟩
  rw [c1]
  by_cases c2 : flagsB o.drop = true
  rotate_left
  ·have c2 : flagsB o.drop = false := by simpa using c2
   rw [c2]
   refine KGO ?_
   refine SVK (accC h A) v3 fun w8 v8 k8 => ?_
   have K8' : Kp w w8 n_ := zae K8 k8 (by omega)
   have hat := v8.at
   refine KGO ?_
   refine GW ?_
   refine KGO ?_
   refine GW ?_
   exact ⟨h, A, 1, rfl, RefA.keep ⟨lx, hm, hs⟩ K8', cp, zas (by unfold flagA; rw [hof]; dsimp only; rw [if_pos (.inr c2)]), K8'⟩
  rw [c2]
  have g1 : ¬ (flagsB o.add = false ∨ flagsB o.drop = false) := fun q => by rw [c1, c2] at q; rcases q with q | q <;> cases q
  have hxf := hx6.now.f
  have hfn2 : lx[i].f.n = lx[i].m.flags.length := RowO.len hxf
  refine KGO ?_
  refine RunV.of (build0T _) ?_
  have k9 : Kp w8 (w8.alloc (.cells #[] 9)) n_ := (Kp.refl _ _).alloc _
  have o9 := zbc 9 txC 1 (by decide) w8
  have hB9 := k9.size
  generalize w8.alloc (.cells #[] 9) = w9 at *
  have J9 := J8.trans0 k9
  refine KGO ?_
  refine tyT.app lx[i].m.flags o9 hB9 hfn2 (zgc (hxf.keep (J8.trans0 k9))) (by simp; omega) (by simp; omega) fun vA wA oA kA => ?_
  have KA : Kp w8 wA n_ := zaq o9 kA w8 k9 (Nat.le_refl _)
  rw [List.nil_append] at oA
  obtain ⟨aA, cA, rfl⟩ := zab oA
  have JA := J8.trans0 KA
  have han : v.a.n = o.add.length := RowO.len o6.a
  refine KGO ?_
  refine tyT.app o.add oA KA.size han (zgc (o6.a.keep JA)) (by omega) (by omega) fun vB wB oB kB => ?_
  have KB : Kp w8 wB n_ := zaq oA kB w8 KA (Nat.le_refl _)
  obtain ⟨aB, cB, rfl⟩ := zab oB
  have JB := J8.trans0 KB
  have rB := zat oB
  have hlB : (lx[i].m.flags ++ o.add).length ≤ 8796093022200 := by rw [List.length_append]; omega
  have v7 := v7.keep0 JB
  have v3 := v3.keep0 KB
  have v1 := v1.keep0 JB
  have a2B := zac a2 JB
  have hlS : (sortT (lx[i].m.flags ++ o.add)).length ≤ (lx[i].m.flags ++ o.add).length := zcc _
  clear a7
  refine KGO ?_
  refine Draw.heldEnd (fun u => Kp wB u n_) (fun _ => true) (by simp) (by decide +kernel) (by decide +kernel) (Kp.refl _ _).drew ?_
  have kdB : Kp wB wB.drew n_ := (Kp.refl _ _).drew
  refine GW ?_
  refine KGO ?_
  refine CallS.of (Tryz.call164 _ _) (zgw (w := wB.drew) (lx[i].m.flags ++ o.add) (rB.keep kdB) hlB) ?_
  rintro e wC ⟨vC, rfl, oC, kC⟩
  obtain ⟨aC, cC, rfl⟩ := zab oC
  have JC : Kp wB wC n_ := kdB.trans0 kC
  refine RT ?_
  refine ⟨JC, ?_⟩
  refine KGO ?_
  refine CallS.of (Tryz.call167 _ _) (zfR (w := wC) (sortT (lx[i].m.flags ++ o.add)) o.drop (zat oC) (o6.d.keep (JB.trans0 JC)) (by omega) (by omega)) ?_
  rintro e wD ⟨vD, rfl, oD, kD⟩
  obtain ⟨aD, cD, rfl⟩ := zab oD
  have JD : Kp wB wD n_ := JC.trans0 kD
  refine RT ?_
  refine ⟨JD, ?_⟩
  have hnf : (sortT (lx[i].m.flags ++ o.add)).filter (fun f => !decide (f ∈ o.drop)) = newFlags A.mails[i] o := by unfold newFlags; rw [hxm]
  rw [hnf] at oD ⊢
  have v7 := v7.keep0 JD
  have v3 := v3.keep0 JD
  have v1 := v1.keep0 JD
  refine KGO ?_
  refine SCK 34 v7 fun wE vE kE => ?_
  have vE : VarK wE b7 42 (mrC ⟨{ lx[i].m with flags := newFlags A.mails[i] o, mod := A.st }, lx[i].b, ⟨aD, (newFlags A.mails[i] o).length, cD⟩⟩) := vE
  have KD := (K8.trans0 KB).trans0 JD
  have KE : Kp w wE n_ := zae KD kE (by omega)
  have v1 := v1.keep kE (fun e => by have e : b1 = b7 := e; omega)
  have v3 := v3.keep kE (fun e => by have e : b3 = b7 := e; omega)
  have oE := zah oD kE (fun q hq e => zau oD v7 (by decide) q hq e)
  have hY : Stab wE (fun u => MailOk u ⟨{ lx[i].m with flags := newFlags A.mails[i] o, mod := A.st }, lx[i].b, ⟨aD, (newFlags A.mails[i] o).length, cD⟩⟩) := ((zaB oE (by decide) (by decide)).and (hs.keep KE)).imp fun u q => ⟨(q.2.x _ (List.getElem_mem hi2)).b, q.1⟩
  clear a1 a2 a2B kr6
  have a1 := v1.at
  have a7 : At wE b7 0 (.int .i64 lx[i].m.id :: (dgC lx[i].m.blob ++ [.slice lx[i].b.a lx[i].b.n lx[i].b.c, .slice aD (newFlags A.mails[i] o).length cD, .int .i64 lx[i].m.at_, .int .i64 lx[i].m.size, .int .i64 A.st])) := vE.at
  have krE := Kp.refl wE n_
  by_cases c3 : 20 < (newFlags A.mails[i] o).length
  ·skip
   refine KGO ?_
   refine SVK (accC h A) v3 fun w8 v8 k8 => ?_
   have K8' : Kp w w8 n_ := zae KE k8 (by omega)
   have hat := v8.at
   refine KGO ?_
   refine GW ?_
   refine KGO ?_
   refine GW ?_
   exact ⟨h, A, 3, rfl, RefA.keep ⟨lx, hm, hs⟩ K8', cp, zas (by unfold flagA; rw [hof]; dsimp only; rw [if_neg g1, if_pos c3]), K8'⟩
  have hres : flagA A o = .ok ({ A with mails := A.mails.set i { A.mails[i] with flags := newFlags A.mails[i] o, mod := A.st } }, 0) := by
   unfold flagA
   rw [hof]
   dsimp only
   rw [if_neg g1, if_neg c3, hupd]
  refine KGO ?_
  refine CallS.of (Tryz.call166 _ _) (zgk (w := wE) i ⟨{ lx[i].m with flags := newFlags A.mails[i] o, mod := A.st }, lx[i].b, ⟨aD, (newFlags A.mails[i] o).length, cD⟩⟩ (RefA.keep ⟨lx, hm, hs⟩ KE) cp hY hi hml) ?_
  rintro e wB ⟨h', rfl, rB, cB, kB⟩
  have v3 := v3.keep0 kB
  have KB := (KE).trans0 kB
  refine RT ?_
  refine KGO ?_
  refine SVK _ v3 fun wC vC kC => ?_
  have KC : Kp w wC n_ := zae KB kC (by omega)
  have hat := vC.at
  refine KGO ?_
  refine GW ?_
  refine KGO ?_
  refine GW ?_
  exact ⟨_, _, 0, rfl, rB.step v3 kC, cB, zba (by rw [hres, hxm]), KC⟩
end
end Go.Proofs.YtohhkegmbgancaaGreatDoor
