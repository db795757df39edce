/- Helper text of this claim: lemmas and contracts that the proved statement rests on; no conditions of its own. -/
import Derived.Test.YtohhkegmbgancaaGreatDoorAtB
namespace Go.Proofs.YtohhkegmbgancaaGreatDoor
set_option maxHeartbeats 16000000
open Go.Shelf Go.RowKit Go.Pw Go.Vc Go.Cs Go.Lib
set_option linter.unusedVariables false
set_option maxRecDepth 100000
section
variable {w : World}
theorem zpm {h : Hd} {A : Acc} {v : Ov} {o : Opr} (r : RefA w h A) (cp : Caps h) (hf : Fit A) (g : GoodQ A) (ho : OpR w v o) (fo : FitO o) :
  Calls Tryz.prog 47 #[.agg (accC h A).toArray, .agg (opC v o).toArray] w (Ends3 w (oneA A o)) := by
 have fbl := hf.bl
 have fnb := hf.nb
 refine zaa (args := [.agg (accC h A).toArray, .agg (opC v o).toArray]) Tryz.func47 rfl NL ?_; refine GW ?_
 obtain ⟨a_b1, v_b1, k_w1, z_w1, r_w1⟩ := new5 w 36 (accC h A)
 generalize w.alloc (.cells (List.toArray (accC h A)) 36) = w1 at *
 generalize hs_b1 : w.heap.size = b1 at *
 obtain ⟨a_b2, v_b2, k_w2, z_w2, r_w2⟩ := new5 w1 28 (opC v o)
 generalize w1.alloc (.cells (List.toArray (opC v o)) 28) = w2 at *
 generalize hs_b2 : w1.heap.size = b2 at *
 obtain ⟨a_b3, v_b3, k_w3, z_w3, r_w3⟩ := new5 w2 36 (zAcc')
 generalize w2.alloc (.cells (List.toArray (zAcc')) 36) = w3 at *
 generalize hs_b3 : w2.heap.size = b3 at *
 have K3 := (k_w1.trans0 k_w2).trans0 k_w3
 have v1 := v_b1.keep0 (k_w2.trans0 k_w3)
 have v2 := v_b2.keep0 k_w3
 have v3 := v_b3
 have a1 := v1.at
 have a2 := v2.at
 have r3 := r.keep K3
 have o3 := ho.keep K3
 have kr3 := Kp.refl w3 n_
 clear a_b1 a_b2 a_b3
 by_cases e1 : o.kind = 1
 ·have hone : oneA A o = mailA A o := by unfold oneA; rw [e1]; rfl
  rw [hone]
  refine KGO ?_
  refine CallS.of (Tryz.call110 _ _) (zog (w := w3) r3 cp hf o3 fo) ?_
  rintro e w4 ⟨h', A', n, c, rfl, rB, cB, hS, kB⟩
  have v3 := v3.keep0 kB
  have K4 := K3.trans0 kB
  refine RT ?_
  refine KGO ?_
  refine SVK _ v3 fun wC vC kC => ?_
  have KC : Kp w wC n_ := zae K4 kC (by omega)
  have hat := vC.at
  refine KGO ?_
  refine GW ?_
  refine KGO ?_
  refine GW ?_
  exact ⟨_, _, n, c, rfl, RefA.step rB v3 kC, cB, hS, KC⟩
 by_cases e2 : o.kind = 2
 ·have hone : oneA A o = changeA A o := by unfold oneA changeA; rw [e2]; rfl
  rw [hone]
  refine KGO ?_
  refine CallS.of (Tryz.call111 _ _) (zfk (w := w3) r3 cp hf o3 fo) ?_
  rintro e w4 ⟨h', A', c, rfl, rB, cB, hS, kB⟩
  have v3 := v3.keep0 kB
  have K4 := K3.trans0 kB
  refine RT ?_
  refine KGO ?_
  refine Store.fresh (vs := accC h' A') (by rfl) rfl (zan (by rfl)) ?_
  obtain ⟨a_b7, k_w5, z_w5⟩ := new3 w4 36 (accC h' A')
  generalize w4.alloc (.cells (List.toArray (accC h' A')) 36) = w5 at *
  generalize hs_b7 : w4.heap.size = b7 at *
  have v3 := v3.keep0 k_w5
  have K5 := K4.trans0 k_w5
  have rB := rB.keep k_w5
  have kr5 := Kp.refl w5 n_
  refine KGO ?_
  refine SVK _ v3 fun wC vC kC => ?_
  have KC : Kp w wC n_ := zae K5 kC (by omega)
  have hat := vC.at
  refine KGO ?_
  refine GW ?_
  refine KGO ?_
  refine GW ?_
  exact ⟨_, _, 0, c, rfl, RefA.step rB v3 kC, cB, hS, KC⟩
 by_cases e3 : o.kind = 3
 ·have hone : oneA A o = changeA A o := by unfold oneA changeA; rw [e3]; rfl
  rw [hone]
  refine KGO ?_
  refine CallS.of (Tryz.call111 _ _) (zfk (w := w3) r3 cp hf o3 fo) ?_
  rintro e w4 ⟨h', A', c, rfl, rB, cB, hS, kB⟩
  have v3 := v3.keep0 kB
  have K4 := K3.trans0 kB
  refine RT ?_
  refine KGO ?_
  refine Store.fresh (vs := accC h' A') (by rfl) rfl (zan (by rfl)) ?_
  obtain ⟨a_b7, k_w5, z_w5⟩ := new3 w4 36 (accC h' A')
  generalize w4.alloc (.cells (List.toArray (accC h' A')) 36) = w5 at *
  generalize hs_b7 : w4.heap.size = b7 at *
  have v3 := v3.keep0 k_w5
  have K5 := K4.trans0 k_w5
  have rB := rB.keep k_w5
  have kr5 := Kp.refl w5 n_
  refine KGO ?_
  refine SVK _ v3 fun wC vC kC => ?_
  have KC : Kp w wC n_ := zae K5 kC (by omega)
  have hat := vC.at
  refine KGO ?_
  refine GW ?_
  refine KGO ?_
  refine GW ?_
  exact ⟨_, _, 0, c, rfl, RefA.step rB v3 kC, cB, hS, KC⟩
 by_cases e4 : o.kind = 4
 ·have hone : oneA A o = changeA A o := by unfold oneA changeA; rw [e4]; rfl
  rw [hone]
  refine KGO ?_
  refine CallS.of (Tryz.call111 _ _) (zfk (w := w3) r3 cp hf o3 fo) ?_
  rintro e w4 ⟨h', A', c, rfl, rB, cB, hS, kB⟩
  have v3 := v3.keep0 kB
  have K4 := K3.trans0 kB
  refine RT ?_
  refine KGO ?_
  refine Store.fresh (vs := accC h' A') (by rfl) rfl (zan (by rfl)) ?_
  obtain ⟨a_b7, k_w5, z_w5⟩ := new3 w4 36 (accC h' A')
  generalize w4.alloc (.cells (List.toArray (accC h' A')) 36) = w5 at *
  generalize hs_b7 : w4.heap.size = b7 at *
  have v3 := v3.keep0 k_w5
  have K5 := K4.trans0 k_w5
  have rB := rB.keep k_w5
  have kr5 := Kp.refl w5 n_
  refine KGO ?_
  refine SVK _ v3 fun wC vC kC => ?_
  have KC : Kp w wC n_ := zae K5 kC (by omega)
  have hat := vC.at
  refine KGO ?_
  refine GW ?_
  refine KGO ?_
  refine GW ?_
  exact ⟨_, _, 0, c, rfl, RefA.step rB v3 kC, cB, hS, KC⟩
 by_cases e8 : o.kind = 8
 ·have hone : oneA A o = dropA A o := by unfold oneA; rw [e8]; rfl
  rw [hone]
  refine KGO ?_
  refine CallS.of (Tryz.call114 _ _) (zoW (w := w3) r3 cp hf g) ?_
  rintro e w4 ⟨h', A', c, rfl, rB, cB, hS, kB⟩
  have v3 := v3.keep0 kB
  have K4 := K3.trans0 kB
  refine RT ?_
  refine KGO ?_
  refine Store.fresh (vs := accC h' A') (by rfl) rfl (zan (by rfl)) ?_
  obtain ⟨a_b7, k_w5, z_w5⟩ := new3 w4 36 (accC h' A')
  generalize w4.alloc (.cells (List.toArray (accC h' A')) 36) = w5 at *
  generalize hs_b7 : w4.heap.size = b7 at *
  have v3 := v3.keep0 k_w5
  have K5 := K4.trans0 k_w5
  have rB := rB.keep k_w5
  have kr5 := Kp.refl w5 n_
  refine KGO ?_
  refine SVK _ v3 fun wC vC kC => ?_
  have KC : Kp w wC n_ := zae K5 kC (by omega)
  have hat := vC.at
  refine KGO ?_
  refine GW ?_
  refine KGO ?_
  refine GW ?_
  exact ⟨_, _, 0, c, rfl, RefA.step rB v3 kC, cB, hS, KC⟩
 by_cases e9 : o.kind = 9
 ·have hone : oneA A o = scriptA A o := by unfold oneA scriptA; rw [e9]; rfl
  rw [hone]
  refine KGO ?_
  refine CallS.of (Tryz.call115 _ _) (zeS (w := w3) r3 cp g.sasc g.sl fo) ?_
  rintro e w4 ⟨h', A', c, rfl, rB, cB, hS, kB⟩
  have v3 := v3.keep0 kB
  have K4 := K3.trans0 kB
  refine RT ?_
  refine KGO ?_
  refine Store.fresh (vs := accC h' A') (by rfl) rfl (zan (by rfl)) ?_
  obtain ⟨a_b7, k_w5, z_w5⟩ := new3 w4 36 (accC h' A')
  generalize w4.alloc (.cells (List.toArray (accC h' A')) 36) = w5 at *
  generalize hs_b7 : w4.heap.size = b7 at *
  have v3 := v3.keep0 k_w5
  have K5 := K4.trans0 k_w5
  have rB := rB.keep k_w5
  have kr5 := Kp.refl w5 n_
  refine KGO ?_
  refine SVK _ v3 fun wC vC kC => ?_
  have KC : Kp w wC n_ := zae K5 kC (by omega)
  have hat := vC.at
  refine KGO ?_
  refine GW ?_
  refine KGO ?_
  refine GW ?_
  exact ⟨_, _, 0, c, rfl, RefA.step rB v3 kC, cB, hS, KC⟩
 by_cases e10 : o.kind = 10
 ·have hone : oneA A o = scriptA A o := by unfold oneA scriptA; rw [e10]; rfl
  rw [hone]
  refine KGO ?_
  refine CallS.of (Tryz.call115 _ _) (zeS (w := w3) r3 cp g.sasc g.sl fo) ?_
  rintro e w4 ⟨h', A', c, rfl, rB, cB, hS, kB⟩
  have v3 := v3.keep0 kB
  have K4 := K3.trans0 kB
  refine RT ?_
  refine KGO ?_
  refine Store.fresh (vs := accC h' A') (by rfl) rfl (zan (by rfl)) ?_
  obtain ⟨a_b7, k_w5, z_w5⟩ := new3 w4 36 (accC h' A')
  generalize w4.alloc (.cells (List.toArray (accC h' A')) 36) = w5 at *
  generalize hs_b7 : w4.heap.size = b7 at *
  have v3 := v3.keep0 k_w5
  have K5 := K4.trans0 k_w5
  have rB := rB.keep k_w5
  have kr5 := Kp.refl w5 n_
  refine KGO ?_
  refine SVK _ v3 fun wC vC kC => ?_
  have KC : Kp w wC n_ := zae K5 kC (by omega)
  have hat := vC.at
  refine KGO ?_
  refine GW ?_
  refine KGO ?_
  refine GW ?_
  exact ⟨_, _, 0, c, rfl, RefA.step rB v3 kC, cB, hS, KC⟩
 by_cases e11 : o.kind = 11
 ·have hone : oneA A o = scriptA A o := by unfold oneA scriptA; rw [e11]; rfl
  rw [hone]
  refine KGO ?_
  refine CallS.of (Tryz.call115 _ _) (zeS (w := w3) r3 cp g.sasc g.sl fo) ?_
  rintro e w4 ⟨h', A', c, rfl, rB, cB, hS, kB⟩
  have v3 := v3.keep0 kB
  have K4 := K3.trans0 kB
  refine RT ?_
  refine KGO ?_
  refine Store.fresh (vs := accC h' A') (by rfl) rfl (zan (by rfl)) ?_
  obtain ⟨a_b7, k_w5, z_w5⟩ := new3 w4 36 (accC h' A')
  generalize w4.alloc (.cells (List.toArray (accC h' A')) 36) = w5 at *
  generalize hs_b7 : w4.heap.size = b7 at *
  have v3 := v3.keep0 k_w5
  have K5 := K4.trans0 k_w5
  have rB := rB.keep k_w5
  have kr5 := Kp.refl w5 n_
  refine KGO ?_
  refine SVK _ v3 fun wC vC kC => ?_
  have KC : Kp w wC n_ := zae K5 kC (by omega)
  have hat := vC.at
  refine KGO ?_
  refine GW ?_
  refine KGO ?_
  refine GW ?_
  exact ⟨_, _, 0, c, rfl, RefA.step rB v3 kC, cB, hS, KC⟩
 by_cases e12 : o.kind = 12
 ·have hone : oneA A o = answerA A o := by unfold oneA; rw [e12]; rfl
  rw [hone]
  refine KGO ?_
  refine CallS.of (Tryz.call116 _ _) (zlk (w := w3) r3 cp g.nl fo) ?_
  rintro e w4 ⟨h', A', c, rfl, rB, cB, hS, kB⟩
  have v3 := v3.keep0 kB
  have K4 := K3.trans0 kB
  refine RT ?_
  refine KGO ?_
  refine Store.fresh (vs := accC h' A') (by rfl) rfl (zan (by rfl)) ?_
  obtain ⟨a_b7, k_w5, z_w5⟩ := new3 w4 36 (accC h' A')
  generalize w4.alloc (.cells (List.toArray (accC h' A')) 36) = w5 at *
  generalize hs_b7 : w4.heap.size = b7 at *
  have v3 := v3.keep0 k_w5
  have K5 := K4.trans0 k_w5
  have rB := rB.keep k_w5
  have kr5 := Kp.refl w5 n_
  refine KGO ?_
  refine SVK _ v3 fun wC vC kC => ?_
  have KC : Kp w wC n_ := zae K5 kC (by omega)
  have hat := vC.at
  refine KGO ?_
  refine GW ?_
  refine KGO ?_
  refine GW ?_
  exact ⟨_, _, 0, c, rfl, RefA.step rB v3 kC, cB, hS, KC⟩
 by_cases e6 : o.kind = 6
 ·have hone : oneA A o = boxesA A (nameL A.boxes o.box o.name) := by unfold oneA; rw [e6]; rfl
  rw [hone]
  refine KGO ?_
  refine CallS.of (Tryz.call112 _ _) (zoI (w := w3) A.boxes o.box o.name r3.read.b (by omega) hf.bs fo.nm) ?_
  rintro e w4 ⟨vB, rfl, oB, kB⟩
  obtain ⟨aB, cB, rfl⟩ := zab oB
  generalize nameL A.boxes o.box o.name = X at *
  have v1 := v1.keep0 kB
  have v3 := v3.keep0 kB
  have K4 := K3.trans0 kB
  have sB := zaB (E := 74) (c := boxCells) (s := 4) (l := X.1) oB (by decide) (by decide)
  have hcB := zbk (E := 74) (c := boxCells) (s := 4) (l := X.1) oB
  have r4 := r3.keep kB
  have a1 := v1.at
  clear a2 kr3
  refine RT ?_
  refine KGO ?_
  refine SCK 0 v1 fun w5 v5 k5 => ?_
  have v5 : VarK w5 b1 36 (accC ⟨⟨aB, X.1.length, cB⟩, h.M, h.S, h.N⟩ { A with boxes := X.1 }) := v5
  have v3 := v3.keep k5 (fun e => by have e : b3 = b1 := e; omega)
  have K5 : Kp w w5 n_ := zae K4 k5 (by omega)
  have a15 := v5.at
  have kr5 := Kp.refl w5 n_
  have r5 : RefA w5 ⟨⟨aB, X.1.length, cB⟩, h.M, h.S, h.N⟩ { A with boxes := X.1 } := by
   obtain ⟨lx, hm, hs⟩ := r4
   have hs5 := hs.step v1 k5
   have sB5 := sB.step v1 k5
   exact ⟨lx, hm, fun u ku => ⟨sB5 u ku, (hs5 u ku).m, (hs5 u ku).x, (hs5 u ku).s, (hs5 u ku).n⟩⟩
  clear a1
  refine KGO ?_
  have hSy : Says (boxesA A X) { A with boxes := X.1 } 0 X.2 := by
   unfold boxesA
   by_cases hx : X.2 = 0
   ·rw [if_neg (by simp [hx]), hx]; exact ⟨rfl, rfl, rfl⟩
   ·rw [if_pos hx]; exact rfl
  refine SVK _ v3 fun wC vC kC => ?_
  have KC : Kp w wC n_ := zae K5 kC (by omega)
  have hat := vC.at
  refine KGO ?_
  refine GW ?_
  refine KGO ?_
  refine GW ?_
  exact ⟨_, _, 0, X.2, rfl, RefA.step r5 v3 kC, (⟨hcB, cp.M⟩ : Caps ⟨⟨aB, X.1.length, cB⟩, h.M, h.S, h.N⟩), hSy, KC⟩
 by_cases e7 : o.kind = 7
 ·have hone : oneA A o = boxesA A (moveL A.boxes o.box o.up) := by unfold oneA; rw [e7]; rfl
  rw [hone]
  refine KGO ?_
  refine CallS.of (Tryz.call113 _ _) (zow (w := w3) A.boxes o.box o.up r3.read.b (by omega) hf.bs) ?_
  rintro e w4 ⟨vB, rfl, oB, kB⟩
  obtain ⟨aB, cB, rfl⟩ := zab oB
  generalize moveL A.boxes o.box o.up = X at *
  have v1 := v1.keep0 kB
  have v3 := v3.keep0 kB
  have K4 := K3.trans0 kB
  have sB := zaB (E := 74) (c := boxCells) (s := 4) (l := X.1) oB (by decide) (by decide)
  have hcB := zbk (E := 74) (c := boxCells) (s := 4) (l := X.1) oB
  have r4 := r3.keep kB
  have a1 := v1.at
  clear a2 kr3
  refine RT ?_
  refine KGO ?_
  refine SCK 0 v1 fun w5 v5 k5 => ?_
  have v5 : VarK w5 b1 36 (accC ⟨⟨aB, X.1.length, cB⟩, h.M, h.S, h.N⟩ { A with boxes := X.1 }) := v5
  have v3 := v3.keep k5 (fun e => by have e : b3 = b1 := e; omega)
  have K5 : Kp w w5 n_ := zae K4 k5 (by omega)
  have a15 := v5.at
  have kr5 := Kp.refl w5 n_
  have r5 : RefA w5 ⟨⟨aB, X.1.length, cB⟩, h.M, h.S, h.N⟩ { A with boxes := X.1 } := by
   obtain ⟨lx, hm, hs⟩ := r4
   have hs5 := hs.step v1 k5
   have sB5 := sB.step v1 k5
   exact ⟨lx, hm, fun u ku => ⟨sB5 u ku, (hs5 u ku).m, (hs5 u ku).x, (hs5 u ku).s, (hs5 u ku).n⟩⟩
  clear a1
  refine KGO ?_
  have hSy : Says (boxesA A X) { A with boxes := X.1 } 0 X.2 := by
   unfold boxesA
   by_cases hx : X.2 = 0
   ·rw [if_neg (by simp [hx]), hx]; exact ⟨rfl, rfl, rfl⟩
   ·rw [if_pos hx]; exact rfl
  refine SVK _ v3 fun wC vC kC => ?_
  have KC : Kp w wC n_ := zae K5 kC (by omega)
  have hat := vC.at
  refine KGO ?_
  refine GW ?_
  refine KGO ?_
  refine GW ?_
  exact ⟨_, _, 0, X.2, rfl, RefA.step r5 v3 kC, (⟨hcB, cp.M⟩ : Caps ⟨⟨aB, X.1.length, cB⟩, h.M, h.S, h.N⟩), hSy, KC⟩
 by_cases e5 : o.kind = 5
 ·have hone : oneA A o = addA A o := by unfold oneA; rw [e5]; rfl
  rw [hone]
  by_cases c8 : 1099511627776 ≤ A.nb
  ·skip
   refine KGO ?_
   refine SVK _ v3 fun wC vC kC => ?_
   have KC : Kp w wC n_ := zae K3 kC (by omega)
   have hat := vC.at
   refine KGO ?_
   refine GW ?_
   refine KGO ?_
   refine GW ?_
   exact ⟨_, _, 0, 3, rfl, RefA.step r3 v3 kC, cp, (zas (by unfold addA; rw [if_pos c8])), KC⟩
  refine KGO ?_
  refine CallS.of (Tryz.call46 _ _) (znH (w := w3) A.boxes o.up o.name o.role A.nb r3.read.b cp.B (by omega) hf.bs fo.nm) ?_
  rintro e w4 ⟨vB, rfl, oB, kB⟩
  obtain ⟨aB, cB, rfl⟩ := zab oB
  have hadd : ∀ A', A' = { A with boxes := (addL A.boxes o.up o.name o.role A.nb).1, nb := A.nb + 1 } → Says (addA A o) A' A.nb (addL A.boxes o.up o.name o.role A.nb).2 := fun A' hA' => by
   unfold addA
   rw [if_neg c8]
   by_cases hx : (addL A.boxes o.up o.name o.role A.nb).2 = 0
   ·rw [if_neg (by simp [hx]), hx]; exact ⟨rfl, hA', rfl⟩
   ·rw [if_pos hx]; exact rfl
  generalize addL A.boxes o.up o.name o.role A.nb = X at *
  have v1 := v1.keep0 kB
  have v3 := v3.keep0 kB
  have K4 := K3.trans0 kB
  have sB := zaB (E := 74) (c := boxCells) (s := 4) (l := X.1) oB (by decide) (by decide)
  have hcB := zbk (E := 74) (c := boxCells) (s := 4) (l := X.1) oB
  have r4 := r3.keep kB
  have a1 := v1.at
  clear a2 kr3
  refine RT ?_
  refine KGO ?_
  refine SCK 0 v1 fun w5 v5 k5 => ?_
  have v5 : VarK w5 b1 36 (accC ⟨⟨aB, X.1.length, cB⟩, h.M, h.S, h.N⟩ { A with boxes := X.1 }) := v5
  have v3 := v3.keep k5 (fun e => by have e : b3 = b1 := e; omega)
  have K5 : Kp w w5 n_ := zae K4 k5 (by omega)
  have a15 : At w5 b1 0 [.slice aB X.1.length cB, .slice h.M.a h.M.n h.M.c, .slice h.S.a h.S.n h.S.c, .string (str A.active), .slice h.N.a h.N.n h.N.c, .int .i64 A.nm, .int .i64 A.nb, .int .i64 A.st] := v5.at
  have kr5 := Kp.refl w5 n_
  clear a1
  refine KGO ?_
  refine SCK 6 v5 fun w6 v6 k6 => ?_
  have v6 : VarK w6 b1 36 (accC ⟨⟨aB, X.1.length, cB⟩, h.M, h.S, h.N⟩ { A with boxes := X.1, nb := A.nb + 1 }) := v6
  have v3 := v3.keep k6 (fun e => by have e : b3 = b1 := e; omega)
  have K6 : Kp w w6 n_ := zae K5 k6 (by omega)
  have r6 : RefA w6 ⟨⟨aB, X.1.length, cB⟩, h.M, h.S, h.N⟩ { A with boxes := X.1, nb := A.nb + 1 } := by
   obtain ⟨lx, hm, hs⟩ := r4
   have hs5 := (hs.step v1 k5).step v5 k6
   have sB5 := (sB.step v1 k5).step v5 k6
   exact ⟨lx, hm, fun u ku => ⟨sB5 u ku, (hs5 u ku).m, (hs5 u ku).x, (hs5 u ku).s, (hs5 u ku).n⟩⟩
  have hh1 : ∀ u, Kp w6 u (one_ b3) → At u b1 0 (accC ⟨⟨aB, X.1.length, cB⟩, h.M, h.S, h.N⟩ { A with boxes := X.1, nb := A.nb + 1 }) := fun u ku => (v6.keep ku (fun e => by have e : b1 = b3 := e; omega)).at
  clear a15 kr5
  refine KGO ?_
  refine Draw.held (fun u => Kp w6 u (one_ b3)) (fun _ => true) (by decide +kernel) (Kp.refl _ _).drew ?_
  refine GW ?_
  refine HeldG _ (by rfl) (by rfl) hh1 (by rfl) ?_
  refine GW ?_
  refine KGO ?_
  refine Held.one (v := .int .i64 (A.nb + 1)) (by rfl) (fun u ku => hh1 u ku 6 _ rfl) ?_
  refine GW ?_
  refine KGO ?_
  refine Store.varK (accC ⟨⟨aB, X.1.length, cB⟩, h.M, h.S, h.N⟩ { A with boxes := X.1, nb := A.nb + 1 }) (w := w6.drew) v3 (by rfl) rfl (zan (by rfl)) fun wC vC kC => ?_
  have kC' : Kp w6 wC (one_ b3) := (Kp.refl w6 (one_ b3)).drew.trans' kC
  have KC : Kp w wC n_ := zae K6 kC' (by omega)
  refine ⟨kC', ?_⟩
  have hat := vC.at
  refine KGO ?_
  refine GW ?_
  refine KGO ?_
  refine GW ?_
  exact ⟨_, _, A.nb, X.2, by rw [show A.nb + 1 - 1 = A.nb by omega], r6.step v3 kC', (⟨hcB, cp.M⟩ : Caps ⟨⟨aB, X.1.length, cB⟩, h.M, h.S, h.N⟩), hadd _ rfl, KC⟩
 have hone : oneA A o = .error 1 := by
  unfold oneA
  rw [if_neg e1, if_neg e2, if_neg e3, if_neg e4, if_neg e5, if_neg e6, if_neg e7, if_neg e8, if_neg e9, if_neg e10, if_neg e11, if_neg e12]
 rw [hone]
 refine KGO ?_
 refine SVK _ v3 fun wC vC kC => ?_
 have KC : Kp w wC n_ := zae K3 kC (by omega)
 have hat := vC.at
 refine KGO ?_
 refine GW ?_
 refine KGO ?_
 refine GW ?_
 exact ⟨_, _, 0, 1, rfl, RefA.step r3 v3 kC, cp, (zas rfl), KC⟩
end
theorem zkO : CapOk (.slice none 0 0) := fun a n cp e => by
 injection e with e1 e2 e3
 subst e1; subst e2; subst e3
 exact ⟨Nat.le_refl _, fun _ => rfl⟩
section
variable {w : World}
theorem zjg {h : Hd} {A : Acc} {v : Ov} {o : Opr} (r : RefA w h A) (cp : Caps h) (hf : Fit A) (g : GoodP A) (ho : OpR w v o) (fo : FitO o) :
  Calls Tryz.prog 19 #[.agg (accC h A).toArray, .agg (opC v o).toArray] w fun e w' => ∃ h', e = .returned (.tuple #[.agg (accC h' (applyA A o).1).toArray, .int .i64 (applyA A o).2.1, .int .i64 ((applyA A o).2.2 : Nat)]) ∧ RefA w' h' (applyA A o).1 ∧ Caps h' ∧ Kp w w' n_ := by
 have hst := g.st
 have hto := g.top
 unfold M40 at hto
 refine zaa (args := [.agg (accC h A).toArray, .agg (opC v o).toArray]) Tryz.func19 rfl NL ?_; refine GW ?_
 obtain ⟨a_b1, v_b1, k_w1, z_w1, r_w1⟩ := new5 w 36 (accC h A)
 generalize w.alloc (.cells (List.toArray (accC h A)) 36) = w1 at *
 generalize hs_b1 : w.heap.size = b1 at *
 obtain ⟨a_b2, v_b2, k_w2, z_w2, r_w2⟩ := new5 w1 28 (opC v o)
 generalize w1.alloc (.cells (List.toArray (opC v o)) 28) = w2 at *
 generalize hs_b2 : w1.heap.size = b2 at *
 obtain ⟨a_b3, v_b3, k_w3, z_w3, r_w3⟩ := new5 w2 36 (zAcc')
 generalize w2.alloc (.cells (List.toArray (zAcc')) 36) = w3 at *
 generalize hs_b3 : w2.heap.size = b3 at *
 have K3 := (k_w1.trans0 k_w2).trans0 k_w3
 have a1 := zac a_b1 (k_w2.trans0 k_w3)
 have a2 := zac a_b2 k_w3
 have kr3 := Kp.refl w3 n_
 refine KGO ?_
 have v4 := VarK.new w3 36 (accC h A)
 refine Store.fresh (vs := accC h A) (by rfl) rfl (zan (by rfl)) ?_
 obtain ⟨a_b4, k_w4, z_w4⟩ := new3 w3 36 (accC h A)
 generalize w3.alloc (.cells (List.toArray (accC h A)) 36) = w4 at *
 generalize hs_b4 : w3.heap.size = b4 at *
 have v3 := v_b3.keep0 k_w4
 have K4 := K3.trans0 k_w4
 have a1 := zac a1 k_w4
 have a2 := zac a2 k_w4
 have kr4 := Kp.refl w4 n_
 refine KGO ?_
 refine SCK 7 v4 fun w5 v5 k5 => ?_
 have v5 : VarK w5 b4 36 (accC h (nextA A)) := v5
 have v1 : VarK w5 b1 36 (accC h A) := (v_b1.keep0 ((k_w2.trans0 k_w3).trans0 k_w4)).keep k5 (fun e => by have e : b1 = b4 := e; omega)
 have v2 : VarK w5 b2 28 (opC v o) := (v_b2.keep0 (k_w3.trans0 k_w4)).keep k5 (fun e => by have e : b2 = b4 := e; omega)
 have v3 := v3.keep k5 (fun e => by have e : b3 = b4 := e; omega)
 have K5 : Kp w w5 n_ := zae K4 k5 (by omega)
 have r5 : RefA w5 h A := (r.keep K4).step v4 k5
 have n5 : RefA w5 h (nextA A) := by
  obtain ⟨lx, hm, hs⟩ := r5
  exact ⟨lx, hm, fun u ku => ⟨(hs u ku).b, (hs u ku).m, (hs u ku).x, (hs u ku).s, (hs u ku).n⟩⟩
 have o5 := ho.keep K5
 clear a1 a2 a_b1 a_b2 a_b3 a_b4 kr3 kr4
 have a1 := v1.at
 have a2 := v2.at
 have a4 := v5.at
 have kr5 := Kp.refl w5 n_
 refine KGO ?_
 refine CallS.of (Tryz.call47 _ _) (zpm (w := w5) n5 cp (hf.next hto) (zhf g) o5 fo) ?_
 rintro e w6 ⟨h', A', n, c, rfl, rB, cB, hS, kB⟩
 have v1 := v1.keep0 kB
 have v3 := v3.keep0 kB
 have K6 := K5.trans0 kB
 have r6 := r5.keep kB
 clear a1 a2 a4 kr5
 refine RT ?_
 refine KGO ?_
 refine Store.fresh (vs := accC h' A') (by rfl) rfl (zan (by rfl)) ?_
 obtain ⟨a_b7, k_w7, z_w7⟩ := new3 w6 36 (accC h' A')
 generalize w6.alloc (.cells (List.toArray (accC h' A')) 36) = w7 at *
 generalize hs_b7 : w6.heap.size = b7 at *
 have v1 := v1.keep0 k_w7
 have v3 := v3.keep0 k_w7
 have K7 := K6.trans0 k_w7
 have r7 := r6.keep k_w7
 have rB := rB.keep k_w7
 have a1 := v1.at
 have kr7 := Kp.refl w7 n_
 cases hone : oneA (nextA A) o with
 | error c' =>
  rw [hone] at hS
  have hS : c = c' := hS
  subst hS
  have hc0 : c ≠ 0 := zlV hone
  have hres : applyA A o = (A, 0, c) := by unfold applyA; rw [hone]
  refine KGO ?_
  refine SVK _ v3 fun wC vC kC => ?_
  have KC : Kp w wC n_ := zae K7 kC (by omega)
  have hat := vC.at
  refine KGO ?_
  refine GW ?_
  refine KGO ?_
  refine GW ?_
  rw [hres]
  exact ⟨_, rfl, RefA.step r7 v3 kC, cp, KC⟩
 | ok q =>
  obtain ⟨A2, n2⟩ := q
  rw [hone] at hS
  obtain ⟨rfl, rfl, rfl⟩ := hS
  dsimp only at *
  by_cases h2 : 1099511627776 < A'.st
  ·have hres : applyA A o = (A, 0, 3) := by unfold applyA; rw [hone]; exact if_pos h2
   refine KGO ?_
   refine SVK _ v3 fun wC vC kC => ?_
   have KC : Kp w wC n_ := zae K7 kC (by omega)
   have hat := vC.at
   refine KGO ?_
   refine GW ?_
   refine KGO ?_
   refine GW ?_
   rw [hres]
   exact ⟨_, rfl, RefA.step r7 v3 kC, cp, KC⟩
  ·have hres : applyA A o = (A', n, 0) := by unfold applyA; rw [hone]; exact if_neg h2
   refine KGO ?_
   refine SVK _ v3 fun wC vC kC => ?_
   have KC : Kp w wC n_ := zae K7 kC (by omega)
   have hat := vC.at
   refine KGO ?_
   refine GW ?_
   refine KGO ?_
   refine GW ?_
   rw [hres]
   exact ⟨_, rfl, RefA.step rB v3 kC, cB, KC⟩
theorem zpE : Calls Tryz.prog 18 #[] w fun e w' => ∃ h', e = .returned (.agg (accC h' newA).toArray) ∧ RefA w' h' newA ∧ Caps h' ∧ Kp w w' n_ := by
 refine zaa (args := []) Tryz.func18 rfl NL ?_; refine GW ?_
 obtain ⟨a_b1, v_b1, k_w1, z_w1, r_w1⟩ := new5 w 36 (zAcc')
 generalize w.alloc (.cells (List.toArray (zAcc')) 36) = w1 at *
 generalize hs_b1 : w.heap.size = b1 at *
 refine KGO ?_
 refine CallS.of (Tryz.call46 _ _) (znH (w := w1) [] 0 inboxN inB 1 (zaW _) zkO (by simp) (by intro b hb; simp at hb) (by decide)) ?_
 rintro e w2 ⟨v2, rfl, o2, k2⟩
 obtain ⟨a2, c2, rfl⟩ := zab o2
 have K2 := k_w1.trans0 k2
 have vr := v_b1.keep0 k2
 refine RT ?_
 refine KGO ?_
 refine RunV.of (zfM ⟨a2, _, c2⟩ _) ?_
 refine KGO ?_
 have sB := zaB (E := 74) (c := boxCells) (s := 4) o2 (by decide) (by decide)
 have hcB := zbk (E := 74) (c := boxCells) (s := 4) o2
 refine SVK (accC ⟨⟨a2, (addL [] 0 inboxN inB 1).1.length, c2⟩, ⟨none, 0, 0⟩, ⟨none, 0, 0⟩, ⟨none, 0, 0⟩⟩ newA) vr fun w3 v3 k3 => ?_
 have hat := v3.at
 refine KGO ?_
 refine GW ?_
 refine KGO ?_
 refine GW ?_
 refine ⟨_, rfl, ⟨[], rfl, fun u ku => ⟨sB.step vr k3 u ku, zaW _, fun y hy => by simp at hy, zaW _, zaW _⟩⟩, ⟨hcB, zkO⟩, zae K2 k3 (by omega)⟩
end
section
variable {w : World}
theorem zov {h h' : Hd} {A : Acc} (hr : AccR w h A) (hr' : AccR w h' A) (f : Fit A) :
  Calls Tryz.prog 20 #[.agg (accC h A).toArray, .agg (accC h' A).toArray] w fun e w' => e = .returned (.bool true) ∧ Kp w w' n_ := by
 obtain ⟨lx, hlx, hmx, hox⟩ := hr.m
 obtain ⟨ly, hly, hmy, hoy⟩ := hr'.m
 have hll : lx.length = A.mails.length := by rw [← hlx, List.length_map]
 have hly2 : ly.length = A.mails.length := by rw [← hly, List.length_map]
 obtain ⟨hbx, -, hsx, hnx⟩ := hr
 obtain ⟨hby, -, hsy, hny⟩ := hr'
 have f1 := f.bl; have f2 := f.ml; have f3 := f.sl; have f4 := f.nl
 have fm := f.mb
 obtain ⟨⟨aB, nB, cB⟩, ⟨aM, nM, cM⟩, ⟨aS, nS, cS⟩, ⟨aN, nN, cN⟩⟩ := h
 obtain ⟨⟨aB', nB', cB'⟩, ⟨aM', nM', cM'⟩, ⟨aS', nS', cS'⟩, ⟨aN', nN', cN'⟩⟩ := h'
 obtain ⟨_, _, e, hBx⟩ := hbx
 injection e with e1 e2 e3; subst e1; subst e2; subst e3
 obtain ⟨_, _, e, hBy⟩ := hby
 injection e with e1 e2 e3; subst e1; subst e2; subst e3
 obtain ⟨_, _, e, hSx⟩ := hsx
 injection e with e1 e2 e3; subst e1; subst e2; subst e3
 obtain ⟨_, _, e, hSy⟩ := hsy
 injection e with e1 e2 e3; subst e1; subst e2; subst e3
 obtain ⟨_, _, e, hNx⟩ := hnx
 injection e with e1 e2 e3; subst e1; subst e2; subst e3
 obtain ⟨_, _, e, hNy⟩ := hny
 injection e with e1 e2 e3; subst e1; subst e2; subst e3
 obtain ⟨_, _, e, hMx⟩ := hmx
 injection e with e1 e2 e3; subst e1; subst e2; subst e3
 obtain ⟨_, _, e, hMy⟩ := hmy
 injection e with e1 e2 e3; subst e1; subst e2; subst e3
 have hxy : ly.length = lx.length := by omega
 refine zaa (args := [.agg (accC ⟨⟨aB, A.boxes.length, cB⟩, ⟨aM, lx.length, cM⟩, ⟨aS, A.scripts.length, cS⟩, ⟨aN, A.seen.length, cN⟩⟩ A).toArray, .agg (accC ⟨⟨aB', A.boxes.length, cB'⟩, ⟨aM', ly.length, cM'⟩, ⟨aS', A.scripts.length, cS'⟩, ⟨aN', A.seen.length, cN'⟩⟩ A).toArray]) Tryz.func20 rfl NL ?_; refine GW ?_
 obtain ⟨a_b1, v_b1, k_w1, z_w1, r_w1⟩ := new5 w 36 (accC ⟨⟨aB, A.boxes.length, cB⟩, ⟨aM, lx.length, cM⟩, ⟨aS, A.scripts.length, cS⟩, ⟨aN, A.seen.length, cN⟩⟩ A)
 generalize w.alloc (.cells (List.toArray (accC ⟨⟨aB, A.boxes.length, cB⟩, ⟨aM, lx.length, cM⟩, ⟨aS, A.scripts.length, cS⟩, ⟨aN, A.seen.length, cN⟩⟩ A)) 36) = w1 at *
 generalize hs_b1 : w.heap.size = b1 at *
 obtain ⟨a_b2, v_b2, k_w2, z_w2, r_w2⟩ := new5 w1 36 (accC ⟨⟨aB', A.boxes.length, cB'⟩, ⟨aM', ly.length, cM'⟩, ⟨aS', A.scripts.length, cS'⟩, ⟨aN', A.seen.length, cN'⟩⟩ A)
 generalize w1.alloc (.cells (List.toArray (accC ⟨⟨aB', A.boxes.length, cB'⟩, ⟨aM', ly.length, cM'⟩, ⟨aS', A.scripts.length, cS'⟩, ⟨aN', A.seen.length, cN'⟩⟩ A)) 36) = w2 at *
 generalize hs_b2 : w1.heap.size = b2 at *
 have K2 : Kp w w2 n_ := k_w1.trans0 k_w2
 have a1 : At w2 b1 0 [.slice aB A.boxes.length cB, .slice aM lx.length cM, .slice aS A.scripts.length cS, .string (str A.active), .slice aN A.seen.length cN, .int .i64 A.nm, .int .i64 A.nb, .int .i64 A.st] := zac a_b1 k_w2
 have a2 : At w2 b2 0 [.slice aB' A.boxes.length cB', .slice aM' ly.length cM', .slice aS' A.scripts.length cS', .string (str A.active), .slice aN' A.seen.length cN', .int .i64 A.nm, .int .i64 A.nb, .int .i64 A.st] := a_b2
 clear a_b1 a_b2
 have kr2 := Kp.refl w2 n_
 refine KGO ?_
 refine Loop.intro (ι := Nat) (fun i => [(2, .pointer (some ⟨b1, 0, none⟩)), (3, .pointer (some ⟨b2, 0, none⟩)), (5, .int .i64 (i : Nat))])
  (fun i wr => Kp w2 wr n_ ∧ i ≤ A.boxes.length) (fun i => A.boxes.length - i) 0 ⟨rfl, rfl, rfl, trivial⟩ ⟨Kp.refl _ _, Nat.zero_le _⟩ ?_
 rintro i1 g1 y1 ⟨k1, hi1⟩
 have a11 := zac a1 k1
 have a21 := zac a2 k1
 have kr1 := Kp.refl y1 n_
 refine GW ?_
 by_cases hl1 : i1 < A.boxes.length
 ·obtain ⟨ga, oa, e1, hga, hata⟩ := hBx (by omega)
  obtain ⟨gb, ob, e2, hgb, hatb⟩ := hBy (by omega)
  subst e1; subst e2
  have hata := zac hata (K2.trans0 k1)
  have hatb := zac hatb (K2.trans0 k1)
  refine KGO ?_
  refine zlH A.boxes[i1] A.boxes[i1] _ _ ?_
  rw [decide_eq_true (rfl : A.boxes[i1] = A.boxes[i1])]
  refine KGO ?_
  exact ⟨i1 + 1, ⟨rfl, rfl, v_int (by simp), trivial⟩, ⟨k1.drew, by omega⟩, by dsimp only; omega⟩
 refine KGO ?_
 refine Loop.intro (ι := Nat) (fun i => [(2, .pointer (some ⟨b1, 0, none⟩)), (3, .pointer (some ⟨b2, 0, none⟩)), (6, .int .i64 (i : Nat))])
  (fun i wr => Kp w2 wr n_ ∧ i ≤ lx.length) (fun i => lx.length - i) 0 ⟨rfl, rfl, rfl, trivial⟩ ⟨k1, Nat.zero_le _⟩ ?_
 rintro i2 g2 y2 ⟨k2, hi2⟩
 have a12 := zac a1 k2
 have a22 := zac a2 k2
 have kr2' : Kp y2 y2 n_ := Kp.refl _ _
 refine GW ?_
 by_cases hl2 : i2 < lx.length
 ·have hl2' : i2 < ly.length := by omega
  have hmm : lx[i2].m = ly[i2].m := by
   have h1 : (lx.map (·.m))[i2]? = (ly.map (·.m))[i2]? := by rw [hlx, hly]
   rw [List.getElem?_map, List.getElem?_map, List.getElem?_eq_getElem hl2, List.getElem?_eq_getElem hl2'] at h1
   injection h1
  have hz1 := fm lx[i2].m (by rw [← hlx]; exact List.mem_map_of_mem (List.getElem_mem hl2))
  have hz2 := fm ly[i2].m (by rw [← hly]; exact List.mem_map_of_mem (List.getElem_mem hl2'))
  obtain ⟨ga, oa, e1, hga, hata⟩ := hMx (by omega)
  obtain ⟨gb, ob, e2, hgb, hatb⟩ := hMy (by omega)
  subst e1; subst e2
  have hata := zac hata (K2.trans0 k2)
  have hatb := zac hatb (K2.trans0 k2)
  refine KGO ?_
  refine CallS.of (Tryz.call12 _ _) (zdb (w := y2.drew) lx[i2] ly[i2] ((hox _ (List.getElem_mem hl2)).keep (K2.trans0 k2.drew)) ((hoy _ (List.getElem_mem hl2')).keep (K2.trans0 k2.drew)) (by omega) (by omega) (by omega) (by omega)) ?_
  rintro e w4 ⟨rfl, k4⟩
  rw [decide_eq_true hmm]
  refine RT ?_
  refine KGO ?_
  exact ⟨i2 + 1, ⟨rfl, rfl, v_int (by simp), trivial⟩, ⟨k2.drew.trans0 k4, by omega⟩, by dsimp only; omega⟩
 refine KGO ?_
 refine Loop.intro (ι := Nat) (fun i => [(2, .pointer (some ⟨b1, 0, none⟩)), (3, .pointer (some ⟨b2, 0, none⟩)), (8, .int .i64 (i : Nat))])
  (fun i wr => Kp w2 wr n_ ∧ i ≤ A.scripts.length) (fun i => A.scripts.length - i) 0 ⟨rfl, rfl, rfl, trivial⟩ ⟨k2, Nat.zero_le _⟩ ?_
 rintro i3 g3 y3 ⟨k3, hi3⟩
 have a13 := zac a1 k3
 have a23 := zac a2 k3
 have kr3 := Kp.refl y3 n_
 refine GW ?_
 by_cases hl3 : i3 < A.scripts.length
 ·obtain ⟨ga, oa, e1, hga, hata⟩ := hSx (by omega)
  obtain ⟨gb, ob, e2, hgb, hatb⟩ := hSy (by omega)
  subst e1; subst e2
  have hata := zac hata (K2.trans0 k3)
  have hatb := zac hatb (K2.trans0 k3)
  refine KGO ?_
  refine neqSrc A.scripts[i3] A.scripts[i3] _ _ ?_
  rw [decide_eq_true (rfl : A.scripts[i3] = A.scripts[i3])]
  refine KGO ?_
  exact ⟨i3 + 1, ⟨rfl, rfl, v_int (by simp), trivial⟩, ⟨k3.drew, by omega⟩, by dsimp only; omega⟩
 refine KGO ?_
 refine Loop.intro (ι := Nat) (fun i => [(2, .pointer (some ⟨b1, 0, none⟩)), (3, .pointer (some ⟨b2, 0, none⟩)), (9, .int .i64 (i : Nat))])
  (fun i wr => Kp w2 wr n_ ∧ i ≤ A.seen.length) (fun i => A.seen.length - i) 0 ⟨rfl, rfl, rfl, trivial⟩ ⟨k3, Nat.zero_le _⟩ ?_
 rintro i4 g4 y4 ⟨k4, hi4⟩
 have a14 := zac a1 k4
 have a24 := zac a2 k4
 have kr4 := Kp.refl y4 n_
 refine GW ?_
 by_cases hl4 : i4 < A.seen.length
 ·obtain ⟨ga, oa, e1, hga, hata⟩ := hNx (by omega)
  obtain ⟨gb, ob, e2, hgb, hatb⟩ := hNy (by omega)
  subst e1; subst e2
  have hata := zac hata (K2.trans0 k4)
  have hatb := zac hatb (K2.trans0 k4)
  refine KGO ?_
  refine neqSn A.seen[i4] A.seen[i4] _ _ ?_
  rw [decide_eq_true (rfl : A.seen[i4] = A.seen[i4])]
  refine KGO ?_
  exact ⟨i4 + 1, ⟨rfl, rfl, v_int (by simp), trivial⟩, ⟨k4.drew, by omega⟩, by dsimp only; omega⟩
 refine KGO ?_
 exact ⟨rfl, K2.trans0 k4⟩
end
end Go.Proofs.YtohhkegmbgancaaGreatDoor
