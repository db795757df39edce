/- Helper text of this claim: lemmas and contracts that the proved statement rests on; no conditions of its own. -/
import Derived.Test.YtohhkegmbgancaaGreatDoorAtA
namespace Go.Proofs.YtohhkegmbgancaaGreatDoor
set_option maxHeartbeats 8000000
open Go.Shelf Go.RowKit Go.Pw Go.Vc Go.Cs Go.Lib
set_option linter.unusedVariables false
set_option maxRecDepth 100000
section
variable {w : World}
theorem zhF {st b : Int} {m : Ml} (h : m.boxes.Nodup) (hb : b ∈ m.boxes) : outOf st b m = { m with boxes := m.boxes.filter fun x => !decide (x = b), mod := st } := by
 unfold outOf
 rw [if_pos hb, h.erase_eq_filter]
 congr 1
theorem zdp {B B' s s' n n' e e' : Nat} {v v' : Value} {xs xs' : List Value} (h1 : w.ownsRow B e s v n xs) (h2 : w.ownsRow B' e' s' v' n' xs') (hne : e ≠ e') (q : Nat) (a : v.ownBlock = some q) (b : v'.ownBlock = some q) : False := by
 rcases own_blockK h2 with ⟨rfl, _⟩ | ⟨g, cap, cells, rfl, _, hv, _⟩
 ·cases b
 ·have hb : g = q := by injection b
  exact zau h1 hv hne q a hb.symm
structure DrI where
 i : Nat
 ly : List Mr
 s : Sl
theorem zoW {h : Hd} {A : Acc} {v : Ov} {o : Opr} (r : RefA w h A) (cp : Caps h) (hf : Fit A) (gA : GoodQ A) :
  Calls Tryz.prog 114 #[.agg (accC h A).toArray, .agg (opC v o).toArray] w (Ends2 w (dropA A o)) := by
 have hml := hf.ml
 have hmb := hf.mb
 have fbl := hf.bl
 refine zaa (args := [.agg (accC h A).toArray, .agg (opC v o).toArray]) Tryz.func114 rfl NL ?_; refine GW ?_
 obtain ⟨a_b1, v_b1, k_w1, z_w1, r_w1⟩ := new5 w 36 (accC h A)
 generalize w.alloc (.cells (List.toArray (accC h A)) 36) = w1 at *
 generalize hs_b1 : w.heap.size = b1 at *
 obtain ⟨a_b2, v_b2, k_w2, z_w2, r_w2⟩ := new5 w1 28 (opC v o)
 generalize w1.alloc (.cells (List.toArray (opC v o)) 28) = w2 at *
 generalize hs_b2 : w1.heap.size = b2 at *
 obtain ⟨a_b3, v_b3, k_w3, z_w3, r_w3⟩ := new5 w2 36 (zAcc')
 generalize w2.alloc (.cells (List.toArray (zAcc')) 36) = w3 at *
 generalize hs_b3 : w2.heap.size = b3 at *
 have K3 := (k_w1.trans0 k_w2).trans0 k_w3
 have v1 := v_b1.keep0 (k_w2.trans0 k_w3)
 have v2 := v_b2.keep0 k_w3
 have v3 := v_b3
 obtain ⟨lx, hm, hs⟩ := r
 have hlx : lx.length = A.mails.length := by rw [← hm, List.length_map]
 have a1 := v1.at
 have a2 := v2.at
 have kr3 := Kp.refl w3 n_
 clear a_b1 a_b2 a_b3
 refine KGO ?_
 refine CallS.of (Tryz.call170 _ _) (zoT (w := w3) A.boxes o.box (hs.keep K3).now.b cp.B (by omega) hf.bs) ?_
 rintro e w4 ⟨vB, rfl, oB, k4⟩
 obtain ⟨aB, cB, rfl⟩ := zab oB
 have K4 := K3.trans0 k4
 have v1 := v1.keep0 k4
 have v2 := v2.keep0 k4
 have v3 := v3.keep0 k4
 have hcpB := zbk (E := 74) (c := boxCells) (s := 4) (l := (dropL A.boxes o.box).1) oB
 refine RT ?_
 by_cases c1 : (dropL A.boxes o.box).2 = 0
 rotate_left
 ·clear a1
  have a1 := v1.at
  have hc1 : ((dropL A.boxes o.box).2 : Int) ≠ 0 := by omega
  have kr4 := Kp.refl w4 n_
  refine KGO ?_
  refine SVK (accC h A) v3 fun w8 v8 k8 => ?_
  have K8' : Kp w w8 n_ := zae K4 k8 (by omega)
  have hat := v8.at
  refine KGO ?_
  refine GW ?_
  refine KGO ?_
  refine GW ?_
  exact ⟨h, A, (dropL A.boxes o.box).2, rfl, RefA.keep ⟨lx, hm, hs⟩ K8', cp, zas (by unfold dropA; rw [if_pos c1]), K8'⟩
 rw [c1]
 obtain ⟨ma, mc, he, hrr⟩ := hs.now.m
 obtain ⟨ba, bc, hbe, hbr⟩ := hs.now.b
 injection he with e1 e2 e3
 injection hbe with e4 e5 e6
 have hcl : accC h A = [.slice ba A.boxes.length bc, .slice ma lx.length mc, .slice h.S.a h.S.n h.S.c, .string (str A.active), .slice h.N.a h.N.n h.N.c, .int .i64 A.nm, .int .i64 A.nb, .int .i64 A.st] := by
  unfold accC
  rw [e1, e2, e3, e4, e5, e6]
 clear a1 a2 kr3
 have a1 : At w4 b1 0 [.slice ba A.boxes.length bc, .slice ma lx.length mc, .slice h.S.a h.S.n h.S.c, .string (str A.active), .slice h.N.a h.N.n h.N.c, .int .i64 A.nm, .int .i64 A.nb, .int .i64 A.st] := hcl ▸ v1.at
 have a2 := v2.at
 have kr4 := Kp.refl w4 n_
 refine KGO ?_
 refine Loop.intro (ι := Nat) (fun i => [(2, .pointer (some ⟨b1, 0, none⟩)), (3, .pointer (some ⟨b2, 0, none⟩)), (4, .pointer (some ⟨b3, 0, none⟩)), (6, .slice aB (dropL A.boxes o.box).1.length cB), (8, .int .i64 (i : Nat))])
  (fun i wr => Kp w4 wr n_ ∧ i ≤ A.boxes.length ∧ ∀ b ∈ A.boxes.take i, ¬ (b.id = o.box ∧ b.role = inB)) (fun i => A.boxes.length - i) 0 ⟨rfl, rfl, rfl, rfl, rfl, trivial⟩ ⟨kr4, Nat.zero_le _, fun b hb => by simp at hb⟩ ?_
 rintro i gg w5 ⟨k5, hi, hno⟩
 clear kr4
 have a15 := zac a1 k5
 have a25 := zac a2 k5
 have kr5 := Kp.refl w5 n_
 have kd5 : Kp w5 w5.drew n_ := kr5.drew
 refine GW ?_
 refine KGO ?_
 by_cases hlt : i < A.boxes.length
 ·obtain ⟨gb, ob, rfl, hgb, hatb⟩ := hbr (by omega)
  have hatb := zac hatb (K4.trans0 k5)
  have hstep : ¬ (A.boxes[i].id = o.box ∧ A.boxes[i].role = inB) → ∀ b ∈ A.boxes.take (i + 1), ¬ (b.id = o.box ∧ b.role = inB) := fun hq b hb => by
   rw [List.take_succ_eq_append_getElem hlt, List.mem_append, List.mem_singleton] at hb
   rcases hb with hb | rfl
   ·exact hno b hb
   ·exact hq
  by_cases h1 : A.boxes[i].id = o.box
  ·by_cases h2 : A.boxes[i].role = inB
   ·have h2' : str A.boxes[i].role = (⟨#[105, 110, 98, 111, 120]⟩ : ByteArray) := by rw [h2]; rfl
    have hany : (A.boxes.any fun b => decide (b.id = o.box ∧ b.role = inB)) = true := List.any_eq_true.2 ⟨_, List.getElem_mem hlt, decide_eq_true ⟨h1, h2⟩⟩
    have v1 := v1.keep0 k5
    have v3 := v3.keep0 k5
    have K5' := K4.trans0 k5.drew
    have v3 : VarK w5.drew b3 36 zAcc' := v3
    clear hstep hno
    refine KGO ?_
    rw [← hcl]
    refine SVK (accC h A) v3 fun w8 v8 k8 => ?_
    have K8' : Kp w w8 n_ := zae K5' k8 (by omega)
    have hat := v8.at
    refine KGO ?_
    refine GW ?_
    refine KGO ?_
    refine GW ?_
    exact ⟨h, A, 20, rfl, RefA.keep ⟨lx, hm, hs⟩ K8', cp, zas (by unfold dropA; rw [if_neg (by rw [c1]; simp), if_pos hany]), K8'⟩
   ·have h2' : ¬ str A.boxes[i].role = (⟨#[105, 110, 98, 111, 120]⟩ : ByteArray) := fun q => h2 (by have := congrArg L q; rw [L_str] at this; exact this)
    refine KGO ?_
    exact ⟨i + 1, ⟨rfl, rfl, rfl, rfl, v_int (by simp), trivial⟩, ⟨by first | exact k5 | exact k5.drew, by omega, hstep fun q => h2 q.2⟩, by dsimp only; omega⟩
  ·refine KGO ?_
   exact ⟨i + 1, ⟨rfl, rfl, rfl, rfl, v_int (by simp), trivial⟩, ⟨by first | exact k5 | exact k5.drew, by omega, hstep fun q => h1 q.1⟩, by dsimp only; omega⟩
 have hany : ¬ (A.boxes.any fun b => decide (b.id = o.box ∧ b.role = inB)) = true := fun q => by
  rw [List.any_eq_true] at q
  obtain ⟨b, hb, hq⟩ := q
  rw [List.take_of_length_le (by omega)] at hno
  exact hno b hb (of_decide_eq_true hq)
 clear hno hbr
 have v1 := v1.keep0 k5
 have v2 := v2.keep0 k5
 have v3 := v3.keep0 k5
 have K5 := K4.trans0 k5
 have oB := zaf oB k5
 have hat0 : At w5 b2 0 (opC v o) := a25
 clear a1 a2
 have hasc : ∀ m ∈ A.mails, m.boxes.Nodup := fun m hm' => zeA (gA.fit m hm').asc
 refine KGO ?_
 refine Loop.intro (ι := Nat) (fun i => [(2, .pointer (some ⟨b1, 0, none⟩)), (3, .pointer (some ⟨b2, 0, none⟩)), (4, .pointer (some ⟨b3, 0, none⟩)), (6, .slice aB (dropL A.boxes o.box).1.length cB), (9, .int .i64 (i : Nat))])
  (fun i wr => Kp w5 wr n_ ∧ i ≤ lx.length ∧ ∀ y ∈ lx.take i, y.m.boxes ≠ [o.box]) (fun i => lx.length - i) 0 ⟨rfl, rfl, rfl, rfl, rfl, trivial⟩ ⟨kr5, Nat.zero_le _, fun b hb => by simp at hb⟩ ?_
 clear kr5 kd5
 rintro j g6 w6 ⟨k6, hj, hno⟩
 have a16 := zac a15 k6
 have a26 := zac a25 k6
 have kr6 := Kp.refl w6 n_
 have kd6 : Kp w6 w6.drew n_ := kr6.drew
 refine GW ?_
 refine KGO ?_
 by_cases hjt : j < lx.length
 ·obtain ⟨gb, ob, rfl, hgb, hatb⟩ := hrr (by omega)
  have hatb := zac hatb (K5.trans0 k6)
  have hxo := (hs.now.x _ (List.getElem_mem hjt)).keep (K5.trans0 k6)
  have hstep : lx[j].m.boxes ≠ [o.box] → ∀ y ∈ lx.take (j + 1), y.m.boxes ≠ [o.box] := fun hq b hb => by
   rw [List.take_succ_eq_append_getElem hjt, List.mem_append, List.mem_singleton] at hb
   rcases hb with hb | rfl
   ·exact hno b hb
   ·exact hq
  have hbn : lx[j].b.n = lx[j].m.boxes.length := RowO.len hxo.b
  have hrow := zgc hxo.b
  by_cases h1 : lx[j].b.n = 1
  ·obtain ⟨gx, ox, hxa, hatx⟩ := hrow (by omega)
   have hl1 : 0 < lx[j].m.boxes.length := by omega
   have hcx := zbS hatx hl1
   obtain ⟨z, hz⟩ := List.length_eq_one_iff.1 (show lx[j].m.boxes.length = 1 by omega)
   have hz0 : lx[j].m.boxes[0] = z := by simp [hz]
   rw [hz0] at hcx
   by_cases h2 : z = o.box
   ·have hany2 : (A.mails.any fun m => decide (m.boxes = [o.box])) = true := List.any_eq_true.2 ⟨lx[j].m, by rw [← hm]; exact List.mem_map_of_mem (List.getElem_mem hjt), decide_eq_true (by rw [hz, h2])⟩
    have K6' := K5.trans0 k6.drew
    have v3 : VarK w6.drew b3 36 zAcc' := v3.keep0 k6.drew
    clear hstep hno
    refine KGO ?_
    rw [hxa]
    refine GW ?_
    refine KGO ?_
    rw [← hcl]
    refine SVK (accC h A) v3 fun w8 v8 k8 => ?_
    have K8' : Kp w w8 n_ := zae K6' k8 (by omega)
    have hat := v8.at
    refine KGO ?_
    refine GW ?_
    refine KGO ?_
    refine GW ?_
    exact ⟨h, A, 20, rfl, RefA.keep ⟨lx, hm, hs⟩ K8', cp, zas (by unfold dropA; rw [if_neg (by rw [c1]; simp), if_neg hany, if_pos hany2]), K8'⟩
   ·refine KGO ?_
    rw [hxa]
    refine GW ?_
    refine KGO ?_
    exact ⟨j + 1, ⟨rfl, rfl, rfl, rfl, v_int (by simp), trivial⟩, ⟨by first | exact k6 | exact k6.drew, by omega, hstep fun q => h2 (by rw [hz] at q; injection q)⟩, by dsimp only; omega⟩
  ·refine KGO ?_
   exact ⟨j + 1, ⟨rfl, rfl, rfl, rfl, v_int (by simp), trivial⟩, ⟨by first | exact k6 | exact k6.drew, by omega, hstep fun q => h1 (by rw [hbn, q]; rfl)⟩, by dsimp only; omega⟩
 have hany2 : ¬ (A.mails.any fun m => decide (m.boxes = [o.box])) = true := fun q => by
  rw [List.any_eq_true] at q
  obtain ⟨m, hb, hq⟩ := q
  rw [List.take_of_length_le (by omega)] at hno
  rw [← hm] at hb
  obtain ⟨y, hy, rfl⟩ := List.mem_map.1 hb
  exact hno y hy (of_decide_eq_true hq)
 have hres : dropA A o = .ok ({ A with boxes := (dropL A.boxes o.box).1, mails := A.mails.map (outOf A.st o.box) }, 0) := by
  unfold dropA
  rw [if_neg (by rw [c1]; simp), if_neg hany, if_neg hany2]
 have hbase : w4.heap.size ≤ w6.heap.size := (k5.trans0 k6).size
 have hb1 : b1 < w6.heap.size := by have := (k_w2.trans0 k_w3).size; have := k4.size; omega
 have hb2 : b2 < w6.heap.size := by have := k_w3.size; have := k4.size; omega
 have hb3 : b3 < w6.heap.size := by have := k4.size; omega
 have v1 := v1.keep0 k6
 have v2 := v2.keep0 k6
 have v3 := v3.keep0 k6
 have K6 := K5.trans0 k6
 have oB := zaf oB k6
 clear hno hany hany2
 refine KGO ?_
 refine SCK 1 v1 fun w7 v17 k7 => ?_
 have v17 : VarK w7 b1 36 (accC ⟨h.B, ⟨none, 0, 0⟩, h.S, h.N⟩ A) := v17
 have v2 := v2.keep k7 (fun e => by have e : b2 = b1 := e; omega)
 have v3 := v3.keep k7 (fun e => by have e : b3 = b1 := e; omega)
 have K7 : Kp w w7 n_ := zae K6 k7 (by omega)
 have z7 := k7.size
 have sB7 := (zaB (E := 74) (c := boxCells) (s := 4) (l := (dropL A.boxes o.box).1) oB (by decide) (by decide)).step v1 k7
 have hs7 := hs.keep K7
 clear a15 a25 a16 a26 kr6 kd6 hat0 oB
 refine KGO ?_
 refine Loop.intro (ι := DrI) (fun p => [(2, .pointer (some ⟨b1, 0, none⟩)), (3, .pointer (some ⟨b2, 0, none⟩)), (4, .pointer (some ⟨b3, 0, none⟩)), (6, .slice aB (dropL A.boxes o.box).1.length cB), (10, .slice ma lx.length mc), (11, .int .i64 (p.i : Nat))])
  (fun p wr => Kp w7 wr (one_ b1) ∧ p.i ≤ lx.length ∧ VarK wr b1 36 (accC ⟨h.B, p.s, h.S, h.N⟩ A) ∧ OwnMl wr w7.heap.size p.s.v p.ly ∧ p.ly.map (·.m) = (A.mails.take p.i).map (outOf A.st o.box) ∧ ∀ y ∈ p.ly, ∃ x ∈ lx, y.f = x.f ∧ y.m.flags = x.m.flags ∧ (y = x ∨ OwnI wr w7.heap.size y.b.v y.m.boxes)) (fun p => lx.length - p.i) ⟨0, [], ⟨none, 0, 0⟩⟩ ⟨rfl, rfl, rfl, rfl, rfl, rfl, trivial⟩ ⟨Kp.refl _ _, Nat.zero_le _, v17, World.ownsRow_nil _ _ _ _, rfl, fun y hy => by simp at hy⟩ ?_
 rintro ⟨i, ly, s⟩ gr wr ⟨kr, hir, v1r, oL, hlm, hly⟩
 dsimp only at hir v1r oL hlm hly ⊢
 have v17b := v17
 clear v17 hi hlt hj hjt
 have v2r := v2.keep kr (fun e => by have e : b2 = b1 := e; omega)
 have v3r := v3.keep kr (fun e => by have e : b3 = b1 := e; omega)
 have Kr : Kp w wr n_ := K7.trans kr fun q hq e => by have e : q = b1 := e; omega
 have hll : ly.length = i := by
  have := congrArg List.length hlm
  rw [List.length_map, List.length_map, List.length_take] at this
  omega
 refine GW ?_
 refine KGO ?_
 by_cases hit : i < lx.length
 ·obtain ⟨gb, ob, rfl, hgb, hatb⟩ := hrr (by omega)
  have hatr := zac hatb Kr
  have krr := Kp.refl wr n_
  have hxo := (hs.now.x _ (List.getElem_mem hit)).keep Kr
  have hxm : lx[i].m = A.mails[i]'(by omega) := by simp [← hm]
  have hmi : lx[i].m ∈ A.mails := by rw [← hm]; exact List.mem_map_of_mem (List.getElem_mem hit)
  have hnd := hasc _ hmi
  have hbl := hmb _ hmi
  have hbn : lx[i].b.n = lx[i].m.boxes.length := RowO.len hxo.b
  have hstep : (A.mails.take (i + 1)).map (outOf A.st o.box) = (A.mails.take i).map (outOf A.st o.box) ++ [outOf A.st o.box lx[i].m] := by
   rw [List.take_succ_eq_append_getElem (by omega), List.map_append, hxm]; rfl
  refine KGO ?_
  have v12 := VarK.new wr 42 (mrC lx[i])
  refine Store.fresh (vs := mrC lx[i]) (by rfl) rfl (zan (by rfl)) ?_
  obtain ⟨a_b12, k_w8, z_w8⟩ := new3 wr 42 (mrC lx[i])
  generalize wr.alloc (.cells (List.toArray (mrC lx[i])) 42) = w8 at *
  generalize hs_b12 : wr.heap.size = b12 at *
  have v1r := v1r.keep0 k_w8
  have a1 := v1r.at
  have a2 := (v2r.keep0 k_w8).at
  have a12 := v12.at
  have kr8 := Kp.refl w8 n_
  clear hatr krr a_b12
  refine KGO ?_
  refine CallS.of (Tryz.call16 _ _) (znI (w := w8) lx[i].m.boxes o.box (hxo.b.keep k_w8) (by omega)) ?_
  rintro e w9 ⟨rfl, k9⟩
  have J9 := k_w8.trans0 k9
  have v12 := v12.keep0 k9
  have v1r := v1r.keep0 k9
  have a1 := v1r.at
  have a2 := zac a2 k9
  have a12 := v12.at
  have kr9 := Kp.refl w9 n_
  clear kr8
  refine RT ?_
  by_cases hin : o.box ∈ lx[i].m.boxes
  ·rw [decide_eq_true hin]
   have hpos : 0 < lx[i].b.n := by rw [hbn]; exact List.length_pos_of_mem hin
   obtain ⟨gx, ox, hxa, hatx⟩ := zgc hxo.b hpos
   have hatx := zac hatx J9
   clear a12
   have a12 : At w9 b12 0 (.int .i64 lx[i].m.id :: (dgC lx[i].m.blob ++ [.slice (some ⟨gx, ox, none⟩) lx[i].m.boxes.length lx[i].b.c, .slice lx[i].f.a lx[i].f.n lx[i].f.c, .int .i64 lx[i].m.at_, .int .i64 lx[i].m.size, .int .i64 lx[i].m.mod])) := by
    have := v12.at
    unfold mrC at this
    rw [hxa, hbn] at this
    exact this
   refine KGO ?_
   refine Loop.intro (ι := Nat × Value) (fun p => [(2, .pointer (some ⟨b1, 0, none⟩)), (3, .pointer (some ⟨b2, 0, none⟩)), (4, .pointer (some ⟨b3, 0, none⟩)), (6, .slice aB (dropL A.boxes o.box).1.length cB), (10, .slice (some ⟨gb, ob, none⟩) lx.length mc), (11, .int .i64 (i : Nat)), (12, .pointer (some ⟨b12, 0, none⟩)), (14, p.2), (15, .int .i64 (p.1 : Nat))])
    (fun p wk => Kp w9 wk n_ ∧ p.1 ≤ lx[i].m.boxes.length ∧ OwnI wk w9.heap.size p.2 ((lx[i].m.boxes.take p.1).filter fun x => !decide (x = o.box))) (fun p => lx[i].m.boxes.length - p.1) (0, .slice none 0 0) ⟨rfl, rfl, rfl, rfl, rfl, rfl, rfl, rfl, rfl, trivial⟩ ⟨kr9, Nat.zero_le _, World.ownsRow_nil _ _ _ _⟩ ?_
   rintro ⟨k, vk⟩ gk wk ⟨kk, hk, ok⟩
   dsimp only at hk ok ⊢
   obtain ⟨ak, ck, rfl⟩ := zab ok
   have hfk : ((lx[i].m.boxes.take k).filter fun x => !decide (x = o.box)).length ≤ k := Nat.le_trans (List.length_filter_le _ _) (by rw [List.length_take]; omega)
   clear kr9
   have a12k := zac a12 kk
   have a2k := zac a2 kk
   have a1k := zac a1 kk
   have krk := Kp.refl wk n_
   have kdk : Kp wk wk.drew n_ := krk.drew
   refine GW ?_
   refine KGO ?_
   by_cases hkt : k < lx[i].m.boxes.length
   ·have hcx := zbS (zac hatx kk) hkt
    have hst : ((lx[i].m.boxes.take (k + 1)).filter fun x => !decide (x = o.box)) = ((lx[i].m.boxes.take k).filter fun x => !decide (x = o.box)) ++ (if lx[i].m.boxes[k] = o.box then [] else [lx[i].m.boxes[k]]) := by
     rw [List.take_succ_eq_append_getElem hkt, List.filter_append]
     by_cases q : lx[i].m.boxes[k] = o.box <;> simp [q]
    by_cases hq : lx[i].m.boxes[k] = o.box
    ·rw [if_pos hq, List.append_nil] at hst
     refine KGO ?_
     exact ⟨(k + 1, _), ⟨rfl, rfl, rfl, rfl, rfl, rfl, rfl, rfl, v_int (by simp), trivial⟩, ⟨by first | exact kk | exact kk.drew, by dsimp only; omega, by dsimp only; rw [hst]; exact ok⟩, by dsimp only; omega⟩
    ·rw [if_neg hq] at hst
     refine KGO ?_
     refine RunV.of (bsR1I _ _) ?_
     generalize lx[i].m.boxes[k] = z at *
     have k6' : Kp wk (wk.drew.alloc (.cells (List.toArray (inC z)) 3)) n_ := kdk.alloc _
     have h6 := zao wk.drew 3 (inC z)
     have o6 := zaf ok k6'
     generalize wk.drew.alloc (.cells (List.toArray (inC z)) 3) = w6' at *
     generalize wk.drew.heap.size = g6' at *
     refine KGO ?_
     refine tyI.app1 z o6 (kk.trans0 k6').size h6 (by omega) (by omega) fun v7' w7' o7' k7' => ?_
     have K7' : Kp w9 w7' n_ := zaq o6 k7' w9 (kk.trans0 k6') (Nat.le_refl _)
     obtain ⟨a7', c7', rfl⟩ := zab o7'
     refine KGO ?_
     exact ⟨(k + 1, _), ⟨rfl, rfl, rfl, rfl, rfl, rfl, rfl, rfl, v_int (by simp), trivial⟩, ⟨K7', by dsimp only; omega, by dsimp only; rw [hst]; exact o7'⟩, by dsimp only; omega⟩
   ·rw [List.take_of_length_le (show lx[i].m.boxes.length ≤ k by omega)] at ok ⊢
    have hout := zhF (st := A.st) (b := o.box) (m := lx[i].m) hnd hin
    have v12 := v12.keep0 kk
    have v1r := v1r.keep0 kk
    have hb12 : b1 < b12 := by have := kr.size; omega
    have z9 := J9.size
    have z7r := kr.size
    have hb129 : b12 < w9.heap.size := by have := k9.size; omega
    clear a12k a12
    generalize (lx[i].m.boxes.filter fun x => !decide (x = o.box)) = F at *
    refine KGO ?_
    refine SCK 33 v12 fun wm vm km => ?_
    have v1r := v1r.keep km (fun e => by have e : b1 = b12 := e; omega)
    have a1m := v1r.at
    have krm := Kp.refl wm n_
    clear krk kdk a1k a2k a1
    refine KGO ?_
    refine SCK 37 vm fun wn vn kn => ?_
    have vn : VarK wn b12 42 (mrC ⟨{ lx[i].m with boxes := F, mod := A.st }, ⟨ak, F.length, ck⟩, lx[i].f⟩) := vn
    have v1r := v1r.keep kn (fun e => by have e : b1 = b12 := e; omega)
    have Jn : Kp wr wn n_ := zae (zae (J9.trans0 kk) km (by omega)) kn (by omega)
    have on := zah (zah ok km (fun q hq e => by have := (ok.lt q hq).1; have e : q = b12 := e; omega)) kn (fun q hq e => by have := (ok.lt q hq).1; have e : q = b12 := e; omega)
    have a12n := vn.at
    have a1n := v1r.at
    have krn := Kp.refl wn n_
    clear a1m krm
    refine KGO ?_
    refine RunV.of (zdx (⟨{ lx[i].m with boxes := F, mod := A.st }, ⟨ak, F.length, ck⟩, lx[i].f⟩ : Mr) _) ?_
    have kc : Kp wn ((wn).alloc (.cells (mrC (⟨{ lx[i].m with boxes := F, mod := A.st }, ⟨ak, F.length, ck⟩, lx[i].f⟩ : Mr)).toArray 42)) n_ := (Kp.refl _ _).alloc _
    have hc := zao wn 42 (mrC (⟨{ lx[i].m with boxes := F, mod := A.st }, ⟨ak, F.length, ck⟩, lx[i].f⟩ : Mr))
    have oLc := zaf (zaf oL Jn) kc
    have v1c := v1r.keep0 kc
    generalize (wn).alloc (.cells (mrC (⟨{ lx[i].m with boxes := F, mod := A.st }, ⟨ak, F.length, ck⟩, lx[i].f⟩ : Mr)).toArray 42) = wc at *
    generalize (wn).heap.size = gc at *
    have JWc := (Jn).trans0 kc
    refine KGO ?_
    refine tyM.app1 (⟨{ lx[i].m with boxes := F, mod := A.st }, ⟨ak, F.length, ck⟩, lx[i].f⟩ : Mr) oLc (Nat.le_trans z7r JWc.size) hc (by omega) (by omega) fun vd wd od kd => ?_
    have Kd : Kp w7 wd (one_ b1) := (kr.trans0 JWc).trans kd fun q hq e => by have := (oLc.lt q e).1; omega
    have v1d := v1c.keep kd (fun e => by have := (oLc.lt b1 e).1; omega)
    obtain ⟨ad, cd, rfl⟩ := zab od
    refine KGO ?_
    refine SCK 1 v1d fun wf vf kf => ?_
    have vf : VarK wf b1 36 (accC ⟨h.B, ⟨ad, (ly ++ [(⟨{ lx[i].m with boxes := F, mod := A.st }, ⟨ak, F.length, ck⟩, lx[i].f⟩ : Mr)]).length, cd⟩, h.S, h.N⟩ A) := vf
    have of' := zah od kf (fun q hq e => by have := (od.lt q hq).1; have e : q = b1 := e; omega)
    have keepI : ∀ {vv : Value} {l : List Int}, OwnI wr w7.heap.size vv l → OwnI wf w7.heap.size vv l := fun hI => zah (zah (zaf hI JWc) kd (fun q hq e => zdp (zaf hI JWc) oLc (by decide) q hq e)) kf (fun q hq e => by have := (hI.lt q hq).1; have e : q = b1 := e; omega)
    have keepJ : ∀ {vv : Value} {l : List Int}, OwnI wc w7.heap.size vv l → OwnI wf w7.heap.size vv l := fun hI => zah (zah hI kd (fun q hq e => zdp hI oLc (by decide) q hq e)) kf (fun q hq e => by have := (hI.lt q hq).1; have e : q = b1 := e; omega)
    refine KGO ?_
    refine ⟨⟨i + 1, ly ++ [(⟨{ lx[i].m with boxes := F, mod := A.st }, ⟨ak, F.length, ck⟩, lx[i].f⟩ : Mr)], ⟨ad, (ly ++ [(⟨{ lx[i].m with boxes := F, mod := A.st }, ⟨ak, F.length, ck⟩, lx[i].f⟩ : Mr)]).length, cd⟩⟩, ⟨rfl, rfl, rfl, rfl, rfl, v_int (by simp), trivial⟩, ⟨Kd.trans' kf, by dsimp only; omega, vf, of', by dsimp only; rw [List.map_append, hlm, hstep, List.map_singleton, hout], fun z hz => ?_⟩, by dsimp only; omega⟩
    rcases List.mem_append.1 hz with hz | hz
    ·obtain ⟨x, hx, q1, q2, q3⟩ := hly z hz
     exact ⟨x, hx, q1, q2, q3.elim .inl fun q => .inr (keepI q)⟩
    ·rw [List.mem_singleton.1 hz]
     exact ⟨lx[i], List.getElem_mem hit, rfl, rfl, (.inr (keepJ (zaj (zaf on kc) (Nat.le_trans z7r z9))))⟩
  ·rw [decide_eq_false hin]
   refine KGO ?_
   have hno : outOf A.st o.box lx[i].m = lx[i].m := by unfold outOf; rw [if_neg hin]
   have z7r := kr.size
   refine RunV.of (zdx lx[i] _) ?_
   have kc : Kp w9 ((w9).alloc (.cells (mrC lx[i]).toArray 42)) n_ := (Kp.refl _ _).alloc _
   have hc := zao w9 42 (mrC lx[i])
   have oLc := zaf (zaf oL J9) kc
   have v1c := v1r.keep0 kc
   generalize (w9).alloc (.cells (mrC lx[i]).toArray 42) = wc at *
   generalize (w9).heap.size = gc at *
   have JWc := (J9).trans0 kc
   refine KGO ?_
   refine tyM.app1 lx[i] oLc (Nat.le_trans z7r JWc.size) hc (by omega) (by omega) fun vd wd od kd => ?_
   have Kd : Kp w7 wd (one_ b1) := (kr.trans0 JWc).trans kd fun q hq e => by have := (oLc.lt q e).1; omega
   have v1d := v1c.keep kd (fun e => by have := (oLc.lt b1 e).1; omega)
   obtain ⟨ad, cd, rfl⟩ := zab od
   refine KGO ?_
   refine SCK 1 v1d fun wf vf kf => ?_
   have vf : VarK wf b1 36 (accC ⟨h.B, ⟨ad, (ly ++ [lx[i]]).length, cd⟩, h.S, h.N⟩ A) := vf
   have of' := zah od kf (fun q hq e => by have := (od.lt q hq).1; have e : q = b1 := e; omega)
   have keepI : ∀ {vv : Value} {l : List Int}, OwnI wr w7.heap.size vv l → OwnI wf w7.heap.size vv l := fun hI => zah (zah (zaf hI JWc) kd (fun q hq e => zdp (zaf hI JWc) oLc (by decide) q hq e)) kf (fun q hq e => by have := (hI.lt q hq).1; have e : q = b1 := e; omega)
   have keepJ : ∀ {vv : Value} {l : List Int}, OwnI wc w7.heap.size vv l → OwnI wf w7.heap.size vv l := fun hI => zah (zah hI kd (fun q hq e => zdp hI oLc (by decide) q hq e)) kf (fun q hq e => by have := (hI.lt q hq).1; have e : q = b1 := e; omega)
   refine KGO ?_
   refine ⟨⟨i + 1, ly ++ [lx[i]], ⟨ad, (ly ++ [lx[i]]).length, cd⟩⟩, ⟨rfl, rfl, rfl, rfl, rfl, v_int (by simp), trivial⟩, ⟨Kd.trans' kf, by dsimp only; omega, vf, of', by dsimp only; rw [List.map_append, hlm, hstep, List.map_singleton, hno], fun z hz => ?_⟩, by dsimp only; omega⟩
   rcases List.mem_append.1 hz with hz | hz
   ·obtain ⟨x, hx, q1, q2, q3⟩ := hly z hz
    exact ⟨x, hx, q1, q2, q3.elim .inl fun q => .inr (keepI q)⟩
   ·rw [List.mem_singleton.1 hz]
    exact ⟨lx[i], List.getElem_mem hit, rfl, rfl, (.inl rfl)⟩
 ·rw [List.take_of_length_le (by omega)] at hlm
  have v1 := v1r
  have v3 := v3r
  have sBr := sB7.step v17b kr
  have mr := zaB oL (by decide) (by decide)
  have cpM := zbk oL
  have ir : ∀ y ∈ ly, ∀ u, Kp wr u (isA wr) → ∃ x ∈ lx, y.f = x.f ∧ y.m.flags = x.m.flags ∧ (y = x ∨ RowI u y.b.v y.m.boxes) := fun y hy u ku => by
   obtain ⟨x, hx, q1, q2, q3⟩ := hly y hy
   exact ⟨x, hx, q1, q2, q3.elim .inl fun q => .inr (zaB q (by decide) (by decide) u ku)⟩
  refine KGO ?_
  refine SCK 0 v1 fun w8 v8 k8 => ?_
  have v8 : VarK w8 b1 36 (accC ⟨⟨aB, (dropL A.boxes o.box).1.length, cB⟩, s, h.S, h.N⟩ { A with boxes := (dropL A.boxes o.box).1, mails := A.mails.map (outOf A.st o.box) }) := v8
  have v3 := v3.keep k8 (fun e => by have e : b3 = b1 := e; omega)
  have a8 := v8.at
  have kr8 := Kp.refl w8 n_
  refine KGO ?_
  refine SVK (accC ⟨⟨aB, (dropL A.boxes o.box).1.length, cB⟩, s, h.S, h.N⟩ { A with boxes := (dropL A.boxes o.box).1, mails := A.mails.map (outOf A.st o.box) }) v3 fun w9 v9 k9 => ?_
  have K9 : Kp w w9 n_ := zae (zae Kr k8 (by omega)) k9 (by omega)
  have hat := v9.at
  refine KGO ?_
  refine GW ?_
  refine KGO ?_
  refine GW ?_
  have s9 := hs.keep K9
  have b9 := (sBr.step v1 k8).step v3 k9
  have m9 := (mr.step v1 k8).step v3 k9
  have i9 : Stab w9 (fun u => ∀ y ∈ ly, ∃ x ∈ lx, y.f = x.f ∧ y.m.flags = x.m.flags ∧ (y = x ∨ RowI u y.b.v y.m.boxes)) := ((show Stab wr (fun u => ∀ y ∈ ly, ∃ x ∈ lx, y.f = x.f ∧ y.m.flags = x.m.flags ∧ (y = x ∨ RowI u y.b.v y.m.boxes)) from fun u ku y hy => ir y hy u ku).step v1 k8).step v3 k9
  refine ⟨_, _, 0, rfl, ⟨ly, hlm, fun u ku => ⟨b9 u ku, m9 u ku, fun y hy => ?_, (s9 u ku).s, (s9 u ku).n⟩⟩, ⟨hcpB, cpM⟩, zba hres, K9⟩
  obtain ⟨x, hx, q1, q2, q3⟩ := i9 u ku y hy
  have hxo := (s9 u ku).x x hx
  refine ⟨q3.elim (fun e => by rw [e]; exact hxo.b) id, ?_⟩
  rw [q1, q2]
  exact hxo.f
end
end Go.Proofs.YtohhkegmbgancaaGreatDoor
