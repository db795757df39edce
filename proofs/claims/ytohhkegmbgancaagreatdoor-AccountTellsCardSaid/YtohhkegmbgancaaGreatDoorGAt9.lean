/- Helper text of this claim: lemmas and contracts that the proved statement rests on; no conditions of its own. -/
import Derived.Test.YtohhkegmbgancaaGreatDoorGBq7
namespace Go.Proofs.YtohhkegmbgancaaGreatDoor
set_option maxHeartbeats 8000000
open Go.Shelf Go.RowKit Go.Pw Go.Vc Go.Cs Go.Lib
set_option linter.unusedVariables false
set_option maxRecDepth 100000
section
variable {w : World}
theorem zfR {v u : Value} (l drop : List (List UInt8)) (hv : RowT w v l) (hu : RowT w u drop) (hl : l.length ≤ 8796093022200) (hd : drop.length ≤ 8796093022200) : Calls Tryz.prog 167 #[v, u] w fun e w' => ∃ v', e = .returned v' ∧ OwnT w' w.heap.size v' (l.filter fun f => !decide (f ∈ drop)) ∧ Kp w w' n_ := by
 obtain ⟨a, ca, rfl, hra⟩ := hv
 obtain ⟨b, cb, rfl, hrb⟩ := hu
 refine zaa (args := [.slice a l.length ca, .slice b drop.length cb]) Tryz.func167 rfl NL ?_; refine GW ?_
 refine Loop.intro (ι := Nat × Value) (fun p => [(0, .slice a l.length ca), (1, .slice b drop.length cb), (5, p.2), (6, .int .i64 (p.1 : Nat))])
  (fun p wr => Kp w wr n_ ∧ p.1 ≤ l.length ∧ OwnT wr w.heap.size p.2 ((l.take p.1).filter fun f => !decide (f ∈ drop))) (fun p => l.length - p.1) (0, .slice none 0 0) ⟨rfl, rfl, rfl, rfl, trivial⟩ ⟨Kp.refl _ _, Nat.zero_le _, World.ownsRow_nil _ _ _ _⟩ ?_
 rintro ⟨i, vl⟩ gg wr ⟨hK, hi, ho⟩
 dsimp only at hi ho ⊢
 obtain ⟨va, vc, rfl⟩ := zab ho
 have hfl : ((l.take i).filter fun f => !decide (f ∈ drop)).length ≤ i := Nat.le_trans (List.length_filter_le _ _) (by rw [List.length_take]; omega)
 refine GW ?_
 by_cases hlt : i < l.length
 rotate_left
 ·rw [List.take_of_length_le (show l.length ≤ i by omega)] at ho ⊢
  refine KGO ?_
  exact ⟨_, rfl, ho, hK⟩
 obtain ⟨ga, oa, rfl, hga, hata⟩ := hra (by omega)
 have hstep : ((l.take (i + 1)).filter fun f => !decide (f ∈ drop)) = ((l.take i).filter fun f => !decide (f ∈ drop)) ++ (if l[i] ∈ drop then [] else [l[i]]) := by
  rw [List.take_succ_eq_append_getElem hlt, List.filter_append]
  by_cases q : l[i] ∈ drop <;> simp [q]
 have hct := zbB (zac hata hK) hlt
 have hwr : w.heap.size ≤ wr.heap.size := hK.size
 refine KGO ?_
 refine Loop.intro (ι := Nat) (fun k => [(0, .slice (some ⟨ga, oa, none⟩) l.length ca), (1, .slice b drop.length cb), (5, .slice va ((l.take i).filter fun f => !decide (f ∈ drop)).length vc), (6, .int .i64 (i : Nat)), (7, .bool (decide (l[i] ∈ drop.take k))), (8, .int .i64 (k : Nat))])
  (fun k w2 => Kp wr w2 n_ ∧ k ≤ drop.length) (fun k => drop.length - k) 0 ⟨rfl, rfl, rfl, rfl, by rw [List.take_zero, decide_eq_false List.not_mem_nil]; rfl, rfl, trivial⟩ ⟨Kp.refl _ _, Nat.zero_le _⟩ ?_
 rintro k g2 w2 ⟨k2, hk⟩
 have hct2 := zak hct k2
 have kr2 := Kp.refl w2 n_
 have kd2 : Kp w2 w2.drew n_ := kr2.drew
 refine GW ?_
 by_cases hkl : k < drop.length
 ·obtain ⟨gb, ob, rfl, hgb, hatb⟩ := hrb (by omega)
  have hcb := zbB (zac hatb (hK.trans0 k2)) hkl
  have hs2 : decide (l[i] ∈ drop.take (k + 1)) = (decide (l[i] ∈ drop.take k) || decide (drop[k] = l[i])) := by
   rw [List.take_succ_eq_append_getElem hkl]
   simp only [List.mem_append, List.mem_singleton, Bool.decide_or]
   congr 1
   exact decide_eq_decide.2 eq_comm
  by_cases hq : l[i] ∈ drop.take k
  ·rw [decide_eq_true hq] at hs2 ⊢
   refine KGO ?_
   exact ⟨k + 1, ⟨rfl, rfl, rfl, rfl, by rw [hs2]; rfl, v_int (by simp), trivial⟩, ⟨by first | exact k2 | exact k2.drew, by omega⟩, by dsimp only; omega⟩
  ·rw [decide_eq_false hq] at hs2 ⊢
   by_cases he : drop[k] = l[i]
   ·have he2 : str drop[k] = str l[i] := by rw [he]
    refine KGO ?_
    exact ⟨k + 1, ⟨rfl, rfl, rfl, rfl, by rw [hs2, decide_eq_true he]; show Value.bool (decide (str drop[k] = str l[i])) = _; rw [decide_eq_true he2]; rfl, v_int (by simp), trivial⟩, ⟨by first | exact k2 | exact k2.drew | exact k2.drew.drew, by omega⟩, by dsimp only; omega⟩
   ·have he2 : ¬ str drop[k] = str l[i] := fun q => he (zbm.1 q)
    refine KGO ?_
    exact ⟨k + 1, ⟨rfl, rfl, rfl, rfl, by rw [hs2, decide_eq_false he]; show Value.bool (decide (str drop[k] = str l[i])) = _; rw [decide_eq_false he2]; rfl, v_int (by simp), trivial⟩, ⟨by first | exact k2 | exact k2.drew | exact k2.drew.drew, by omega⟩, by dsimp only; omega⟩
 ·rw [List.take_of_length_le (show drop.length ≤ k by omega)]
  have ho2 := zaf ho k2
  by_cases hq : l[i] ∈ drop
  ·rw [decide_eq_true hq]
   rw [if_pos hq, List.append_nil] at hstep
   refine KGO ?_
   exact ⟨(i + 1, _), ⟨rfl, rfl, rfl, v_int (by simp), trivial⟩, ⟨hK.trans0 k2, by dsimp only; omega, by dsimp only; rw [hstep]; exact ho2⟩, by dsimp only; omega⟩
  ·rw [decide_eq_false hq]
   rw [if_neg hq] at hstep
   refine KGO ?_
   refine RunV.of (bsR1T _ _) ?_
   have k6 : Kp w2 (w2.alloc (.cells (List.toArray (txC l[i])) 9)) n_ := (Kp.refl _ _).alloc _
   have h6 := zao w2 9 (txC l[i])
   have o6 := zaf ho2 k6
   generalize w2.alloc (.cells (List.toArray (txC l[i])) 9) = w6 at *
   generalize w2.heap.size = g6 at *
   refine KGO ?_
   refine tyT.app1 l[i] o6 ((hK.trans0 k2).trans0 k6).size h6 (by omega) (by omega) fun v7 w7 o7 k7 => ?_
   have K7 : Kp w w7 n_ := zaq o6 k7 w ((hK.trans0 k2).trans0 k6) (Nat.le_refl _)
   obtain ⟨a7, c7, rfl⟩ := zab o7
   refine KGO ?_
   exact ⟨(i + 1, _), ⟨rfl, rfl, rfl, v_int (by simp), trivial⟩, ⟨K7, by dsimp only; omega, by dsimp only; rw [hstep]; exact o7⟩, by dsimp only; omega⟩
end
def Says (x : Except Nat (Acc × Int)) (A' : Acc) (n : Int) (c : Nat) : Prop := match x with
 | .error c' => c = c'
 | .ok r => c = 0 ∧ A' = r.1 ∧ n = r.2
theorem zas {x : Except Nat (Acc × Int)} {A' : Acc} {n : Int} {c : Nat} (h : x = .error c) : Says x A' n c := by rw [h]; exact rfl
theorem zba {x : Except Nat (Acc × Int)} {A' : Acc} {n : Int} (h : x = .ok (A', n)) : Says x A' n 0 := by rw [h]; exact ⟨rfl, rfl, rfl⟩
def Ends3 (w : World) (x : Except Nat (Acc × Int)) (e : Ending) (w' : World) : Prop := ∃ h' A' n c, e = .returned (.tuple #[.agg (accC h' A').toArray, .int .i64 n, .int .i64 (c : Nat)]) ∧ RefA w' h' A' ∧ Caps h' ∧ Says x A' n c ∧ Kp w w' n_
def Ends2 (w : World) (x : Except Nat (Acc × Int)) (e : Ending) (w' : World) : Prop := ∃ h' A' c, e = .returned (.tuple #[.agg (accC h' A').toArray, .int .i64 (c : Nat)]) ∧ RefA w' h' A' ∧ Caps h' ∧ Says x A' 0 c ∧ Kp w w' n_
section
variable {w : World}
theorem zog {h : Hd} {A : Acc} {v : Ov} {o : Opr} (r : RefA w h A) (cp : Caps h) (hf : Fit A) (ho : OpR w v o) (fo : FitO o) :
  Calls Tryz.prog 110 #[.agg (accC h A).toArray, .agg (opC v o).toArray] w (Ends3 w (mailA A o)) := by
 have fml := hf.ml
 have fbl := hf.bl
 have fob := fo.b
 have foa := fo.a
 have fnm := hf.nm
 have hbn : v.b.n = o.boxes.length := RowO.len ho.b
 have hnil : o.boxes = [] ↔ v.b.n = 0 := by rw [hbn, List.length_eq_zero_iff]
 have hmn := zlU r.read
 refine zaa (args := [.agg (accC h A).toArray, .agg (opC v o).toArray]) Tryz.func110 rfl NL ?_; refine GW ?_
 obtain ⟨a_b1, v_b1, k_w1, z_w1, r_w1⟩ := new5 w 36 (accC h A)
 generalize w.alloc (.cells (List.toArray (accC h A)) 36) = w1 at *
 generalize hs_b1 : w.heap.size = b1 at *
 obtain ⟨a_b2, v_b2, k_w2, z_w2, r_w2⟩ := new5 w1 28 (opC v o)
 generalize w1.alloc (.cells (List.toArray (opC v o)) 28) = w2 at *
 generalize hs_b2 : w1.heap.size = b2 at *
 obtain ⟨a_b3, v_b3, k_w3, z_w3, r_w3⟩ := new5 w2 36 (zAcc')
 generalize w2.alloc (.cells (List.toArray (zAcc')) 36) = w3 at *
 generalize hs_b3 : w2.heap.size = b3 at *
 have K3 := (k_w1.trans0 k_w2).trans0 k_w3
 have v1 := v_b1.keep0 (k_w2.trans0 k_w3)
 have v2 := v_b2.keep0 k_w3
 have v3 := v_b3
 have a1 := v1.at
 have a2 := v2.at
 have kr3 := Kp.refl w3 n_
 clear a_b1 a_b2 a_b3
 refine KGO ?_
 refine CallS.of (Tryz.call161 _ _) (zdy (w := w3) o.add (ho.a.keep K3) (by omega) fo.fa) ?_
 rintro e w4 ⟨rfl, k4⟩
 have K4 := K3.trans0 k4
 have v3 := v3.keep0 k4
 refine RT ?_
 by_cases c1 : o.boxes = []
 ·have c1' := hnil.1 c1
  refine KGO ?_
  refine SVK (accC h A) v3 fun w8 v8 k8 => ?_
  have K8' : Kp w w8 n_ := zae K4 k8 (by omega)
  have hat := v8.at
  refine KGO ?_
  refine GW ?_
  refine KGO ?_
  refine GW ?_
  exact ⟨h, A, 0, 1, rfl, r.keep K8', cp, zas (by unfold mailA; rw [if_pos (.inl c1)]), K8'⟩
 have c1' : ¬ v.b.n = 0 := fun q => c1 (hnil.2 q)
 by_cases c2 : flagsB o.add = true
 rotate_left
 ·have c2 : flagsB o.add = false := by simpa using c2
  rw [c2]
  refine KGO ?_
  refine SVK (accC h A) v3 fun w8 v8 k8 => ?_
  have K8' : Kp w w8 n_ := zae K4 k8 (by omega)
  have hat := v8.at
  refine KGO ?_
  refine GW ?_
  refine KGO ?_
  refine GW ?_
  exact ⟨h, A, 0, 1, rfl, r.keep K8', cp, zas (by unfold mailA; rw [if_pos (.inr (.inl c2))]), K8'⟩
 rw [c2]
 refine KGO ?_
 refine CallS.of (Tryz.call162 _ _) (ra_in (w := w4) o.at_ 0 1099511627776) ?_
 rintro e w5 ⟨rfl, k5⟩
 have K5 := K4.trans0 k5
 have J5 := k4.trans0 k5
 have v3 := v3.keep0 k5
 refine RT ?_
 by_cases c3 : 0 ≤ o.at_ ∧ o.at_ ≤ 1099511627776
 rotate_left
 ·rw [decide_eq_false c3]
  refine KGO ?_
  refine SVK (accC h A) v3 fun w8 v8 k8 => ?_
  have K8' : Kp w w8 n_ := zae K5 k8 (by omega)
  have hat := v8.at
  refine KGO ?_
  refine GW ?_
  refine KGO ?_
  refine GW ?_
  exact ⟨h, A, 0, 1, rfl, r.keep K8', cp, zas (by unfold mailA; rw [if_pos (.inr (.inr (.inl c3)))]), K8'⟩
 rw [decide_eq_true c3]
 refine KGO ?_
 refine CallS.of (Tryz.call162 _ _) (ra_in (w := w5) o.size 0 65536) ?_
 rintro e w6 ⟨rfl, k6⟩
 have K6 := K5.trans0 k6
 have J6 := J5.trans0 k6
 have v3 := v3.keep0 k6
 refine RT ?_
 by_cases c4 : 0 ≤ o.size ∧ o.size ≤ 65536
 rotate_left
 ·rw [decide_eq_false c4]
  refine KGO ?_
  refine SVK (accC h A) v3 fun w8 v8 k8 => ?_
  have K8' : Kp w w8 n_ := zae K6 k8 (by omega)
  have hat := v8.at
  refine KGO ?_
  refine GW ?_
  refine KGO ?_
  refine GW ?_
  exact ⟨h, A, 0, 1, rfl, r.keep K8', cp, zas (by unfold mailA; rw [if_pos (.inr (.inr (.inr c4)))]), K8'⟩
 rw [decide_eq_true c4]
 have g1 : ¬ (o.boxes = [] ∨ flagsB o.add = false ∨ ¬ (0 ≤ o.at_ ∧ o.at_ ≤ 1099511627776) ∨ ¬ (0 ≤ o.size ∧ o.size ≤ 65536)) := fun q => by
  rcases q with q | q | q | q
  ·exact c1 q
  ·rw [c2] at q; cases q
  ·exact q c3
  ·exact q c4
 refine KGO ?_
 refine CallS.of (Tryz.call163 _ _) (zgF (w := w6) A.boxes o.boxes (r.keep K6).read.b (ho.b.keep K6) (by omega) (by omega)) ?_
 rintro e w7 ⟨rfl, k7⟩
 have K7 := K6.trans0 k7
 have J7 := J6.trans0 k7
 have v3 := v3.keep0 k7
 refine RT ?_
 by_cases c5 : thereB A.boxes o.boxes = true
 rotate_left
 ·have c5 : thereB A.boxes o.boxes = false := by simpa using c5
  rw [c5]
  refine KGO ?_
  refine SVK (accC h A) v3 fun w8 v8 k8 => ?_
  have K8' : Kp w w8 n_ := zae K7 k8 (by omega)
  have hat := v8.at
  refine KGO ?_
  refine GW ?_
  refine KGO ?_
  refine GW ?_
  exact ⟨h, A, 0, 5, rfl, r.keep K8', cp, zas (by unfold mailA; rw [if_neg g1, if_pos c5]), K8'⟩
 rw [c5]
 have g2 : ¬ thereB A.boxes o.boxes = false := by rw [c5]; simp
 refine KGO ?_
 refine CallS.of (Tryz.call164 _ _) (zgw (w := w7) o.add (ho.a.keep K7) (by omega)) ?_
 rintro e w9 ⟨vt, rfl, ot, k9⟩
 obtain ⟨at', ct, rfl⟩ := zab ot
 have K9 := K7.trans0 k9
 have J9 := J7.trans0 k9
 have v3 := v3.keep0 k9
 have fst := zcc (lt := ltT) o.add
 have fst : (sortT o.add).length ≤ o.add.length := fst
 refine RT ?_
 by_cases c6 : 4096 ≤ A.mails.length
 ·skip
  refine KGO ?_
  refine SVK (accC h A) v3 fun w8 v8 k8 => ?_
  have K8' : Kp w w8 n_ := zae K9 k8 (by omega)
  have hat := v8.at
  refine KGO ?_
  refine GW ?_
  refine KGO ?_
  refine GW ?_
  exact ⟨h, A, 0, 3, rfl, r.keep K8', cp, zas (by unfold mailA; rw [if_neg g1, if_neg g2, if_pos (.inl c6)]), K8'⟩
 by_cases c7 : 20 < (sortT o.add).length
 ·skip
  refine KGO ?_
  refine SVK (accC h A) v3 fun w8 v8 k8 => ?_
  have K8' : Kp w w8 n_ := zae K9 k8 (by omega)
  have hat := v8.at
  refine KGO ?_
  refine GW ?_
  refine KGO ?_
  refine GW ?_
  exact ⟨h, A, 0, 3, rfl, r.keep K8', cp, zas (by unfold mailA; rw [if_neg g1, if_neg g2, if_pos (.inr (.inl c7))]), K8'⟩
 by_cases c8 : 1099511627776 ≤ A.nm
 ·skip
  refine KGO ?_
  refine SVK (accC h A) v3 fun w8 v8 k8 => ?_
  have K8' : Kp w w8 n_ := zae K9 k8 (by omega)
  have hat := v8.at
  refine KGO ?_
  refine GW ?_
  refine KGO ?_
  refine GW ?_
  exact ⟨h, A, 0, 3, rfl, r.keep K8', cp, zas (by unfold mailA; rw [if_neg g1, if_neg g2, if_pos (.inr (.inr c8))]), K8'⟩
 have hres : mailA A o = .ok ({ A with mails := A.mails ++ [newM A o], nm := A.nm + 1 }, A.nm) := by
  unfold mailA
  rw [if_neg g1, if_neg g2, if_neg (by omega)]
  rfl
 clear kr3 g1 g2 hnil
 have v1 := v1.keep0 J9
 have v2 := v2.keep0 J9
 have a1 := v1.at
 have a2 := v2.at
 have kr9 := Kp.refl w9 n_
 have hb19 : b1 < w9.heap.size := v1.lt
 have hb39 : b3 < w9.heap.size := v3.lt
 have hdg : At w9 b2 (0 + 7) (dgC o.blob) := op_dg a2
 refine KGO ?_
 refine Draw.cut (ι := Nat × Mr) (fun p => [(2, .pointer (some ⟨b1, 0, none⟩)), (3, .pointer (some ⟨b2, 0, none⟩)), (4, .pointer (some ⟨b3, 0, none⟩)), (10, .pointer (some ⟨p.1, 0, none⟩))]) (fun p u => Kp w9 u n_ ∧ VarK u p.1 42 (mrC p.2) ∧ p.2.m = newM A o ∧ Stab u (fun u => MailOk u p.2) ∧ w9.heap.size ≤ p.1) ?_ ?_
 ·have kd : Kp w9 w9.drew n_ := kr9.drew
  have fsi : o.boxes.length ≤ 17592186043904 := fob
  refine Draw.ways (fun u => Kp w9 u n_) (fun _ => true) [[0, 1, 2, 3, 4, 5, 6, 7, 8, 9, 10, 11, 12, 13, 14, 15, 16], [0, 1, 2, 3, 4, 5, 15, 6, 7, 8, 9, 10, 11, 12, 13, 14, 16]] (by decide +kernel) kd ?_
  intro L' hL'
  simp only [List.mem_cons, List.not_mem_nil, or_false] at hL'
  rcases hL' with rfl | rfl
  ·refine KGO ?_
   refine CallS.of (Tryz.call165 _ _) (zgt (w := w9.drew) o.boxes (ho.b.keep K9.drew) fsi) ?_
   rintro e w10 ⟨vi, rfl, oi, k10⟩
   obtain ⟨ai, ci, rfl⟩ := zab oi
   have J10 : Kp w9 w10 n_ := kd.trans0 k10
   have z10 := J10.size
   refine RT ?_
   refine ⟨J10, ?_⟩
   refine KGO ?_
   refine RunV.of (zch (newM A o) ⟨ai, _, ci⟩ ⟨at', _, ct⟩ _) ?_
   refine KGO ?_
   obtain ⟨a_b10, v_b10, k_w11, z_w11, r_w11⟩ := new5 w10 42 (zMl)
   generalize w10.alloc (.cells (List.toArray (zMl)) 42) = w11 at *
   generalize hs_b10 : w10.heap.size = b10 at *
   have J11 := J10.trans0 k_w11
   refine ⟨J11, ?_⟩
   refine KGO ?_
   refine SVK (mrC ⟨newM A o, ⟨ai, _, ci⟩, ⟨at', _, ct⟩⟩) v_b10 fun w12 v12 k12 => ?_
   have J12 : Kp w9 w12 n_ := zae J11 k12 (by omega)
   have oi12 := zah (zaf oi k_w11) k12 (fun q hq e => by have e : q = b10 := e; have := (oi.lt q hq).2; omega)
   have ot12 := zah (zaf ot J11) k12 (fun q hq e => by have e : q = b10 := e; have := (ot.lt q hq).2; omega)
   refine ⟨J12, ?_⟩
   refine KGO ?_
   exact ⟨(b10, ⟨newM A o, ⟨ai, _, ci⟩, ⟨at', _, ct⟩⟩), ⟨rfl, rfl, rfl, rfl, trivial⟩, J12, v12, rfl, ((zaB oi12 (by decide) (by decide)).and (zaB ot12 (by decide) (by decide))).imp (fun u q => ⟨q.1, q.2⟩), by dsimp only; omega⟩
  ·refine KGO ?_
   obtain ⟨a_b10, v_b10, k_w11, z_w11, r_w11⟩ := new5 w9.drew 42 (zMl)
   generalize w9.drew.alloc (.cells (List.toArray (zMl)) 42) = w11 at *
   generalize hs_b10 : w9.drew.heap.size = b10 at *
   have z9 : w9.drew.heap.size = w9.heap.size := rfl
   have J11 := kd.trans0 k_w11
   refine ⟨J11, ?_⟩
   refine KGO ?_
   refine CallS.of (Tryz.call165 _ _) (zgt (w := w11) o.boxes (ho.b.keep (K9.trans0 J11)) fsi) ?_
   rintro e w10 ⟨vi, rfl, oi, k10⟩
   obtain ⟨ai, ci, rfl⟩ := zab oi
   have J10 : Kp w9 w10 n_ := J11.trans0 k10
   have v10 := v_b10.keep0 k10
   refine RT ?_
   refine ⟨J10, ?_⟩
   refine KGO ?_
   refine RunV.of (zch (newM A o) ⟨ai, _, ci⟩ ⟨at', _, ct⟩ _) ?_
   refine KGO ?_
   refine SVK (mrC ⟨newM A o, ⟨ai, _, ci⟩, ⟨at', _, ct⟩⟩) v10 fun w12 v12 k12 => ?_
   have J12 : Kp w9 w12 n_ := zae J10 k12 (by omega)
   have oi12 := zah oi k12 (fun q hq e => by have e : q = b10 := e; have := (oi.lt q hq).1; omega)
   have ot12 := zah (zaf ot J10) k12 (fun q hq e => by have e : q = b10 := e; have := (ot.lt q hq).2; omega)
   refine ⟨J12, ?_⟩
   refine KGO ?_
   exact ⟨(b10, ⟨newM A o, ⟨ai, _, ci⟩, ⟨at', _, ct⟩⟩), ⟨rfl, rfl, rfl, rfl, trivial⟩, J12, v12, rfl, ((zaB oi12 (by decide) (by decide)).and (zaB ot12 (by decide) (by decide))).imp (fun u q => ⟨q.1, q.2⟩), by dsimp only; omega⟩
 rintro ⟨b10, y⟩ g10 w10 ⟨J10, v10, hy, sy, hb10⟩
 dsimp only at v10 hy sy hb10 ⊢
 clear a1 a2 kr9 hdg
 have K10 := K9.trans0 J10
 obtain ⟨lx, hm, hs⟩ := r
 have hlx : lx.length = A.mails.length := by rw [← hm, List.length_map]
 obtain ⟨ma, mc, he, hrr⟩ := hs.now.m
 injection he with e1 e2 e3
 have v1 := v1.keep0 J10
 have v3 := v3.keep0 J10
 have a1 : At w10 b1 0 [.slice h.B.a h.B.n h.B.c, .slice ma lx.length mc, .slice h.S.a h.S.n h.S.c, .string (str A.active), .slice h.N.a h.N.n h.N.c, .int .i64 A.nm, .int .i64 A.nb, .int .i64 A.st] := by
  have := v1.at
  unfold accC at this
  rw [e1, e2, e3] at this
  exact this
 have hat : 0 < lx.length → ∃ g o, ma = some ⟨g, o, none⟩ ∧ At w10 g o (lx.flatMap mrC) := fun h0 => let ⟨g, o, q1, _, q3⟩ := hrr h0; ⟨g, o, q1, zac q3 K10⟩
 have kr10 := Kp.refl w10 n_
 refine GW ?_
 refine KGO ?_
 refine RunV.of (build0Ml _) ?_
 have k11 : Kp w10 (w10.alloc (.cells #[] 42)) n_ := (Kp.refl _ _).alloc _
 have o11 := zbc 42 mrC 38 (by decide) w10
 have hB11 := k11.size
 generalize w10.alloc (.cells #[] 42) = w11 at *
 have hat11 : 0 < lx.length → ∃ g o, ma = some ⟨g, o, none⟩ ∧ At w11 g o (lx.flatMap mrC) := fun h0 => let ⟨g, o, q1, q3⟩ := hat h0; ⟨g, o, q1, zac q3 k11⟩
 refine KGO ?_
 refine tyM.app lx o11 hB11 rfl hat11 (by simp; omega) (by simp; omega) fun v12 w12 o12 k12 => ?_
 have J12 : Kp w10 w12 n_ := zaq o11 k12 w10 k11 (Nat.le_refl _)
 rw [List.nil_append] at o12
 obtain ⟨a12, c12, rfl⟩ := zab o12
 have a10 := zac v10.at J12
 have kr12 := Kp.refl w12 n_
 clear a1 kr10 hat hat11
 refine KGO ?_
 refine RunV.of (zdx y _) ?_
 have k13 : Kp w12 (w12.alloc (.cells (mrC y).toArray 42)) n_ := (Kp.refl _ _).alloc _
 have h13 := zao w12 42 (mrC y)
 have o13 := zaf o12 k13
 generalize w12.alloc (.cells (mrC y).toArray 42) = w13 at *
 generalize w12.heap.size = g13 at *
 refine KGO ?_
 refine tyM.app1 y o13 (J12.trans0 k13).size h13 (by omega) (by omega) fun v14 w14 o14 k14 => ?_
 have J14 : Kp w10 w14 n_ := zaq o13 k14 w10 (J12.trans0 k13) (Nat.le_refl _)
 obtain ⟨a14, c14, rfl⟩ := zab o14
 have v1 := v1.keep0 J14
 have v3 := v3.keep0 J14
 have v10 := v10.keep0 J14
 have z10 := K10.size
 clear kr12 a10
 refine KGO ?_
 refine SCK 1 v1 fun w15 v15 k15 => ?_
 have a15 := v15.at
 have kr15 := Kp.refl w15 n_
 refine KGO ?_
 refine SCK 5 v15 fun w16 v16 k16 => ?_
 have v16 : VarK w16 b1 36 (accC ⟨h.B, ⟨a14, (lx ++ [y]).length, c14⟩, h.S, h.N⟩ { A with mails := A.mails ++ [newM A o], nm := A.nm + 1 }) := v16
 have v3 := (v3.keep k15 (fun e => by have e : b3 = b1 := e; omega)).keep k16 (fun e => by have e : b3 = b1 := e; omega)
 have v10 := (v10.keep k15 (fun e => by have e : b10 = b1 := e; omega)).keep k16 (fun e => by have e : b10 = b1 := e; omega)
 have a16 := v16.at
 have a10 := v10.at
 have kr16 := Kp.refl w16 n_
 clear kr15 a15
 have K16 : Kp w w16 n_ := zae (zae (K10.trans0 J14) k15 (by omega)) k16 (by omega)
 have hh1 : ∀ u, Kp w16 u (one_ b3) → At u b1 0 (accC ⟨h.B, ⟨a14, (lx ++ [y]).length, c14⟩, h.S, h.N⟩ { A with mails := A.mails ++ [newM A o], nm := A.nm + 1 }) := fun u ku => (v16.keep ku (fun e => by have e : b1 = b3 := e; omega)).at
 have hh2 : ∀ u, Kp w16 u (one_ b3) → At u b10 0 (mrC y) := fun u ku => (v10.keep ku (fun e => by have e : b10 = b3 := e; omega)).at
 clear a16 a10 kr16
 refine KGO ?_
 refine Draw.held (fun u => Kp w16 u (one_ b3)) (fun _ => true) (by decide +kernel) (Kp.refl _ _).drew ?_
 refine GW ?_
 refine HeldG _ (by rfl) (by rfl) hh1 (by rfl) ?_
 refine GW ?_
 refine KGO ?_
 refine Held.one (by rfl) (fun u ku => hh2 u ku 0 _ rfl) ?_
 refine GW ?_
 refine KGO ?_
 refine Store.varK (accC ⟨h.B, ⟨a14, (lx ++ [y]).length, c14⟩, h.S, h.N⟩ { A with mails := A.mails ++ [newM A o], nm := A.nm + 1 }) (w := w16.drew) v3 (by rfl) rfl (zan (by rfl)) fun w17 v17 k17 => ?_
 have k17' : Kp w16 w17 (one_ b3) := (Kp.refl w16 (one_ b3)).drew.trans' k17
 have K17 : Kp w w17 n_ := zae K16 k17' (by omega)
 refine ⟨k17', ?_⟩
 have hat := v17.at
 refine KGO ?_
 refine GW ?_
 refine KGO ?_
 refine GW ?_
 have hb1b : ∀ q, (Value.slice a14 (lx ++ [y]).length c14).ownBlock = some q → q ≠ b1 ∧ q ≠ b3 := fun q hq => by have := (o14.lt q hq).1; have := J10.size; omega
 have o17 := zah (zah (zah o14 k15 (fun q hq e => (hb1b q hq).1 e)) k16 (fun q hq e => (hb1b q hq).1 e)) k17' (fun q hq e => (hb1b q hq).2 e)
 have s17 := hs.keep K17
 have m17 := zaB o17 (by decide) (by decide)
 have sy17 := (((sy.keep J14).step v1 k15).step v15 k16).step v3 k17'
 refine ⟨_, _, y.m.id, 0, rfl, ⟨lx ++ [y], by rw [List.map_append, hm, List.map_singleton, hy], fun u ku => ⟨(s17 u ku).b, m17 u ku, fun z hz => ?_, (s17 u ku).s, (s17 u ku).n⟩⟩, ⟨cp.B, zbk o17⟩, zba (by rw [hres, hy]; rfl), K17⟩
 rcases List.mem_append.1 hz with hz | hz
 ·exact (s17 u ku).x z hz
 ·rw [List.mem_singleton.1 hz]; exact sy17 u ku
end
section
variable {w : World}
theorem zlL {α : Type} {c : α → List Value} {s g o cap cap' k : Nat} {l : List α} {u : World} (hl : ∀ x, (c x).length = s) (h : RowO u (.slice (some ⟨g, o, none⟩) l.length cap) c l) : RowO u (.slice (some ⟨g, o + k * s, none⟩) (l.length - k) cap') c (l.drop k) := by
 refine ⟨some ⟨g, o + k * s, none⟩, cap', by rw [List.length_drop], fun h0 => ?_⟩
 rw [List.length_drop] at h0
 obtain ⟨a, c', e, hh⟩ := h
 injection e with e1 _ _
 obtain ⟨g', o', e2, hg, hat⟩ := hh (by omega)
 rw [e2] at e1
 injection e1 with e1
 injection e1 with e3 e4
 subst e3; subst e4
 exact ⟨_, _, rfl, hg, zbq hl hat k⟩
theorem zlk {h : Hd} {A : Acc} {v : Ov} {o : Opr} (r : RefA w h A) (cp : Caps h) (hnl : A.seen.length ≤ 256) (fo : FitO o) :
  Calls Tryz.prog 116 #[.agg (accC h A).toArray, .agg (opC v o).toArray] w (Ends2 w (answerA A o)) := by
 have fnm := fo.nm
 have hsz := zav o.name
 refine zaa (args := [.agg (accC h A).toArray, .agg (opC v o).toArray]) Tryz.func116 rfl NL ?_; refine GW ?_
 obtain ⟨a_b1, v_b1, k_w1, z_w1, r_w1⟩ := new5 w 36 (accC h A)
 generalize w.alloc (.cells (List.toArray (accC h A)) 36) = w1 at *
 generalize hs_b1 : w.heap.size = b1 at *
 obtain ⟨a_b2, v_b2, k_w2, z_w2, r_w2⟩ := new5 w1 28 (opC v o)
 generalize w1.alloc (.cells (List.toArray (opC v o)) 28) = w2 at *
 generalize hs_b2 : w1.heap.size = b2 at *
 obtain ⟨a_b3, v_b3, k_w3, z_w3, r_w3⟩ := new5 w2 36 (zAcc')
 generalize w2.alloc (.cells (List.toArray (zAcc')) 36) = w3 at *
 generalize hs_b3 : w2.heap.size = b3 at *
 have K3 := (k_w1.trans0 k_w2).trans0 k_w3
 have v1 := v_b1.keep0 (k_w2.trans0 k_w3)
 have v2 := v_b2.keep0 k_w3
 have v3 := v_b3
 have a1 := v1.at
 have a2 := v2.at
 have kr3 := Kp.refl w3 n_
 clear a_b1 a_b2 a_b3
 by_cases c1 : 1000 < o.name.length
 ·skip
  refine KGO ?_
  refine SVK (accC h A) v3 fun w8 v8 k8 => ?_
  have K8' : Kp w w8 n_ := zae K3 k8 (by omega)
  have hat := v8.at
  refine KGO ?_
  refine GW ?_
  refine KGO ?_
  refine GW ?_
  exact ⟨h, A, 1, rfl, r.keep K8', cp, zas (by unfold answerA; rw [if_pos (.inl c1)]), K8'⟩
 refine KGO ?_
 refine CallS.of (Tryz.call162 _ _) (ra_in (w := w3) o.at_ 0 1099511627776) ?_
 rintro e w5 ⟨rfl, k5⟩
 have K5 := K3.trans0 k5
 have v1 := v1.keep0 k5
 have v2 := v2.keep0 k5
 have v3 := v3.keep0 k5
 refine RT ?_
 by_cases c3 : 0 ≤ o.at_ ∧ o.at_ ≤ 1099511627776
 rotate_left
 ·rw [decide_eq_false c3]
  refine KGO ?_
  refine SVK (accC h A) v3 fun w8 v8 k8 => ?_
  have K8' : Kp w w8 n_ := zae K5 k8 (by omega)
  have hat := v8.at
  refine KGO ?_
  refine GW ?_
  refine KGO ?_
  refine GW ?_
  exact ⟨h, A, 1, rfl, r.keep K8', cp, zas (by unfold answerA; rw [if_pos (.inr c3)]), K8'⟩
 rw [decide_eq_true c3]
 have hres : answerA A o = .ok ({ A with seen := (seenA A.seen o).drop ((seenA A.seen o).length - 256) }, 0) := by
  unfold answerA
  rw [if_neg (fun q => q.elim c1 (fun q => q c3))]
 clear kr3 a1 a2
 obtain ⟨lx, hm, hs⟩ := r
 obtain ⟨na, nc, he, hrr⟩ := hs.now.n
 injection he with e1 e2 e3
 have a1 : At w5 b1 0 [.slice h.B.a h.B.n h.B.c, .slice h.M.a h.M.n h.M.c, .slice h.S.a h.S.n h.S.c, .string (str A.active), .slice na A.seen.length nc, .int .i64 A.nm, .int .i64 A.nb, .int .i64 A.st] := by
  have := v1.at
  unfold accC at this
  rw [e1, e2, e3] at this
  exact this
 have a2 := v2.at
 have kr5 := Kp.refl w5 n_
 refine KGO ?_
 refine Loop.intro (ι := Nat × Value) (fun p => [(2, .pointer (some ⟨b1, 0, none⟩)), (3, .pointer (some ⟨b2, 0, none⟩)), (4, .pointer (some ⟨b3, 0, none⟩)), (6, p.2), (7, .int .i64 (p.1 : Nat))])
  (fun p wr => Kp w5 wr n_ ∧ p.1 ≤ A.seen.length ∧ OwnSn wr w5.heap.size p.2 ((A.seen.take p.1).filter fun s => !decide (s.key = o.name))) (fun p => A.seen.length - p.1) (0, .slice none 0 0) ⟨rfl, rfl, rfl, rfl, rfl, trivial⟩ ⟨kr5, Nat.zero_le _, World.ownsRow_nil _ _ _ _⟩ ?_
 rintro ⟨i, vl⟩ gg wr ⟨hK, hi, ho⟩
 dsimp only at hi ho ⊢
 obtain ⟨va, vc, rfl⟩ := zab ho
 have hfl : ((A.seen.take i).filter fun s => !decide (s.key = o.name)).length ≤ 256 := Nat.le_trans (List.length_filter_le _ _) (by rw [List.length_take]; omega)
 clear kr5
 have a1r := zac a1 hK
 have a2r := zac a2 hK
 have krr := Kp.refl wr n_
 refine GW ?_
 refine KGO ?_
 by_cases hlt : i < A.seen.length
 ·obtain ⟨gb, ob, rfl, hgb, hat⟩ := hrr (by omega)
  have hat := zac hat (K5.trans0 hK)
  have hstep : ((A.seen.take (i + 1)).filter fun s => !decide (s.key = o.name)) = ((A.seen.take i).filter fun s => !decide (s.key = o.name)) ++ (if A.seen[i].key = o.name then [] else [A.seen[i]]) := by
   rw [List.take_succ_eq_append_getElem hlt, List.filter_append]
   by_cases q : A.seen[i].key = o.name <;> simp [q]
  have kdr : Kp wr wr.drew n_ := krr.drew
  by_cases hq : A.seen[i].key = o.name
  ·have hq2 : str A.seen[i].key = str o.name := by rw [hq]
   rw [if_pos hq, List.append_nil] at hstep
   refine KGO ?_
   exact ⟨(i + 1, _), ⟨rfl, rfl, rfl, rfl, v_int (by simp), trivial⟩, ⟨by first | exact hK | exact hK.drew, by dsimp only; omega, by dsimp only; rw [hstep]; exact ho⟩, by dsimp only; omega⟩
  ·have hq2 : ¬ str A.seen[i].key = str o.name := fun e => hq (zbm.1 e)
   rw [if_neg hq] at hstep
   have hxi := hstep
   refine KGO ?_
   refine RunV.of (zeH A.seen[i] _) ?_
   generalize A.seen[i] = x at *
   have k6 : Kp wr (wr.drew.alloc (.cells (snC x).toArray 78)) n_ := krr.drew.alloc _
   have h6 := zao wr.drew 78 (snC x)
   generalize wr.drew.alloc (.cells (snC x).toArray 78) = w6 at *
   generalize wr.drew.heap.size = g6 at *
   have o6 := zaf ho k6
   refine KGO ?_
   refine tySn.app1 x o6 (hK.trans0 k6).size h6 (by omega) (by omega) fun v7 w7 o7 k7 => ?_
   have K7 : Kp w5 w7 n_ := zaq o6 k7 w5 (hK.trans0 k6) (Nat.le_refl _)
   obtain ⟨a7, c7, rfl⟩ := zab o7
   refine KGO ?_
   exact ⟨(i + 1, _), ⟨rfl, rfl, rfl, rfl, v_int (by simp), trivial⟩, ⟨K7, by dsimp only; omega, by dsimp only; rw [hxi]; exact o7⟩, by dsimp only; omega⟩
 ·rw [List.take_of_length_le (show A.seen.length ≤ i by omega)] at ho hfl ⊢
  have hsl : (seenA A.seen o).length = (A.seen.filter fun s => !decide (s.key = o.name)).length + 1 := by unfold seenA; rw [List.length_append]; rfl
  have hsa : seenA A.seen o = (A.seen.filter fun s => !decide (s.key = o.name)) ++ [⟨o.name, o.at_⟩] := rfl
  generalize (A.seen.filter fun s => !decide (s.key = o.name)) = L at *
  refine KGO ?_
  refine RunV.of (zjy _ _ _) ?_
  refine KGO ?_
  refine RunV.of (zeH ⟨o.name, o.at_⟩ _) ?_
  have k6 : Kp wr (wr.alloc (.cells (snC ⟨o.name, o.at_⟩).toArray 78)) n_ := krr.alloc _
  have h6 := zao wr 78 (snC ⟨o.name, o.at_⟩)
  generalize wr.alloc (.cells (snC ⟨o.name, o.at_⟩).toArray 78) = w6 at *
  generalize wr.heap.size = g6 at *
  have o6 := zaf ho k6
  refine KGO ?_
  refine tySn.app1 ⟨o.name, o.at_⟩ o6 (hK.trans0 k6).size h6 (by omega) (by omega) fun v7 w7 o7 k7 => ?_
  have K7 : Kp w5 w7 n_ := zaq o6 k7 w5 (hK.trans0 k6) (Nat.le_refl _)
  rw [← hsa] at o7
  rcases own_blockK o7 with ⟨_, h0⟩ | ⟨g, cap, cells, rfl, hBg, hvg, hnc, hcm, hcl, htk⟩
  ·omega
  have v1 := v1.keep0 K7
  have v3 := v3.keep0 K7
  have kr7 := Kp.refl w7 n_
  have h1w5 : b1 < w5.heap.size := by have := (k_w2.trans0 (k_w3.trans0 k5)).size; omega
  have h3w5 : b3 < w5.heap.size := by have := k5.size; omega
  have st7 := zaB (E := 78) (c := snC) (s := 2) (l := seenA A.seen o) o7 (by decide) (by decide)
  clear a1r a2r krr a1 a2
  by_cases hbig : 256 < (seenA A.seen o).length
  ·have hd : (seenA A.seen o).length - 256 = 1 := by omega
   rw [hd] at hres
   refine KGO ?_
   refine Cut.from (l := 1) (by omega) hnc ?_
   refine GW ?_
   rw [if_neg (by omega : ¬ 1 = cap)]
   refine KGO ?_
   have sn7 : Stab w7 (fun u => RowO u (.slice (some ⟨g, 0 + 1 * 2, none⟩) ((seenA A.seen o).length - 1) (cap - 1)) snC ((seenA A.seen o).drop 1)) := st7.imp fun u q => zlL lenSn q
   refine SCK 4 v1 fun w8 v8 k8 => ?_
   have v8 : VarK w8 b1 36 (accC ⟨h.B, h.M, h.S, ⟨some ⟨g, 0 + 1 * 2, none⟩, (seenA A.seen o).length - 1, cap - 1⟩⟩ { A with seen := (seenA A.seen o).drop 1 }) := v8
   have v3 := v3.keep k8 (fun e => by have e : b3 = b1 := e; omega)
   have a8 := v8.at
   have kr8 := Kp.refl w8 n_
   clear kr7
   refine KGO ?_
   refine SVK (accC ⟨h.B, h.M, h.S, ⟨some ⟨g, 0 + 1 * 2, none⟩, (seenA A.seen o).length - 1, cap - 1⟩⟩ { A with seen := (seenA A.seen o).drop 1 }) v3 fun w9 v9 k9 => ?_
   have K9 : Kp w w9 n_ := zae (zae (K5.trans0 K7) k8 (by omega)) k9 (by omega)
   have hat := v9.at
   refine KGO ?_
   refine GW ?_
   refine KGO ?_
   refine GW ?_
   have s9 := hs.keep K9
   have n9 := (sn7.step v1 k8).step v3 k9
   exact ⟨_, _, 0, rfl, ⟨lx, hm, fun u ku => ⟨(s9 u ku).b, (s9 u ku).m, (s9 u ku).x, (s9 u ku).s, n9 u ku⟩⟩, ⟨cp.B, cp.M⟩, zba hres, K9⟩
  ·have hd : (seenA A.seen o).length - 256 = 0 := by omega
   rw [hd, List.drop_zero] at hres
   refine KGO ?_
   refine SCK 4 v1 fun w8 v8 k8 => ?_
   have v8 : VarK w8 b1 36 (accC ⟨h.B, h.M, h.S, ⟨some ⟨g, 0, none⟩, (seenA A.seen o).length, cap⟩⟩ { A with seen := seenA A.seen o }) := v8
   have v3 := v3.keep k8 (fun e => by have e : b3 = b1 := e; omega)
   have a8 := v8.at
   have kr8 := Kp.refl w8 n_
   clear kr7
   refine KGO ?_
   refine SVK (accC ⟨h.B, h.M, h.S, ⟨some ⟨g, 0, none⟩, (seenA A.seen o).length, cap⟩⟩ { A with seen := seenA A.seen o }) v3 fun w9 v9 k9 => ?_
   have K9 : Kp w w9 n_ := zae (zae (K5.trans0 K7) k8 (by omega)) k9 (by omega)
   have hat := v9.at
   refine KGO ?_
   refine GW ?_
   refine KGO ?_
   refine GW ?_
   have s9 := hs.keep K9
   have n9 := (st7.step v1 k8).step v3 k9
   exact ⟨_, _, 0, rfl, ⟨lx, hm, fun u ku => ⟨(s9 u ku).b, (s9 u ku).m, (s9 u ku).x, (s9 u ku).s, n9 u ku⟩⟩, ⟨cp.B, cp.M⟩, zba hres, K9⟩
end
end Go.Proofs.YtohhkegmbgancaaGreatDoor
