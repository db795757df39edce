/- Helper text of this claim: lemmas and contracts that the proved statement rests on; no conditions of its own. -/
import Derived.Test.YtohhkegmbgancaaGreatDoorGAh0
import Derived.Test.YtohhkegmbgancaaGreatDoorKit11
namespace Go.Proofs.YtohhkegmbgancaaGreatDoor
set_option maxHeartbeats 8000000
open Go.Shelf Go.RowKit Go.Pw Go.Vc Go.Cs Go.Lib
set_option linter.unusedVariables false
set_option maxRecDepth 100000
def newM (A : Acc) (o : Opr) : Ml := ⟨A.nm, o.blob, sortI o.boxes, sortT o.add, o.at_, o.size, A.st⟩
def NewI (w1 : World) (A : Acc) (o : Opr) (p : Nat × Sl × Sl) (u : World) : Prop :=
 Kp w1 u n_ ∧ OwnI u w1.heap.size p.2.1.v (sortI o.boxes) ∧ OwnT u w1.heap.size p.2.2.v (sortT o.add) ∧ Apart p.2.1.v p.2.2.v ∧ VarK u p.1 42 (mrC ⟨newM A o, p.2.1, p.2.2⟩) ∧ w1.heap.size ≤ p.1
theorem op_dg {w : World} {b : Nat} {v : Ov} {o : Opr} (h : At w b 0 (opC v o)) : At w b (0 + 7) (dgC o.blob) := fun i u hi => by
 have hl : (dgC o.blob).length = 32 := rfl
 have hi2 : i < 32 := by have := (List.getElem?_eq_some_iff.1 hi).1; omega
 have := h (7 + i) u (by
  unfold opC
  rw [List.getElem?_append_right (by simp), show 7 + i - List.length [Value.int .i64 o.kind, .int .i64 o.id, .int .i64 o.box, .int .i64 o.up, .string (str o.name), .string (str o.role), .string (str o.text)] = i by simp, List.getElem?_append_left (by omega)]
  exact hi)
 rw [show 0 + (7 + i) = 0 + 7 + i by omega] at this
 exact this
theorem zch (m : Ml) (b f : Sl) (w : World) : (Instr.build 42 [(0, .int .i64 m.id), (1, .agg (dgC m.blob).toArray), (2, .slice b.a b.n b.c), (3, .slice f.a f.n f.c), (4, .int .i64 m.at_), (5, .int .i64 m.size), (6, .int .i64 m.mod)].toArray).run Tryz.prog w = .ok (.agg (mrC ⟨m, b, f⟩).toArray) w := by
 simp [Instr.build, Instr.fill, go_sem, Tryz.runUnderlying42, mrC, dgC]
theorem bs_mem {x : Mr} {q : Nat} (h : q ∈ x.bs) : x.b.v.ownBlock = some q ∨ x.f.v.ownBlock = some q := by
 unfold Mr.bs at h
 rwa [List.mem_append, zaz, zaz] at h
theorem zdx (x : Mr) (w : World) : (Instr.buildSlice 32 1 [(0, .agg (mrC x).toArray)].toArray).run Tryz.prog w = .ok (.slice (some ⟨w.heap.size, 0, none⟩) 1 1) (w.alloc (.cells (mrC x).toArray 42)) := by
 simp [Instr.buildSlice, go_sem, Tryz.runUnderlying32, mrC, dgC]
theorem zpA {K : Value → World → Prop} {B vb : Nat} {v : Value} {l : List Mr} {cs : Array Bool} {w : World} (h : OwnMl w B v l) (hB : B ≤ w.heap.size) (z : Mr) (hvb : VarK w vb 42 (mrC z)) (hl : l.length ≤ 1000000)
  (k : ∀ v' w', OwnMl w' B v' (l ++ [z]) → Kp w w' (own_ v) → K v' w') :
  RunN Tryz.prog (builtin .append #[32, 32] 32 cs [v, .slice (some ⟨vb, 0, none⟩) 1 1].toArray) w K := by
 refine RunN.app Tryz.underlying32 infoMl rfl (by decide) h hB ⟨vb, 0, none⟩ 1 1 (mrC z) rfl (hvb.cells w 0 fun j u h => by simpa using h) (by have := oneMl [z]; simpa using this) (by omega) (by omega) fun v' w' h2 h3 => k v' w' ?_ ?_
 ·unfold OwnMl
  rw [List.length_append, List.flatMap_append]
  simpa using h2
 ·exact ⟨h3.os, h3.tape, h3.output, h3.size, fun i hi hn => h3.block i hi (fun e => hn e.symm)⟩
section
variable {w : World}
theorem zon {B b : Nat} {h : Hd} {lx : List Mr} {A : Acc} {v : Ov} {o : Opr} (hd : Drf w B b h lx A) (hf : Fit A) (ho : OpR w v o) (fo : FitO o) :
  Calls Tryz.prog 26 #[.pointer (some ⟨b, 0, none⟩), .agg (opC v o).toArray] w fun e w' => Done w' b e (mailA A o) ∧ Kp w w' (from_ B) := by
 have fml := hf.ml
 have fob := fo.b
 have foa := fo.a
 have fnm := hf.nm
 have hbn : v.b.n = o.boxes.length := by
  obtain ⟨a, c, e, _⟩ := ho.b
  injection e
 have hnil : o.boxes = [] ↔ v.b.n = 0 := by rw [hbn, List.length_eq_zero_iff]
 refine zaa (args := [.pointer (some ⟨b, 0, none⟩), .agg (opC v o).toArray]) Tryz.func26 rfl NL ?_; refine GW ?_
 obtain ⟨a_b1, v_b1, k_w1, z_w1, r_w1⟩ := new5 w 28 (opC v o)
 generalize w.alloc (.cells (List.toArray (opC v o)) 28) = w1 at *
 generalize hs_b1 : w.heap.size = b1 at *
 have hd1 := hd.keep k_w1
 have hdA := hd1.v.at
 have hdg : At w1 b1 (0 + 7) (dgC o.blob) := op_dg a_b1
 refine KGO ?_
 refine Draw.cut (ι := Nat × Sl × Sl) (fun p => [(0, .pointer (some ⟨b, 0, none⟩)), (3, .pointer (some ⟨b1, 0, none⟩)), (6, .pointer (some ⟨p.1, 0, none⟩))]) (NewI w1 A o) ?_ ?_
 ·refine Draw.float2 (fun u => Kp w1 u n_) (fun _ => true) 9 12 (by decide +kernel) (Kp.refl _ _).drew ?_
  refine GW ?_
  refine KGO ?_
  refine ⟨rfl, ?_, ?_⟩
  ·refine GW ?_
   refine KGO ?_
   obtain ⟨a_bm, v_bm, k_w2, z_w2, r_w2⟩ := new5 w1.drew 42 (zMl)
   generalize w1.drew.alloc (.cells (List.toArray (zMl)) 42) = w2 at *
   generalize hs_bm : w1.drew.heap.size = bm at *
   have K2 : Kp w1 w2 n_ := (Kp.refl w1 n_).drew.trans0 k_w2
   refine ⟨K2, ?_⟩
   refine KGO ?_
   refine CallS.of (Tryz.call71 _ _) (zdU (w := w2) o.boxes (ho.b.keep (k_w1.trans0 K2)) (by omega)) ?_
   rintro e w3 ⟨vi, rfl, oi, ki⟩
   obtain ⟨ai, ci, rfl⟩ := zab oi
   have K3 : Kp w1 w3 n_ := Kp.trans0 K2 ki
   have oi := zaj oi (Kp.size K2)
   refine RT ?_
   refine ⟨K3, ?_⟩
   refine KGO ?_
   refine CallS.of (Tryz.call72 _ _) (zcM (w := w3) o.add (ho.a.keep (k_w1.trans0 K3)) (by omega)) ?_
   rintro e w4 ⟨vt, rfl, ot, kt⟩
   obtain ⟨at', ct, rfl⟩ := zab ot
   have apt := zcl oi ot (by first | exact Nat.le_refl _ | exact Kp.size k_w3')
   have K4 : Kp w1 w4 n_ := Kp.trans0 K3 kt
   have ot := zaj ot (Kp.size K3)
   refine RT ?_
   refine ⟨K4, ?_⟩
   refine KGO ?_
   have oi4 := zaf oi kt
   have vm := v_bm.keep0 (ki.trans0 kt)
   have hzb : w1.heap.size ≤ bm := by rw [← hs_bm]; exact Nat.le_refl _
   refine RunV.of (zch (newM A o) ⟨ai, _, ci⟩ ⟨at', _, ct⟩ _) ?_
   refine KGO ?_
   refine SVK (mrC ⟨newM A o, ⟨ai, _, ci⟩, ⟨at', _, ct⟩⟩) vm fun w7 vr k7 => ?_
   refine ⟨zae K4 k7 hzb, ?_⟩
   refine KGO ?_
   have n1 := zau oi4 vm (by decide)
   have n2 := zau ot vm (by decide)
   exact ⟨(bm, ⟨ai, _, ci⟩, ⟨at', _, ct⟩), ⟨rfl, rfl, rfl, trivial⟩, zae K4 k7 hzb, zcb oi4 k7 n1, zcb ot k7 n2, apt, vr, hzb⟩
  ·refine GW ?_
   refine KGO ?_
   have K2 : Kp w1 w1.drew n_ := (Kp.refl w1 n_).drew
   refine CallS.of (Tryz.call71 _ _) (zdU (w := w1.drew) o.boxes (ho.b.keep (k_w1.trans0 K2)) (by omega)) ?_
   rintro e w3 ⟨vi, rfl, oi, ki⟩
   obtain ⟨ai, ci, rfl⟩ := zab oi
   have K3 : Kp w1 w3 n_ := Kp.trans0 K2 ki
   have oi := zaj oi (Kp.size K2)
   refine RT ?_
   refine ⟨K3, ?_⟩
   refine KGO ?_
   refine ⟨rfl, ?_, ?_⟩
   ·refine GW ?_
    refine KGO ?_
    obtain ⟨a_bm, v_bm, k_w3', z_w3', r_w3'⟩ := new5 w3 42 (zMl)
    generalize w3.alloc (.cells (List.toArray (zMl)) 42) = w3' at *
    generalize hs_bm : w3.heap.size = bm at *
    have K3' : Kp w1 w3' n_ := K3.trans0 k_w3'
    refine ⟨K3', ?_⟩
    refine KGO ?_
    refine CallS.of (Tryz.call72 _ _) (zcM (w := w3') o.add (ho.a.keep (k_w1.trans0 K3')) (by omega)) ?_
    rintro e w4 ⟨vt, rfl, ot, kt⟩
    obtain ⟨at', ct, rfl⟩ := zab ot
    have apt := zcl oi ot (by first | exact Nat.le_refl _ | exact Kp.size k_w3')
    have K4 : Kp w1 w4 n_ := Kp.trans0 K3' kt
    have ot := zaj ot (Kp.size K3')
    refine RT ?_
    refine ⟨K4, ?_⟩
    refine KGO ?_
    have oi4 := zaf (zaf oi k_w3') kt
    have vm := v_bm.keep0 kt
    have hzb : w1.heap.size ≤ bm := by rw [← hs_bm]; exact K3.size
    refine RunV.of (zch (newM A o) ⟨ai, _, ci⟩ ⟨at', _, ct⟩ _) ?_
    refine KGO ?_
    refine SVK (mrC ⟨newM A o, ⟨ai, _, ci⟩, ⟨at', _, ct⟩⟩) vm fun w7 vr k7 => ?_
    refine ⟨zae K4 k7 hzb, ?_⟩
    refine KGO ?_
    have n1 := zau oi4 vm (by decide)
    have n2 := zau ot vm (by decide)
    exact ⟨(bm, ⟨ai, _, ci⟩, ⟨at', _, ct⟩), ⟨rfl, rfl, rfl, trivial⟩, zae K4 k7 hzb, zcb oi4 k7 n1, zcb ot k7 n2, apt, vr, hzb⟩
   ·refine GW ?_
    refine KGO ?_
    refine CallS.of (Tryz.call72 _ _) (zcM (w := w3) o.add (ho.a.keep (k_w1.trans0 K3)) (by omega)) ?_
    rintro e w4' ⟨vt, rfl, ot, kt⟩
    obtain ⟨at', ct, rfl⟩ := zab ot
    have apt := zcl oi ot (by first | exact Nat.le_refl _ | exact Kp.size k_w3')
    have K4' : Kp w1 w4' n_ := Kp.trans0 K3 kt
    have ot := zaj ot (Kp.size K3)
    refine RT ?_
    refine ⟨K4', ?_⟩
    refine KGO ?_
    refine RunV.of (zch (newM A o) ⟨ai, _, ci⟩ ⟨at', _, ct⟩ _) ?_
    refine KGO ?_
    obtain ⟨a_bm, v_bm, k_w4, z_w4, r_w4⟩ := new5 w4' 42 (zMl)
    generalize w4'.alloc (.cells (List.toArray (zMl)) 42) = w4 at *
    generalize hs_bm : w4'.heap.size = bm at *
    have K4 : Kp w1 w4 n_ := K4'.trans0 k_w4
    refine ⟨K4, ?_⟩
    refine KGO ?_
    have oi4 := zaf (zaf oi kt) k_w4
    have ot := zaf ot k_w4
    have vm := v_bm
    have hzb : w1.heap.size ≤ bm := by rw [← hs_bm]; exact K4'.size
    refine SVK (mrC ⟨newM A o, ⟨ai, _, ci⟩, ⟨at', _, ct⟩⟩) vm fun w7 vr k7 => ?_
    refine ⟨zae K4 k7 hzb, ?_⟩
    refine KGO ?_
    have n1 := zau oi4 vm (by decide)
    have n2 := zau ot vm (by decide)
    exact ⟨(bm, ⟨ai, _, ci⟩, ⟨at', _, ct⟩), ⟨rfl, rfl, rfl, trivial⟩, zae K4 k7 hzb, zcb oi4 k7 n1, zcb ot k7 n2, apt, vr, hzb⟩
 ·rintro ⟨bm, sb, sf⟩ g w2 ⟨K12, ob, of, ap, vm, hbm⟩
  dsimp only at ob of ap vm hbm
  have K2 := k_w1.trans0 K12
  have a2 := zac a_b1 K12
  have kr2 := Kp.refl w2 n_
  have hsn : sf.n = (sortT o.add).length := by
   obtain ⟨a, c, e⟩ := zab of
   injection e
  have hMn : h.M.n = A.mails.length := by
   obtain ⟨a, c, e⟩ := zab hd.o.m
   have e2 := congrArg List.length hd.o.ml
   rw [List.length_map] at e2
   injection e with _ e _
   rw [e]; exact e2
  refine GW ?_
  by_cases h1 : v.b.n = 0
  ·have hres : mailA A o = .error 1 := by unfold mailA; rw [if_pos (.inl (hnil.2 h1))]
   refine KGO ?_
   exact ⟨by rw [hres]; rfl, K2.of_none⟩
  refine KGO ?_
  refine CallS.of (Tryz.call73 _ _) (zeq (w := w2) o.add (ho.a.keep K2) (by omega) fo.fa) ?_
  rintro e w3 ⟨rfl, k3⟩
  have K3 := K2.trans0 k3
  have a3 := zac a2 k3
  have kr3 := Kp.refl w3 n_
  refine RT ?_
  by_cases h2 : flagsB o.add = true
  rotate_left
  ·have h2 : flagsB o.add = false := by simpa using h2
   have hres : mailA A o = .error 1 := by unfold mailA; rw [if_pos (.inr (.inl h2))]
   rw [h2]
   refine KGO ?_
   exact ⟨by rw [hres]; rfl, K3.of_none⟩
  rw [h2]
  refine KGO ?_
  refine CallS.of (Tryz.call38 _ _) (zbR (w := w3) o.at_ 0 1099511627776) ?_
  rintro e w3' ⟨rfl, rfl⟩
  refine RT ?_
  by_cases h3 : 0 ≤ o.at_ ∧ o.at_ ≤ 1099511627776
  rotate_left
  ·have hres : mailA A o = .error 1 := by unfold mailA; rw [if_pos (.inr (.inr (.inl h3)))]
   rw [show decide (0 ≤ o.at_ ∧ o.at_ ≤ 1099511627776) = false from decide_eq_false h3]
   refine KGO ?_
   exact ⟨by rw [hres]; rfl, K3.of_none⟩
  rw [show decide (0 ≤ o.at_ ∧ o.at_ ≤ 1099511627776) = true from decide_eq_true h3]
  refine KGO ?_
  refine CallS.of (Tryz.call38 _ _) (zbR (w := w3) o.size 0 65536) ?_
  rintro e w3' ⟨rfl, rfl⟩
  refine RT ?_
  by_cases h4 : 0 ≤ o.size ∧ o.size ≤ 65536
  rotate_left
  ·have hres : mailA A o = .error 1 := by unfold mailA; rw [if_pos (.inr (.inr (.inr h4)))]
   rw [show decide (0 ≤ o.size ∧ o.size ≤ 65536) = false from decide_eq_false h4]
   refine KGO ?_
   exact ⟨by rw [hres]; rfl, K3.of_none⟩
  rw [show decide (0 ≤ o.size ∧ o.size ≤ 65536) = true from decide_eq_true h4]
  have hz1 : ¬ (o.boxes = [] ∨ flagsB o.add = false ∨ ¬ (0 ≤ o.at_ ∧ o.at_ ≤ 1099511627776) ∨ ¬ (0 ≤ o.size ∧ o.size ≤ 65536)) := by
   rintro (q | q | q | q)
   ·exact h1 (hnil.1 q)
   ·rw [h2] at q; cases q
   ·exact q h3
   ·exact q h4
  have hdA3 := zac hdA (K12.trans0 k3)
  refine KGO ?_
  refine CallS.of (Tryz.call74 _ _) (zgT (w := w3.drew) (h := h) (A := A) o.boxes (hd.o.read.b.keep K3.drew) (by have := hf.bl; omega) (ho.b.keep K3.drew) (by omega)) ?_
  rintro e w4 ⟨rfl, k4⟩
  have J4 : Kp w3 w4 n_ := (Kp.refl w3 n_).drew.trans0 k4
  have K4 := K3.trans0 J4
  refine RT ?_
  by_cases h5 : thereB A.boxes o.boxes = true
  rotate_left
  ·have h5 : thereB A.boxes o.boxes = false := by simpa using h5
   have hres : mailA A o = .error 5 := by unfold mailA; rw [if_neg hz1, if_pos h5]
   rw [h5]
   refine KGO ?_
   exact ⟨by rw [hres]; rfl, K4.of_none⟩
  rw [h5]
  have vm4 := vm.keep0 (k3.trans0 J4)
  have hm4 : At w4 bm 0 (Value.int .i64 A.nm :: (dgC o.blob ++ [.slice sb.a sb.n sb.c, .slice sf.a (sortT o.add).length sf.c, .int .i64 o.at_, .int .i64 o.size, .int .i64 A.st])) := by have := vm4.at; unfold mrC at this; rw [← hsn]; exact this
  have hdA4 := zac hdA3 J4
  have kr4 := Kp.refl w4 n_
  by_cases h6 : 4096 ≤ A.mails.length ∨ 20 < (sortT o.add).length ∨ 1099511627776 ≤ A.nm
  ·have hres : mailA A o = .error 3 := by unfold mailA; rw [if_neg hz1, if_neg (by rw [h5]; simp), if_pos h6]
   by_cases h7 : 4096 ≤ A.mails.length
   ·refine KGO ?_
    exact ⟨by rw [hres]; rfl, K4.of_none⟩
   by_cases h8 : 20 < (sortT o.add).length
   ·refine KGO ?_
    exact ⟨by rw [hres]; rfl, K4.of_none⟩
   have h9 : 1099511627776 ≤ A.nm := by omega
   refine KGO ?_
   exact ⟨by rw [hres]; rfl, K4.of_none⟩
  have hres : mailA A o = .ok ({ A with mails := A.mails ++ [newM A o], nm := A.nm + 1 }, A.nm) := by unfold mailA; rw [if_neg hz1, if_neg (by rw [h5]; simp), if_neg h6]; rfl
  have h7 : ¬ 4096 ≤ A.mails.length := by omega
  have h8 : ¬ 20 < (sortT o.add).length := by omega
  have h9 : ¬ 1099511627776 ≤ A.nm := by omega
  refine KGO ?_
  have hown : ∀ q, own_ h.M.v q → q < b := fun q hq => hd.lt q (Hd.all_m hq)
  have hbw : b < w.heap.size := hd.v.lt
  have hsz1 : w1.heap.size = b1 + 1 := z_w1
  have hS2 : ∀ u, Kp w4 u (own_ h.M.v) → At u b 0 (accC h A) := fun u hu => zaM hdA4 hu fun e => by have := hown b e; omega
  have hS3 : ∀ u, Kp w4 u (own_ h.M.v) → At u bm 0 (mrC ⟨newM A o, sb, sf⟩) := fun u hu => zaM vm4.at hu fun e => by have := hown bm e; omega
  refine Draw.heldEnd (fun u => Kp w4 u (own_ h.M.v)) (fun _ => true) (by simp) (by decide +kernel) (by decide +kernel) (Kp.refl _ _).drew ?_
  refine KGO ?_
  refine Held.one (by rfl) (fun u hu => hS2 u hu 1 _ rfl) ?_
  refine KGO ?_
  refine HeldG (mrC ⟨newM A o, sb, sf⟩) (by rfl) (by rfl) (fun u hu => hS3 u hu) (by rfl) ?_
  refine KGO ?_
  refine RunV.of (zdx ⟨newM A o, sb, sf⟩ _) ?_
  have vb := VarK.new w4.drew 42 (mrC ⟨newM A o, sb, sf⟩)
  have k5 : Kp w4 (w4.drew.alloc (.cells (mrC ⟨newM A o, sb, sf⟩).toArray 42)) n_ := (Kp.refl w4 n_).drew.alloc _
  generalize w4.drew.alloc (.cells (mrC ⟨newM A o, sb, sf⟩).toArray 42) = w5 at *
  generalize w4.drew.heap.size = vbk at *
  refine ⟨k5.of_none, ?_⟩
  refine KGO ?_
  have K5 := K4.trans0 k5
  have hd5 := hd.keep K5
  have hlx : lx.length = A.mails.length := by rw [← hd.o.ml, List.length_map]
  refine zpA hd5.o.m (by have := hd5.B; have := hd5.v.lt; omega) ⟨newM A o, sb, sf⟩ vb (by omega) fun v6 w6 o6 k6 => ?_
  obtain ⟨a6, c6, rfl⟩ := zab o6
  refine ⟨k5.of_none.trans' k6, ?_⟩
  have vA := hd5.v.keep k6 fun e => by have := hown b e; omega
  have K46 : Kp w1 w5 n_ := (K12.trans0 k3).trans0 (J4.trans0 k5)
  have obx := zah (zaf ob ((k3.trans0 J4).trans0 k5)) k6 fun q hq e => by have := (ob.lt q hq).1; have := hown q e; omega
  have ofx := zah (zaf of ((k3.trans0 J4).trans0 k5)) k6 fun q hq e => by have := (of.lt q hq).1; have := hown q e; omega
  have vm6 := (vm4.keep0 k5).keep k6 fun e => by have := hown bm e; omega
  have P := hd5.o.setM (v := ⟨a6, _, c6⟩) k6 o6 (l := A.mails ++ [newM A o]) (by rw [List.map_append, hd.o.ml]; rfl) fun y hy => by
   rcases List.mem_append.1 hy with hy | hy
   ·exact .inl hy
   ·rw [List.mem_singleton.1 hy]
    exact .inr ⟨zaj obx (Nat.zero_le _), zaj ofx (Nat.zero_le _)⟩
  have hnb := zau o6 vA (by decide)
  refine KGO ?_
  refine SCK 1 vA fun w7 v7 k7 => ?_
  have hd7 := v7.at
  refine KGO ?_
  refine SCK 5 v7 fun w8 v8 k8 => ?_
  have k78 := k7.trans' k8
  have hm8 := (vm6.keep k78 fun e => by have e : bm = b := e; omega).at
  refine KGO ?_
  have v8' : VarK w8 b 65 (accC { h with M := ⟨a6, (lx ++ [(⟨newM A o, sb, sf⟩ : Mr)]).length, c6⟩ } { A with mails := A.mails ++ [newM A o], nm := A.nm + 1 }) := v8
  have P' : AccP w6 { h with M := ⟨a6, (lx ++ [(⟨newM A o, sb, sf⟩ : Mr)]).length, c6⟩ } (lx ++ [⟨newM A o, sb, sf⟩]) { A with mails := A.mails ++ [newM A o], nm := A.nm + 1 } := ⟨P.b, P.s, P.n, P.m, P.ml, P.mb⟩
  have kf : Kp w w8 (from_ B) := (K5.of_none.trans' (k6.mono fun q _ hq => (hd.o.m.lt q hq).1)).trans' (k78.mono fun q _ hq => by
   have e : q = b := hq
   have := hd.B
   show B ≤ q
   omega)
  have hfin : ∃ h', VarK w8 b 65 (accC h' { A with mails := A.mails ++ [newM A o], nm := A.nm + 1 }) ∧ AccR w8 h' { A with mails := A.mails ++ [newM A o], nm := A.nm + 1 } ∧ StabA w8 h' { A with mails := A.mails ++ [newM A o], nm := A.nm + 1 } := zeb v8' P' k78 fun q hq => by
   unfold Hd.all Hd.bs at hq
   simp only [List.mem_append, zaz] at hq
   rcases hq with (((hq | hq) | hq) | hq) | hq
   ·have := hd.lt q (Hd.all_b hq); omega
   ·have := hd.lt q (Hd.all_s hq); omega
   ·have := hd.lt q (Hd.all_n hq); omega
   ·exact hnb q hq
   ·obtain ⟨x, hx, hq⟩ := List.mem_flatMap.1 hq
    rcases List.mem_append.1 hx with hx | hx
    ·exact Nat.ne_of_lt (hd.lt q (List.mem_append_right _ (List.mem_flatMap.2 ⟨x, hx, hq⟩)))
    ·rw [List.mem_singleton.1 hx] at hq
     rcases bs_mem hq with hq | hq
     ·exact fun e => absurd (ob.lt q hq).1 (by rw [e]; omega)
     ·exact fun e => absurd (of.lt q hq).1 (by rw [e]; omega)
  rw [hres]
  exact ⟨⟨rfl, hfin⟩, kf⟩
end
theorem zfI {z : Int} : ∀ {l : List Int} {k : Nat} (hk : k < l.length), l[k] = z → (∀ j (hj : j < k), (l[j]'(by omega)) ≠ z) → l.erase z = l.take k ++ l.drop (k + 1)
 | [], k, hk, _, _ => by simp at hk
 | a :: r, 0, hk, he, _ => by
  have he : a = z := he
  subst he
  simp
 | a :: r, k + 1, hk, he, hn => by
  have h0 : a ≠ z := hn 0 (by omega)
  rw [List.erase_cons_tail (by simpa using h0), zfI (l := r) (k := k) (by simpa using hk) he fun j hj => hn (j + 1) (by omega)]
  rfl
theorem zlh {zs : List Mr} {i : Nat} {x : Mr} (hi : i < zs.length) (h : x.bs = zs[i].bs) : (zs.set i x).flatMap Mr.bs = zs.flatMap Mr.bs := by
 rw [List.flatMap_def, List.flatMap_def, List.map_set, h]
 congr 1
 apply List.ext_getElem (by simp)
 intro j h1 h2
 rw [List.getElem_set]
 split
 ·rename_i e
  subst e
  rw [List.getElem_map]
 ·rfl
section
variable {w w4 w6 : World} {B b g i : Nat} {h : Hd} {zs : List Mr} {A : Acc} {x : Mr}
theorem Drf.turn (d : Drf w B b h zs A) (hi : i < zs.length) (hg : h.M.v.ownBlock = some g) (hbb : x.b.v.ownBlock = zs[i].b.v.ownBlock) (hff : x.f = zs[i].f) (hmf : x.m.flags = zs[i].m.flags)
  (k1 : Kp w w4 (own_ zs[i].b.v)) (oi : OwnI w4 B x.b.v x.m.boxes) (k2 : Kp w4 w6 (one_ g)) (o6 : OwnMl w6 B h.M.v (zs.set i x)) : Drf w6 B b h (zs.set i x) { A with mails := (zs.set i x).map (·.m) } := by
 have o := d.o
 obtain ⟨n1, n2, n3, n4⟩ := nd4 o.nd
 have hnd := (List.nodup_append.1 o.nd).2.1
 unfold List.Nodup at hnd
 rw [List.pairwise_flatMap] at hnd
 obtain ⟨p1, p2⟩ := hnd
 have hbs : x.bs = zs[i].bs := by unfold Mr.bs; rw [hbb, hff]
 have hib : ∀ q, own_ zs[i].b.v q → q ∈ zs.flatMap Mr.bs := fun q hq => List.mem_flatMap.2 ⟨_, List.getElem_mem hi, by unfold Mr.bs; rw [List.mem_append, zaz]; exact .inl hq⟩
 have hgx : ∀ q, q ∈ zs.flatMap Mr.bs → q ≠ g := fun q hq e => n4 g hg (e ▸ hq)
 have hrow : ∀ {s n : Nat} {e : TypeId} {v : Value} {xs : List Value}, w.ownsRow B e s v n xs → (∀ q, v.ownBlock = some q → q ∉ zs.flatMap Mr.bs ∧ q ≠ g) → w6.ownsRow B e s v n xs := fun ho hne =>
  zah (zah ho k1 fun q hq e => (hne q hq).1 (hib q e)) k2 fun q hq e => (hne q hq).2 e
 refine ⟨(d.v.keep k1 fun e => by have := d.lt b (List.mem_append_right _ (hib b e)); omega).keep k2 fun e => by have e : b = g := e; have := d.lt g (Hd.all_m hg); omega, ⟨?_, ?_, ?_, o6, rfl, ?_, ?_⟩, ?_, d.B⟩
 ·exact hrow o.b fun q hq => ⟨(n1 q hq).2.2.2, fun e => (n1 q hq).2.2.1 (e ▸ hg)⟩
 ·exact hrow o.s fun q hq => ⟨(n2 q hq).2.2, fun e => (n2 q hq).2.1 (e ▸ hg)⟩
 ·exact hrow o.n fun q hq => ⟨(n3 q hq).2, fun e => (n3 q hq).1 (e ▸ hg)⟩
 ·intro y hy
  obtain ⟨j, hj, rfl⟩ := List.getElem_of_mem hy
  rw [List.length_set] at hj
  rw [List.getElem_set]
  by_cases e : i = j
  ·rw [if_pos e]
   have hxi := o.mb zs[i] (List.getElem_mem hi)
   refine ⟨zah oi k2 fun q hq e => hgx q (hib q (by rw [hbb] at hq; exact hq)) e, ?_⟩
   rw [hff, hmf]
   refine zah (zah hxi.2 k1 fun q hq e => ?_) k2 fun q hq e => ?_
   ·have := p1 zs[i] (List.getElem_mem hi)
    unfold Mr.bs at this
    exact (List.pairwise_append.1 this).2.2 q (zaz.2 e) q (zaz.2 hq) rfl
   ·exact hgx q (List.mem_flatMap.2 ⟨_, List.getElem_mem hi, by unfold Mr.bs; rw [List.mem_append, zaz, zaz]; exact .inr hq⟩) e
  ·rw [if_neg e]
   have hxj := o.mb zs[j] (List.getElem_mem hj)
   have hdis : ∀ q, q ∈ zs[j].bs → ¬ own_ zs[i].b.v q := fun q hq hq2 => by
    have hq2 : q ∈ zs[i].bs := by unfold Mr.bs; rw [List.mem_append, zaz]; exact .inl hq2
    rcases Nat.lt_or_gt_of_ne e with e | e
    ·exact (List.pairwise_iff_getElem.1 p2) i j hi hj e q hq2 q hq rfl
    ·exact (List.pairwise_iff_getElem.1 p2) j i hj hi e q hq q hq2 rfl
   have hjm : ∀ q, q ∈ zs[j].bs → q ≠ g := fun q hq => hgx q (List.mem_flatMap.2 ⟨_, List.getElem_mem hj, hq⟩)
   have hb : ∀ q, zs[j].b.v.ownBlock = some q → q ∈ zs[j].bs := fun q hq => by unfold Mr.bs; rw [List.mem_append, zaz]; exact .inl hq
   have hf : ∀ q, zs[j].f.v.ownBlock = some q → q ∈ zs[j].bs := fun q hq => by unfold Mr.bs; rw [List.mem_append, zaz, zaz]; exact .inr hq
   exact ⟨zah (zah hxj.1 k1 fun q hq e => hdis q (hb q hq) e) k2 fun q hq e => hjm q (hb q hq) e, zah (zah hxj.2 k1 fun q hq e => hdis q (hf q hq) e) k2 fun q hq e => hjm q (hf q hq) e⟩
 ·rw [zlh hi hbs]; exact o.nd
 ·rw [zlh hi hbs]; exact d.lt
end
section
variable {w : World}
theorem zoQ {B b : Nat} {h : Hd} {lx : List Mr} {A : Acc} {v : Ov} {o : Opr} (hd : Drf w B b h lx A) (hf : Fit A) (hE : BEnv w) :
  Calls Tryz.prog 33 #[.pointer (some ⟨b, 0, none⟩), .agg (opC v o).toArray] w fun e w' => Done w' b e (dropA A o) ∧ Kp w w' (from_ B) := by
 have fml := hf.ml
 have fbl := hf.bl
 have fmb := hf.mb
 have hlx : lx.length = A.mails.length := by rw [← hd.o.ml, List.length_map]
 have hbw : b < w.heap.size := hd.v.lt
 have hBb := hd.B
 have hMn : h.M.n = lx.length := by
  obtain ⟨a, c, e⟩ := zab hd.o.m
  injection e
 refine zaa (args := [.pointer (some ⟨b, 0, none⟩), .agg (opC v o).toArray]) Tryz.func33 rfl NL ?_; refine GW ?_
 obtain ⟨a_b1, v_b1, k_w1, z_w1, r_w1⟩ := new5 w 28 (opC v o)
 generalize w.alloc (.cells (List.toArray (opC v o)) 28) = w1 at *
 generalize hs_b1 : w.heap.size = b1 at *
 have hdA := hd.v.at
 refine KGO ?_
 refine CallS.of (Tryz.call83 _ _) (zoF (w := w1.drew) A.boxes o.box (hd.o.read.b.keep k_w1.drew) hf.bl hf.bs (hE.keep k_w1.drew)) ?_
 rintro e w2 ⟨v2, rfl, o2, k2⟩
 have K2 := k_w1.drew.trans0 k2
 have hz1 := k_w1.drew.size
 obtain ⟨a2, c2, rfl⟩ := zab o2
 refine RT ?_
 by_cases h2 : (dropL A.boxes o.box).2 = 0
 rotate_left
 ·have hres : dropA A o = .error (dropL A.boxes o.box).2 := by unfold dropA; rw [if_pos h2]
  generalize dropL A.boxes o.box = r at *
  refine KGO ?_
  exact ⟨by rw [hres]; rfl, K2.of_none⟩
 have hd2 := hd.keep K2
 have hdA2 := hd2.v.at
 have hrB := hd2.o.read.b
 have hBn := RowO.len hrB
 obtain ⟨aB, capB, heB, hrrB⟩ := hrB
 have aa := hdA2
 unfold accC at aa
 have hBn : h.B.n = A.boxes.length := hBn
 rw [hBn] at aa
 rw [h2]
 refine KGO ?_
 refine Loop.intro (ι := Nat) (fun i => [(0, .pointer (some ⟨b, 0, none⟩)), (3, .pointer (some ⟨b1, 0, none⟩)), (6, .slice a2 (dropL A.boxes o.box).1.length c2), (33, .slice h.B.a A.boxes.length h.B.c), (34, .int .i64 (A.boxes.length : Nat)), (35, .int .i64 (i : Nat))])
  (fun i wr => Kp w2 wr n_ ∧ i ≤ A.boxes.length ∧ ((A.boxes.take i).any fun b => decide (b.id = o.box ∧ b.role = inB)) = false) (fun i => A.boxes.length - i) 0 ⟨rfl, rfl, rfl, rfl, rfl, rfl, trivial⟩ ⟨Kp.refl _ _, Nat.zero_le _, rfl⟩ ?_
 rintro i gg wr ⟨hK, hi, hany⟩
 have K3 := K2.trans0 hK
 have kr := Kp.refl wr n_
 have ab1 := zac a_b1 ((Kp.refl w1 n_).drew.trans0 (k2.trans0 hK))
 refine GW ?_
 by_cases hlt : i < A.boxes.length
 ·obtain ⟨gb, ob, hax, hgb, hat⟩ := hrrB (by omega)
  have hra : h.B.a = some ⟨gb, ob, none⟩ := by injection heB with heB; rw [heB, hax]
  rw [hra]
  have hat := zac hat hK
  have htk := List.take_succ_eq_append_getElem hlt
  have hany' : ((A.boxes.take (i + 1)).any fun b => decide (b.id = o.box ∧ b.role = inB)) = decide (A.boxes[i].id = o.box ∧ A.boxes[i].role = inB) := by
   rw [htk, List.any_append, hany]; simp
  have hres0 : decide (A.boxes[i].id = o.box ∧ A.boxes[i].role = inB) = true → dropA A o = .error 20 := fun hq => by
   unfold dropA
   rw [if_neg (fun e => e h2), if_pos (List.any_eq_true.2 ⟨_, List.getElem_mem hlt, hq⟩)]
  refine KGO ?_
  generalize A.boxes[i] = x at *
  refine Store.fresh (vs := boxCells x) (by rfl) rfl (zan (by rfl)) ?_
  obtain ⟨a_b4, k_w4, z_w4⟩ := new3 wr 74 (boxCells x)
  generalize wr.alloc (.cells (List.toArray (boxCells x)) 74) = w4 at *
  generalize hs_b4 : wr.heap.size = b4 at *
  have ab4 := zac ab1 k_w4
  have kr4 := Kp.refl w4 n_
  have hstr : str inB = (⟨#[105, 110, 98, 111, 120]⟩ : ByteArray) := rfl
  by_cases h5 : x.id = o.box
  ·by_cases h6 : x.role = inB
   ·have h7 : str x.role = (⟨#[105, 110, 98, 111, 120]⟩ : ByteArray) := by rw [h6]; rfl
    have hres := hres0 (decide_eq_true ⟨h5, h6⟩)
    refine KGO ?_
    exact ⟨by rw [hres]; rfl, (K3.trans0 k_w4).of_none⟩
   ·have h7 : ¬ str x.role = (⟨#[105, 110, 98, 111, 120]⟩ : ByteArray) := fun e => h6 (zbm.1 (e.trans hstr.symm))
    refine KGO ?_
    exact ⟨i + 1, ⟨rfl, rfl, rfl, rfl, rfl, v_int (by simp), trivial⟩, ⟨hK.trans0 k_w4, by omega, by rw [hany']; exact decide_eq_false fun q => h6 q.2⟩, by dsimp only; omega⟩
  ·refine KGO ?_
   exact ⟨i + 1, ⟨rfl, rfl, rfl, rfl, rfl, v_int (by simp), trivial⟩, ⟨hK.trans0 k_w4, by omega, by rw [hany']; exact decide_eq_false fun q => h5 q.1⟩, by dsimp only; omega⟩
 have hin : (A.boxes.any fun b => decide (b.id = o.box ∧ b.role = inB)) = false := by rw [List.take_of_length_le (by omega)] at hany; exact hany
 clear hany
 have hd3 := hd2.keep hK
 have aa3 := zac hdA2 hK
 unfold accC at aa3
 rw [hMn] at aa3
 clear aa
 refine KGO ?_
 have hzr := hK.size
 have hz2 := k2.size
 have hzd : w1.drew.heap.size = w1.heap.size := rfl
 have o3 := zaf o2 hK
 clear hrrB hdA2 hd2 hdA
 refine Loop.intro (ι := Nat) (fun i => [(0, .pointer (some ⟨b, 0, none⟩)), (3, .pointer (some ⟨b1, 0, none⟩)), (6, .slice a2 (dropL A.boxes o.box).1.length c2), (54, .slice h.M.a lx.length h.M.c), (55, .int .i64 (lx.length : Nat)), (56, .int .i64 (i : Nat))])
  (fun i w4 => Kp wr w4 n_ ∧ i ≤ lx.length ∧ ((A.mails.take i).any fun m => decide (m.boxes = [o.box])) = false) (fun i => lx.length - i) 0 ⟨rfl, rfl, rfl, rfl, rfl, rfl, trivial⟩ ⟨Kp.refl _ _, Nat.zero_le _, rfl⟩ ?_
 clear hi hlt
 rintro i gg w4 ⟨hK4, hi, hany⟩
 have K4 := K3.trans0 hK4
 have kr4 := Kp.refl w4 n_
 have ab4 := zac ab1 hK4
 refine GW ?_
 by_cases hlt : i < lx.length
 ·have hlt2 : i < A.mails.length := by omega
  have hxm : lx[i].m = A.mails[i] := by simp [← hd3.o.ml]
  have oM := zaf hd3.o.m hK4
  have hmb := hd3.o.mb lx[i] (List.getElem_mem hlt)
  have htk := List.take_succ_eq_append_getElem hlt2
  have hany' : ((A.mails.take (i + 1)).any fun m => decide (m.boxes = [o.box])) = decide (lx[i].m.boxes = [o.box]) := by
   rw [htk, List.any_append, hany, hxm]; simp
  have hres0 : lx[i].m.boxes = [o.box] → dropA A o = .error 20 := fun hq => by
   unfold dropA
   rw [if_neg (fun e => e h2), if_neg (by rw [hin]; simp), if_pos (List.any_eq_true.2 ⟨_, List.getElem_mem hlt2, by rw [← hxm]; simpa using hq⟩)]
  rcases own_blockK oM with ⟨_, h0⟩ | ⟨g, cap, cells, heM, hBg, hvM, hnc, hcm, hcl, htkM⟩
  ·omega
  injection heM with heM1 heM2 heM3
  have hat := at_of_own' oM heM1
  rw [heM1]
  refine KGO ?_
  generalize lx[i] = x at *
  refine Store.fresh (vs := mrC x) (by rfl) rfl (zan (by rfl)) ?_
  obtain ⟨a_b5, k_w5, z_w5⟩ := new3 w4 42 (mrC x)
  generalize w4.alloc (.cells (List.toArray (mrC x)) 42) = w5 at *
  generalize hs_b5 : w4.heap.size = b5 at *
  have ab5 := zac ab4 k_w5
  have kr5 := Kp.refl w5 n_
  have rowb := (zat (zaf hmb.1 (hK4.trans0 k_w5)) : RowI w5 x.b.v x.m.boxes)
  have hbn := RowO.len rowb
  have hbn : x.b.n = x.m.boxes.length := hbn
  have a5 := a_b5
  unfold mrC at a5
  rw [hbn] at a5
  by_cases h1 : x.m.boxes.length = 1
  ·obtain ⟨z, hz⟩ := List.length_eq_one_iff.1 h1
   rw [hz] at rowb
   obtain ⟨ab', cb', heb, hbb⟩ := rowb
   obtain ⟨g2, o2', rfl, hg2, hat2⟩ := hbb (by simp)
   injection heb with heb _ _
   rw [heb] at a5
   by_cases h3 : z = o.box
   ·have hres := hres0 (by rw [hz, h3])
    refine KGO ?_
    exact ⟨by rw [hres]; rfl, (K4.trans0 k_w5.drew).of_none⟩
   ·refine KGO ?_
    exact ⟨i + 1, ⟨rfl, rfl, rfl, rfl, rfl, v_int (by simp), trivial⟩, ⟨hK4.trans0 k_w5.drew, by omega, by rw [hany']; exact decide_eq_false fun q => by rw [hz] at q; injection q with q _; exact h3 q⟩, by dsimp only; omega⟩
  ·refine KGO ?_
   exact ⟨i + 1, ⟨rfl, rfl, rfl, rfl, rfl, v_int (by simp), trivial⟩, ⟨hK4.trans0 k_w5.drew, by omega, by rw [hany']; exact decide_eq_false fun q => h1 (by rw [q]; rfl)⟩, by dsimp only; omega⟩
 have hin2 : (A.mails.any fun m => decide (m.boxes = [o.box])) = false := by rw [List.take_of_length_le (by omega)] at hany; exact hany
 have hres : dropA A o = .ok ({ A with boxes := (dropL A.boxes o.box).1, mails := A.mails.map (outOf A.st o.box) }, 0) := by
  unfold dropA
  rw [if_neg (fun e => e h2), if_neg (by rw [hin]; simp), if_neg (by rw [hin2]; simp)]
 clear hany
 have hd4 := hd3.keep hK4
 have hz4 := hK4.size
 have o4 := zaf o3 hK4
 have aa4 := zac aa3 hK4
 refine KGO ?_
 clear hi hlt
 refine Loop.intro (ι := Nat × List Mr) (fun p => [(0, .pointer (some ⟨b, 0, none⟩)), (3, .pointer (some ⟨b1, 0, none⟩)), (6, .slice a2 (dropL A.boxes o.box).1.length c2), (79, .int .i64 (lx.length : Nat)), (80, .int .i64 (p.1 : Nat))])
  (fun p w5 => Drf w5 B b h p.2 { A with mails := p.2.map (·.m) } ∧ Kp w4 w5 (fun q => B ≤ q ∧ q < b) ∧ p.1 ≤ lx.length ∧ p.2.length = lx.length ∧ p.2.map (·.m) = (A.mails.take p.1).map (outOf A.st o.box) ++ A.mails.drop p.1) (fun p => lx.length - p.1) (0, lx) ⟨rfl, rfl, rfl, rfl, rfl, trivial⟩ ⟨by rw [hd4.o.ml]; exact hd4, Kp.refl _ _, Nat.zero_le _, rfl, by simpa using hd4.o.ml⟩ ?_
 rintro ⟨i, zs⟩ gg w5 ⟨d5, k5, hi, hzl, hzm⟩
 dsimp only at d5 hi hzl hzm ⊢
 have hda : At w5 b 0 (accC h A) := d5.v.at
 have ab5 : At w5 b1 0 (opC v o) := zaM ab4 k5 fun e => by omega
 have kr5 := Kp.refl w5 n_
 refine GW ?_
 by_cases hlt : i < lx.length
 ·have hlt2 : i < A.mails.length := by omega
  have hiz : i < zs.length := by omega
  have hxm : zs[i].m = A.mails[i] := by
   have e : (zs.map (·.m))[i]? = some zs[i].m := by simp [hiz]
   rw [hzm, List.getElem?_append_right (by rw [List.length_map, List.length_take]; omega), List.length_map, List.length_take, Nat.min_eq_left (by omega), Nat.sub_self, List.getElem?_drop, Nat.add_zero, List.getElem?_eq_getElem hlt2] at e
   injection e with e
   exact e.symm
  have hmb := d5.o.mb zs[i] (List.getElem_mem hiz)
  have hsi := (fmb A.mails[i] (List.getElem_mem hlt2)).1
  have hnext : ∀ y : Ml, (zs.map (·.m)).set i y = (A.mails.take i).map (outOf A.st o.box) ++ y :: A.mails.drop (i + 1) := fun y => by
   rw [hzm, List.set_append_right _ _ (by rw [List.length_map, List.length_take]; omega), List.length_map, List.length_take, Nat.min_eq_left (by omega), Nat.sub_self, List.drop_eq_getElem_cons hlt2, List.set_cons_zero]
  have htk : (A.mails.take (i + 1)).map (outOf A.st o.box) = (A.mails.take i).map (outOf A.st o.box) ++ [outOf A.st o.box A.mails[i]] := by
   rw [List.take_succ_eq_append_getElem hlt2, List.map_append]; rfl
  rcases own_blockK d5.o.m with ⟨_, h0⟩ | ⟨g, cap, cells, heM, hBg, hvM, hnc, hcm, hcl, htkM⟩
  ·omega
  have heM' := heM
  injection heM with heM1 heM2 heM3
  have hat := at_of_own' d5.o.m heM1
  have hgM : h.M.v.ownBlock = some g := by rw [heM']; rfl
  have hgb : g < b := d5.lt g (Hd.all_m hgM)
  have hdB := hda
  unfold accC at hdB
  rw [heM1, heM2] at hdB
  have hxb : zs[i].b.n = zs[i].m.boxes.length := by
   obtain ⟨a, c, e⟩ := zab hmb.1
   injection e
  refine KGO ?_
  refine CallS.of (Tryz.call84 _ _) (ix_I (w := w5.drew) zs[i].m.boxes o.box (zat (zaf hmb.1 (Kp.refl w5 n_).drew)) (by rw [hxm]; omega)) ?_
  rintro e w6 ⟨rfl, k6⟩
  have J6 : Kp w5 w6 n_ := (Kp.refl w5 n_).drew.trans0 k6
  have k56 := k5.trans' J6.of_none
  have ab6 := zac ab5 J6
  have hda6 := zac hda J6
  have hat6 := zac hat J6
  have d6 := d5.keep J6
  have kr6 := Kp.refl w6 n_
  refine RT ?_
  rcases idxP_lt (fun x => decide (x = o.box)) zs[i].m.boxes with hq | ⟨k, hk, he, hp, hfst⟩
  ·rw [hq]
   have hno : o.box ∉ A.mails[i].boxes := fun hmem => by
    rw [← hxm] at hmem
    have : (zs[i].m.boxes.any fun x => decide (x = o.box)) = true := List.any_eq_true.2 ⟨_, hmem, by simp⟩
    rw [← zbT, hq] at this
    omega
   have hout : outOf A.st o.box A.mails[i] = A.mails[i] := by unfold outOf; rw [if_neg hno]
   refine KGO ?_
   exact ⟨(i + 1, zs), ⟨rfl, rfl, rfl, rfl, v_int (by simp), trivial⟩, ⟨d6, k56, by dsimp only; omega, hzl, by dsimp only; rw [hzm, htk, hout, List.drop_eq_getElem_cons hlt2, List.append_assoc]; rfl⟩, by dsimp only; omega⟩
  ·rw [he]
   have hzb : zs[i].m.boxes.length ≤ 100000 := by rw [hxm]; exact hsi
   have hkl : k < 100000 := by omega
   have hkb : zs[i].m.boxes[k] = o.box := by simpa using hp
   have hkn : ∀ j (hj : j < k), (zs[i].m.boxes[j]'(by omega)) ≠ o.box := fun j hj => by simpa using hfst j hj
   have hmem : o.box ∈ A.mails[i].boxes := by rw [← hxm, ← hkb]; exact List.getElem_mem hk
   have hout : outOf A.st o.box A.mails[i] = { A.mails[i] with boxes := A.mails[i].boxes.erase o.box, mod := A.st } := by unfold outOf; rw [if_pos hmem]
   have her : A.mails[i].boxes.erase o.box = zs[i].m.boxes.take k ++ zs[i].m.boxes.drop (k + 1) := by rw [← hxm]; exact zfI hk hkb hkn
   refine KGO ?_
   refine Draw.held (fun u => Kp w6 u (fun q => own_ zs[i].b.v q ∨ q = g)) (fun t => t != some 104) (by decide +kernel) (Kp.refl _ _).drew ?_
   refine KGO ?_
   refine ⟨(Kp.refl _ _).drew, ?_⟩
   refine KGO ?_
   have oib : OwnI w6 B zs[i].b.v zs[i].m.boxes := zaf hmb.1 J6
   have nb := nd4 d6.o.nd
   have hxg : ∀ q, own_ zs[i].b.v q → q ≠ g := fun q hq e => (zeE (List.getElem_mem hiz) (nb.2.2.2 g hgM)).1 (e ▸ hq)
   have hxl : ∀ q, own_ zs[i].b.v q → B ≤ q ∧ q < b := fun q hq => ⟨(hmb.1.lt q hq).1, d5.lt q (Hd.all_x (List.getElem_mem hiz) (.inl hq))⟩
   refine CallS.of (Tryz.call85 _ _) (del_I (w := w6.drew) zs[i].m.boxes k (zaf oib (Kp.refl w6 n_).drew) hk (by rw [hxm]; omega)) ?_
   rintro e w7 ⟨v7, rfl, o7, k7, hb7⟩
   obtain ⟨a7, c7, rfl⟩ := zab o7
   have J7 : Kp w6 w7 (own_ zs[i].b.v) := (Kp.refl w6 n_).drew.of_none.trans' k7
   have kS : Kp w6 w7 (fun q => own_ zs[i].b.v q ∨ q = g) := J7.mono fun q _ hq => .inl hq
   refine RT ?_
   refine ⟨kS, ?_⟩
   refine KGO ?_
   refine Held.one (by rfl) (fun u hu => (zaM hda6 hu fun e => e.elim (fun e => by have := (hxl b e).2; omega) fun e => by omega) 7 _ rfl) ?_
   refine KGO ?_
   have oM := zah (zaf d5.o.m J6) J7 fun q hq e => hxg q e (by rw [hgM] at hq; injection hq with hq; exact hq.symm)
   rcases own_blockK oM with ⟨_, h0⟩ | ⟨g', cap', cells', heM2, hBg', hvM', hnc', hcm', hcl', htk'⟩
   ·omega
   rw [heM'] at heM2
   injection heM2 with heM2 _ hcc
   injection heM2 with heM2
   injection heM2 with heM2
   subst heM2; subst hcc
   obtain ⟨x1, hx1⟩ : ∃ x1 : Mr, x1 = ⟨zs[i].m, ⟨a7, (zs[i].m.boxes.take k ++ zs[i].m.boxes.drop (k + 1)).length, c7⟩, zs[i].f⟩ := ⟨_, rfl⟩
   obtain ⟨x2, hx2⟩ : ∃ x2 : Mr, x2 = ⟨{ zs[i].m with boxes := zs[i].m.boxes.take k ++ zs[i].m.boxes.drop (k + 1), mod := A.st }, ⟨a7, (zs[i].m.boxes.take k ++ zs[i].m.boxes.drop (k + 1)).length, c7⟩, zs[i].f⟩ := ⟨_, rfl⟩
   refine Store.atK (i := 0 + i * 38 + 33) hvM' (by rw [hcl']; omega) (by rfl) ⟨rfl, by simp, by simp⟩ fun wA vA kA => ?_
   refine ⟨kS.trans' (kA.mono fun q _ e => .inr e), ?_⟩
   rw [show 0 + i * 38 + 33 = i * 38 + 33 by omega] at vA
   have oA := zbp (w := w7) lenMl (l := zs) (k := i) (j := 33) (x := x1) hiz (by decide) (by rw [hx1]; rfl) hBg' hnc' hcm' hcl' htk' vA
   rcases own_blockK oA with ⟨hq, _⟩ | ⟨gA, capA, cellsA, heA, hBA, hvA, hncA, hcmA, hclA, htkA⟩
   ·cases hq
   injection heA with heA1 heA2 heA3
   injection heA1 with heA1
   injection heA1 with heA1
   subst heA1; subst heA3
   refine KGO ?_
   refine Store.atK (i := 0 + i * 38 + 37) hvA (by rw [hclA]; omega) (by rfl) ⟨rfl, by simp, by simp⟩ fun wB vB kB => ?_
   have kAB := kA.trans' kB
   refine ⟨kS.trans' (kAB.mono fun q _ e => .inr e), ?_⟩
   rw [show 0 + i * 38 + 37 = i * 38 + 37 by omega] at vB
   have oB := zbp (w := wA) lenMl (l := zs.set i x1) (k := i) (j := 37) (x := x2) (by rw [List.length_set]; exact hiz) (by decide) (by rw [List.getElem_set_self, hx1, hx2]; rfl) hBA (by rw [List.length_set]; exact hncA) hcmA hclA (by rw [List.length_set]; exact htkA) vB
   rw [List.length_set, List.set_set] at oB
   have oB' : OwnMl wB B h.M.v (zs.set i x2) := by rw [heM']; unfold OwnMl; rw [List.length_set]; exact oB
   have dB := d6.turn (x := x2) hiz hgM (by rw [hx2]; exact hb7) (by rw [hx2]) (by rw [hx2]) J7 (by rw [hx2]; exact o7) kAB oB'
   refine KGO ?_
   refine ⟨(i + 1, zs.set i x2), ⟨rfl, rfl, rfl, rfl, v_int (by simp), trivial⟩, ⟨dB, (k56.trans' (J7.mono fun q _ hq => hxl q hq)).trans' (kAB.mono fun q _ hq => by have hq : q = g := hq; rw [hq]; exact ⟨hBg, hgb⟩), by dsimp only; omega, by dsimp only; rw [List.length_set]; exact hzl, ?_⟩, by dsimp only; omega⟩
   dsimp only
   rw [List.map_set, hnext, htk, hout, List.append_assoc]
   congr 1
   rw [hx2, her, ← hxm]
   rfl
 have hend : zs.map (·.m) = A.mails.map (outOf A.st o.box) := by rw [hzm, List.take_of_length_le (by omega), List.drop_of_length_le (by omega), List.append_nil]
 have o5 : OwnB w5 w1.drew.heap.size (.slice a2 (dropL A.boxes o.box).1.length c2) (dropL A.boxes o.box).1 := zah o4 k5 fun q hq e => by have := (o4.lt q hq).1; omega
 have hbl : ∀ q, (Value.slice a2 (dropL A.boxes o.box).1.length c2).ownBlock = some q → w1.drew.heap.size ≤ q := fun q hq => (o4.lt q hq).1
 generalize hL : (dropL A.boxes o.box).1 = L at *
 refine KGO ?_
 refine SCK 0 d5.v fun w6 v6 k6 => ?_
 refine KGO ?_
 have P0 := d5.o.p.setB (v := ⟨a2, L.length, c2⟩) o5
 have P : AccP w5 { h with B := ⟨a2, L.length, c2⟩ } zs { A with boxes := L, mails := A.mails.map (outOf A.st o.box) } := ⟨P0.b, P0.s, P0.n, P0.m, hend, P0.mb⟩
 have v6' : VarK w6 b 65 (accC { h with B := ⟨a2, L.length, c2⟩ } { A with boxes := L, mails := A.mails.map (outOf A.st o.box) }) := v6
 have hfin : ∃ h', VarK w6 b 65 (accC h' { A with boxes := L, mails := A.mails.map (outOf A.st o.box) }) ∧ AccR w6 h' { A with boxes := L, mails := A.mails.map (outOf A.st o.box) } ∧ StabA w6 h' { A with boxes := L, mails := A.mails.map (outOf A.st o.box) } := zeb v6' P k6 fun q hq => by
  unfold Hd.all Hd.bs at hq
  simp only [List.mem_append, zaz] at hq
  rcases hq with (((hq | hq) | hq) | hq) | hq
  ·have := hbl q hq; omega
  ·exact Nat.ne_of_lt (d5.lt q (Hd.all_s hq))
  ·exact Nat.ne_of_lt (d5.lt q (Hd.all_n hq))
  ·exact Nat.ne_of_lt (d5.lt q (Hd.all_m hq))
  ·exact Nat.ne_of_lt (d5.lt q (List.mem_append_right _ hq))
 have kf : Kp w w6 (from_ B) := (K4.of_none.trans' (k5.mono fun q _ hq => hq.1)).trans' (k6.mono fun q _ hq => by
  have e : q = b := hq
  show B ≤ q
  omega)
 rw [hres]
 exact ⟨⟨rfl, hfin⟩, kf⟩
end
end Go.Proofs.YtohhkegmbgancaaGreatDoor
