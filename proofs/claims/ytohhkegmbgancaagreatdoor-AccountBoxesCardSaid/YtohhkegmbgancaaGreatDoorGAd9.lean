/- Helper text of this claim: Ad9, Ad8: lemmas and contracts that the proved statement rests on; no conditions of its own. -/
import Derived.Test.YtohhkegmbgancaaGreatDoorGAd6
import Derived.Test.YtohhkegmbgancaaGreatDoorKit11
import Derived.Test.YtohhkegmbgancaaGreatDoorGAg2
-- alias Tryz
namespace Go.Proofs.YtohhkegmbgancaaGreatDoor
open Go.Shelf Go.RowKit Go.Pw Go.Vc Go.Cs Go.Lib
set_option linter.unusedVariables false
set_option maxRecDepth 100000
def newM (A : Acc) (o : Opr) : Ml := ⟨A.nm, o.blob, sortI o.boxes, sortT o.add, o.at_, o.size, A.st⟩
/-- What stands once a message is made. -/
def NewI (w1 : World) (A : Acc) (o : Opr) (p : Nat × Sl × Sl) (u : World) : Prop :=
  Keeps w1 u none_ ∧ OwnI u w1.heap.size p.2.1.v (sortI o.boxes) ∧ OwnT u w1.heap.size p.2.2.v (sortT o.add) ∧ Apart p.2.1.v p.2.2.v ∧ VarK u p.1 42 (mrC ⟨newM A o, p.2.1, p.2.2⟩) ∧ w1.heap.size ≤ p.1
theorem op_dg {w : World} {b : Nat} {v : Ov} {o : Opr} (h : At w b 0 (opC v o)) : At w b (0 + 7) (dgC o.blob) := fun i u hi => by
  have hl : (dgC o.blob).length = 32 := rfl
  have hi2 : i < 32 := by have := (List.getElem?_eq_some_iff.1 hi).1; omega
  have := h (7 + i) u (by
    unfold opC
    rw [List.getElem?_append_right (by simp), show 7 + i - List.length [Value.int .i64 o.kind, .int .i64 o.id, .int .i64 o.box, .int .i64 o.up, .string (str o.name), .string (str o.role), .string (str o.text)] = i by simp, List.getElem?_append_left (by omega)]
    exact hi)
  rw [show 0 + (7 + i) = 0 + 7 + i by omega] at this
  exact this
theorem build_mail (m : Ml) (b f : Sl) (w : World) : (Instr.build 42 [(0, .int .i64 m.id), (1, .agg (dgC m.blob).toArray), (2, .slice b.a b.n b.c), (3, .slice f.a f.n f.c), (4, .int .i64 m.at_), (5, .int .i64 m.size), (6, .int .i64 m.mod)].toArray).run Tryz.prog w = .ok (.agg (mrC ⟨m, b, f⟩).toArray) w := by
  simp [Instr.build, Instr.fill, go_sem, Tryz.runUnderlying42, mrC, dgC]
theorem bs_mem {x : Mr} {q : Nat} (h : q ∈ x.bs) : x.b.v.ownBlock = some q ∨ x.f.v.ownBlock = some q := by
  unfold Mr.bs at h
  rwa [List.mem_append, mem_otl, mem_otl] at h
theorem build_ml1 (x : Mr) (w : World) : (Instr.buildSlice 32 1 [(0, .agg (mrC x).toArray)].toArray).run Tryz.prog w = .ok (.slice (some ⟨w.heap.size, 0, none⟩) 1 1) (w.alloc (.cells (mrC x).toArray 42)) := by
  simp [Instr.buildSlice, go_sem, Tryz.runUnderlying32, mrC, dgC]
theorem app_Ml {K : Value → World → Prop} {B vb : Nat} {v : Value} {l : List Mr} {cs : Array Bool} {w : World} (h : OwnMl w B v l) (hB : B ≤ w.heap.size) (z : Mr) (hvb : VarK w vb 42 (mrC z)) (hl : l.length ≤ 1000000)
    (k : ∀ v' w', OwnMl w' B v' (l ++ [z]) → Keeps w w' (own_ v) → K v' w') :
    RunN Tryz.prog (builtin .append #[32, 32] 32 cs [v, .slice (some ⟨vb, 0, none⟩) 1 1].toArray) w K := by
  refine RunN.app Tryz.underlying32 infoMl rfl (by decide) h hB ⟨vb, 0, none⟩ 1 1 (mrC z) rfl (hvb.cells w 0 fun j u h => by simpa using h) (by have := oneMl [z]; simpa using this) (by omega) (by omega) fun v' w' h2 h3 => k v' w' ?_ ?_
  · unfold OwnMl
    rw [List.length_append, List.flatMap_append]
    simpa using h2
  · exact ⟨h3.os, h3.tape, h3.output, h3.size, fun i hi hn => h3.block i hi (fun e => hn e.symm)⟩
section
variable {w : World}
set_option maxHeartbeats 8000000 in
theorem ac_mail {B b : Nat} {h : Hd} {lx : List Mr} {A : Acc} {v : Ov} {o : Opr} (hd : Drf w B b h lx A) (hf : Fit A) (ho : OpR w v o) (fo : FitO o) :
    Calls Tryz.prog 26 #[.pointer (some ⟨b, 0, none⟩), .agg (opC v o).toArray] w fun e w' => Done w' b e (mailA A o) ∧ Keeps w w' (from_ B) := by
  have fml := hf.ml
  have fob := fo.b
  have foa := fo.a
  have fnm := hf.nm
  have hbn : v.b.n = o.boxes.length := by
    obtain ⟨a, c, e, _⟩ := ho.b
    injection e
  have hnil : o.boxes = [] ↔ v.b.n = 0 := by rw [hbn, List.length_eq_zero_iff]
  refine calls_of_vc (args := [.pointer (some ⟨b, 0, none⟩), .agg (opC v o).toArray]) Tryz.func26 rfl (Nat.le_of_ble_eq_true rfl) ?_; refine Sat.go hmix ?_; conv => whnf
  have a_b1 := at_fresh w 28 (opC v o)
  have v_b1 := VarK.new w 28 (opC v o)
  have k_w1 : Keeps w (w.alloc (.cells (List.toArray (opC v o)) 28)) none_ := (Keeps.refl _ _).alloc _
  have z_w1 : (w.alloc (.cells (List.toArray (opC v o)) 28)).heap.size = w.heap.size + 1 := by simp
  generalize w.alloc (.cells (List.toArray (opC v o)) 28) = w1 at *
  generalize hs_b1 : w.heap.size = b1 at *
  have r_w1 : Keeps w1 w1 none_ := Keeps.refl _ _
  have hd1 := hd.keep k_w1
  have hdA := hd1.v.at
  have hdg : At w1 b1 (0 + 7) (dgC o.blob) := op_dg a_b1
  refine KGO ?_
  refine Draw.cut (ι := Nat × Sl × Sl) (fun p => [(0, .pointer (some ⟨b, 0, none⟩)), (3, .pointer (some ⟨b1, 0, none⟩)), (6, .pointer (some ⟨p.1, 0, none⟩))]) (NewI w1 A o) ?_ ?_
  · refine Draw.float2 (fun u => Keeps w1 u none_) (fun _ => true) 9 12 (by decide +kernel) (Keeps.refl _ _).drew ?_
    (first | refine Then.go hmix ?_ | refine Sat.go hmix ?_ | refine ResK.go ?_ | skip); conv => whnf
    refine KGO ?_
    refine ⟨rfl, ?_, ?_⟩
    · (first | refine Then.go hmix ?_ | refine Sat.go hmix ?_ | refine ResK.go ?_ | skip); conv => whnf
      refine KGO ?_
      have a_bm := at_fresh w1.drew 42 (zMl)
      have v_bm := VarK.new w1.drew 42 (zMl)
      have k_w2 : Keeps w1.drew (w1.drew.alloc (.cells (List.toArray (zMl)) 42)) none_ := (Keeps.refl _ _).alloc _
      have z_w2 : (w1.drew.alloc (.cells (List.toArray (zMl)) 42)).heap.size = w1.drew.heap.size + 1 := by simp
      generalize w1.drew.alloc (.cells (List.toArray (zMl)) 42) = w2 at *
      generalize hs_bm : w1.drew.heap.size = bm at *
      have r_w2 : Keeps w2 w2 none_ := Keeps.refl _ _
      have K2 : Keeps w1 w2 none_ := (Keeps.refl w1 none_).drew.trans0 k_w2
      refine ⟨K2, ?_⟩
      refine KGO ?_
      refine CallS.of (Tryz.call71 _ _) (ac_risingI (w := w2) o.boxes (ho.b.keep (k_w1.trans0 K2)) (by omega)) ?_
      rintro e w3 ⟨vi, rfl, oi, ki⟩
      obtain ⟨ai, ci, rfl⟩ := own_shape oi
      have K3 : Keeps w1 w3 none_ := Keeps.trans0 K2 ki
      have oi := own_base oi (Keeps.size K2)
      refine ⟨_, rfl, ?_⟩; (first | refine Then.go hmix ?_ | refine Sat.go hmix ?_ | refine ResK.go ?_ | skip); conv => whnf
      refine ⟨K3, ?_⟩
      refine KGO ?_
      refine CallS.of (Tryz.call72 _ _) (ac_risingT (w := w3) o.add (ho.a.keep (k_w1.trans0 K3)) (by omega)) ?_
      rintro e w4 ⟨vt, rfl, ot, kt⟩
      obtain ⟨at', ct, rfl⟩ := own_shape ot
      have apt := apart_of oi ot (by first | exact Nat.le_refl _ | exact Keeps.size k_w3')
      have K4 : Keeps w1 w4 none_ := Keeps.trans0 K3 kt
      have ot := own_base ot (Keeps.size K3)
      refine ⟨_, rfl, ?_⟩; (first | refine Then.go hmix ?_ | refine Sat.go hmix ?_ | refine ResK.go ?_ | skip); conv => whnf
      refine ⟨K4, ?_⟩
      refine KGO ?_
      have oi4 := own_keep0 oi kt
      have vm := v_bm.keep0 (ki.trans0 kt)
      have hzb : w1.heap.size ≤ bm := by rw [← hs_bm]; exact Nat.le_refl _
      refine RunV.of (build_mail (newM A o) ⟨ai, _, ci⟩ ⟨at', _, ct⟩ _) ?_
      refine KGO ?_
      refine Store.varK (mrC ⟨newM A o, ⟨ai, _, ci⟩, ⟨at', _, ct⟩⟩) vm (by rfl) rfl (flat_of (by rfl)) fun w7 vr k7 => ?_
      refine ⟨keeps_new K4 k7 hzb, ?_⟩
      refine KGO ?_
      have n1 := own_ne_of oi4 vm (by decide)
      have n2 := own_ne_of ot vm (by decide)
      exact ⟨(bm, ⟨ai, _, ci⟩, ⟨at', _, ct⟩), ⟨rfl, rfl, rfl, trivial⟩, keeps_new K4 k7 hzb, own_ne oi4 k7 n1, own_ne ot k7 n2, apt, vr, hzb⟩
    · (first | refine Then.go hmix ?_ | refine Sat.go hmix ?_ | refine ResK.go ?_ | skip); conv => whnf
      refine KGO ?_
      have K2 : Keeps w1 w1.drew none_ := (Keeps.refl w1 none_).drew
      refine CallS.of (Tryz.call71 _ _) (ac_risingI (w := w1.drew) o.boxes (ho.b.keep (k_w1.trans0 K2)) (by omega)) ?_
      rintro e w3 ⟨vi, rfl, oi, ki⟩
      obtain ⟨ai, ci, rfl⟩ := own_shape oi
      have K3 : Keeps w1 w3 none_ := Keeps.trans0 K2 ki
      have oi := own_base oi (Keeps.size K2)
      refine ⟨_, rfl, ?_⟩; (first | refine Then.go hmix ?_ | refine Sat.go hmix ?_ | refine ResK.go ?_ | skip); conv => whnf
      refine ⟨K3, ?_⟩
      refine KGO ?_
      refine ⟨rfl, ?_, ?_⟩
      · (first | refine Then.go hmix ?_ | refine Sat.go hmix ?_ | refine ResK.go ?_ | skip); conv => whnf
        refine KGO ?_
        have a_bm := at_fresh w3 42 (zMl)
        have v_bm := VarK.new w3 42 (zMl)
        have k_w3' : Keeps w3 (w3.alloc (.cells (List.toArray (zMl)) 42)) none_ := (Keeps.refl _ _).alloc _
        have z_w3' : (w3.alloc (.cells (List.toArray (zMl)) 42)).heap.size = w3.heap.size + 1 := by simp
        generalize w3.alloc (.cells (List.toArray (zMl)) 42) = w3' at *
        generalize hs_bm : w3.heap.size = bm at *
        have r_w3' : Keeps w3' w3' none_ := Keeps.refl _ _
        have K3' : Keeps w1 w3' none_ := K3.trans0 k_w3'
        refine ⟨K3', ?_⟩
        refine KGO ?_
        refine CallS.of (Tryz.call72 _ _) (ac_risingT (w := w3') o.add (ho.a.keep (k_w1.trans0 K3')) (by omega)) ?_
        rintro e w4 ⟨vt, rfl, ot, kt⟩
        obtain ⟨at', ct, rfl⟩ := own_shape ot
        have apt := apart_of oi ot (by first | exact Nat.le_refl _ | exact Keeps.size k_w3')
        have K4 : Keeps w1 w4 none_ := Keeps.trans0 K3' kt
        have ot := own_base ot (Keeps.size K3')
        refine ⟨_, rfl, ?_⟩; (first | refine Then.go hmix ?_ | refine Sat.go hmix ?_ | refine ResK.go ?_ | skip); conv => whnf
        refine ⟨K4, ?_⟩
        refine KGO ?_
        have oi4 := own_keep0 (own_keep0 oi k_w3') kt
        have vm := v_bm.keep0 kt
        have hzb : w1.heap.size ≤ bm := by rw [← hs_bm]; exact K3.size
        refine RunV.of (build_mail (newM A o) ⟨ai, _, ci⟩ ⟨at', _, ct⟩ _) ?_
        refine KGO ?_
        refine Store.varK (mrC ⟨newM A o, ⟨ai, _, ci⟩, ⟨at', _, ct⟩⟩) vm (by rfl) rfl (flat_of (by rfl)) fun w7 vr k7 => ?_
        refine ⟨keeps_new K4 k7 hzb, ?_⟩
        refine KGO ?_
        have n1 := own_ne_of oi4 vm (by decide)
        have n2 := own_ne_of ot vm (by decide)
        exact ⟨(bm, ⟨ai, _, ci⟩, ⟨at', _, ct⟩), ⟨rfl, rfl, rfl, trivial⟩, keeps_new K4 k7 hzb, own_ne oi4 k7 n1, own_ne ot k7 n2, apt, vr, hzb⟩
      · (first | refine Then.go hmix ?_ | refine Sat.go hmix ?_ | refine ResK.go ?_ | skip); conv => whnf
        refine KGO ?_
        refine CallS.of (Tryz.call72 _ _) (ac_risingT (w := w3) o.add (ho.a.keep (k_w1.trans0 K3)) (by omega)) ?_
        rintro e w4' ⟨vt, rfl, ot, kt⟩
        obtain ⟨at', ct, rfl⟩ := own_shape ot
        have apt := apart_of oi ot (by first | exact Nat.le_refl _ | exact Keeps.size k_w3')
        have K4' : Keeps w1 w4' none_ := Keeps.trans0 K3 kt
        have ot := own_base ot (Keeps.size K3)
        refine ⟨_, rfl, ?_⟩; (first | refine Then.go hmix ?_ | refine Sat.go hmix ?_ | refine ResK.go ?_ | skip); conv => whnf
        refine ⟨K4', ?_⟩
        refine KGO ?_
        refine RunV.of (build_mail (newM A o) ⟨ai, _, ci⟩ ⟨at', _, ct⟩ _) ?_
        refine KGO ?_
        have a_bm := at_fresh w4' 42 (zMl)
        have v_bm := VarK.new w4' 42 (zMl)
        have k_w4 : Keeps w4' (w4'.alloc (.cells (List.toArray (zMl)) 42)) none_ := (Keeps.refl _ _).alloc _
        have z_w4 : (w4'.alloc (.cells (List.toArray (zMl)) 42)).heap.size = w4'.heap.size + 1 := by simp
        generalize w4'.alloc (.cells (List.toArray (zMl)) 42) = w4 at *
        generalize hs_bm : w4'.heap.size = bm at *
        have r_w4 : Keeps w4 w4 none_ := Keeps.refl _ _
        have K4 : Keeps w1 w4 none_ := K4'.trans0 k_w4
        refine ⟨K4, ?_⟩
        refine KGO ?_
        have oi4 := own_keep0 (own_keep0 oi kt) k_w4
        have ot := own_keep0 ot k_w4
        have vm := v_bm
        have hzb : w1.heap.size ≤ bm := by rw [← hs_bm]; exact K4'.size
        refine Store.varK (mrC ⟨newM A o, ⟨ai, _, ci⟩, ⟨at', _, ct⟩⟩) vm (by rfl) rfl (flat_of (by rfl)) fun w7 vr k7 => ?_
        refine ⟨keeps_new K4 k7 hzb, ?_⟩
        refine KGO ?_
        have n1 := own_ne_of oi4 vm (by decide)
        have n2 := own_ne_of ot vm (by decide)
        exact ⟨(bm, ⟨ai, _, ci⟩, ⟨at', _, ct⟩), ⟨rfl, rfl, rfl, trivial⟩, keeps_new K4 k7 hzb, own_ne oi4 k7 n1, own_ne ot k7 n2, apt, vr, hzb⟩
  · rintro ⟨bm, sb, sf⟩ g w2 ⟨K12, ob, of, ap, vm, hbm⟩
    dsimp only at ob of ap vm hbm
    have K2 := k_w1.trans0 K12
    have a2 := at_mono a_b1 K12
    have kr2 : Keeps w2 w2 none_ := Keeps.refl _ _
    have hsn : sf.n = (sortT o.add).length := by
      obtain ⟨a, c, e⟩ := own_shape of
      injection e
    have hMn : h.M.n = A.mails.length := by
      obtain ⟨a, c, e⟩ := own_shape hd.o.m
      have e2 := congrArg List.length hd.o.ml
      rw [List.length_map] at e2
      injection e with _ e _
      rw [e]; exact e2
    (first | refine Then.go hmix ?_ | refine Sat.go hmix ?_ | refine ResK.go ?_ | skip); conv => whnf
    by_cases h1 : v.b.n = 0
    · have hres : mailA A o = .error 1 := by unfold mailA; rw [if_pos (.inl (hnil.2 h1))]
      refine KGO ?_
      exact ⟨by rw [hres]; rfl, K2.of_none⟩
    refine KGO ?_
    refine CallS.of (Tryz.call73 _ _) (ac_flags (w := w2) o.add (ho.a.keep K2) (by omega) fo.fa) ?_
    rintro e w3 ⟨rfl, k3⟩
    have K3 := K2.trans0 k3
    have a3 := at_mono a2 k3
    have kr3 : Keeps w3 w3 none_ := Keeps.refl _ _
    refine ⟨_, rfl, ?_⟩; (first | refine Then.go hmix ?_ | refine Sat.go hmix ?_ | refine ResK.go ?_ | skip); conv => whnf
    by_cases h2 : flagsB o.add = true
    rotate_left
    · have h2 : flagsB o.add = false := by simpa using h2
      have hres : mailA A o = .error 1 := by unfold mailA; rw [if_pos (.inr (.inl h2))]
      rw [h2]
      refine KGO ?_
      exact ⟨by rw [hres]; rfl, K3.of_none⟩
    rw [h2]
    refine KGO ?_
    refine CallS.of (Tryz.call38 _ _) (ac_within (w := w3) o.at_ 0 1099511627776) ?_
    rintro e w3' ⟨rfl, rfl⟩
    refine ⟨_, rfl, ?_⟩; (first | refine Then.go hmix ?_ | refine Sat.go hmix ?_ | refine ResK.go ?_ | skip); conv => whnf
    by_cases h3 : 0 ≤ o.at_ ∧ o.at_ ≤ 1099511627776
    rotate_left
    · have hres : mailA A o = .error 1 := by unfold mailA; rw [if_pos (.inr (.inr (.inl h3)))]
      rw [show decide (0 ≤ o.at_ ∧ o.at_ ≤ 1099511627776) = false from decide_eq_false h3]
      refine KGO ?_
      exact ⟨by rw [hres]; rfl, K3.of_none⟩
    rw [show decide (0 ≤ o.at_ ∧ o.at_ ≤ 1099511627776) = true from decide_eq_true h3]
    refine KGO ?_
    refine CallS.of (Tryz.call38 _ _) (ac_within (w := w3) o.size 0 65536) ?_
    rintro e w3' ⟨rfl, rfl⟩
    refine ⟨_, rfl, ?_⟩; (first | refine Then.go hmix ?_ | refine Sat.go hmix ?_ | refine ResK.go ?_ | skip); conv => whnf
    by_cases h4 : 0 ≤ o.size ∧ o.size ≤ 65536
    rotate_left
    · have hres : mailA A o = .error 1 := by unfold mailA; rw [if_pos (.inr (.inr (.inr h4)))]
      rw [show decide (0 ≤ o.size ∧ o.size ≤ 65536) = false from decide_eq_false h4]
      refine KGO ?_
      exact ⟨by rw [hres]; rfl, K3.of_none⟩
    rw [show decide (0 ≤ o.size ∧ o.size ≤ 65536) = true from decide_eq_true h4]
    have hz1 : ¬ (o.boxes = [] ∨ flagsB o.add = false ∨ ¬ (0 ≤ o.at_ ∧ o.at_ ≤ 1099511627776) ∨ ¬ (0 ≤ o.size ∧ o.size ≤ 65536)) := by
      rintro (q | q | q | q)
      · exact h1 (hnil.1 q)
      · rw [h2] at q; cases q
      · exact q h3
      · exact q h4
    have hdA3 := at_mono hdA (K12.trans0 k3)
    refine KGO ?_
    refine CallS.of (Tryz.call74 _ _) (ac_there (w := w3.drew) (h := h) (A := A) o.boxes (hd.o.read.b.keep K3.drew) (by have := hf.bl; omega) (ho.b.keep K3.drew) (by omega)) ?_
    rintro e w4 ⟨rfl, k4⟩
    have J4 : Keeps w3 w4 none_ := (Keeps.refl w3 none_).drew.trans0 k4
    have K4 := K3.trans0 J4
    refine ⟨_, rfl, ?_⟩; (first | refine Then.go hmix ?_ | refine Sat.go hmix ?_ | refine ResK.go ?_ | skip); conv => whnf
    by_cases h5 : thereB A.boxes o.boxes = true
    rotate_left
    · have h5 : thereB A.boxes o.boxes = false := by simpa using h5
      have hres : mailA A o = .error 5 := by unfold mailA; rw [if_neg hz1, if_pos h5]
      rw [h5]
      refine KGO ?_
      exact ⟨by rw [hres]; rfl, K4.of_none⟩
    rw [h5]
    have vm4 := vm.keep0 (k3.trans0 J4)
    have hm4 : At w4 bm 0 (Value.int .i64 A.nm :: (dgC o.blob ++ [.slice sb.a sb.n sb.c, .slice sf.a (sortT o.add).length sf.c, .int .i64 o.at_, .int .i64 o.size, .int .i64 A.st])) := by have := vm4.at; unfold mrC at this; rw [← hsn]; exact this
    have hdA4 := at_mono hdA3 J4
    have kr4 : Keeps w4 w4 none_ := Keeps.refl _ _
    by_cases h6 : 4096 ≤ A.mails.length ∨ 20 < (sortT o.add).length ∨ 1099511627776 ≤ A.nm
    · have hres : mailA A o = .error 3 := by unfold mailA; rw [if_neg hz1, if_neg (by rw [h5]; simp), if_pos h6]
      by_cases h7 : 4096 ≤ A.mails.length
      · refine KGO ?_
        exact ⟨by rw [hres]; rfl, K4.of_none⟩
      by_cases h8 : 20 < (sortT o.add).length
      · refine KGO ?_
        exact ⟨by rw [hres]; rfl, K4.of_none⟩
      have h9 : 1099511627776 ≤ A.nm := by omega
      refine KGO ?_
      exact ⟨by rw [hres]; rfl, K4.of_none⟩
    have hres : mailA A o = .ok ({ A with mails := A.mails ++ [newM A o], nm := A.nm + 1 }, A.nm) := by unfold mailA; rw [if_neg hz1, if_neg (by rw [h5]; simp), if_neg h6]; rfl
    have h7 : ¬ 4096 ≤ A.mails.length := by omega
    have h8 : ¬ 20 < (sortT o.add).length := by omega
    have h9 : ¬ 1099511627776 ≤ A.nm := by omega
    refine KGO ?_
    have hown : ∀ q, own_ h.M.v q → q < b := fun q hq => hd.lt q (Hd.all_m hq)
    have hbw : b < w.heap.size := hd.v.lt
    have hsz1 : w1.heap.size = b1 + 1 := z_w1
    have hS2 : ∀ u, Keeps w4 u (own_ h.M.v) → At u b 0 (accC h A) := fun u hu => at_keepc hdA4 hu fun e => by have := hown b e; omega
    have hS3 : ∀ u, Keeps w4 u (own_ h.M.v) → At u bm 0 (mrC ⟨newM A o, sb, sf⟩) := fun u hu => at_keepc vm4.at hu fun e => by have := hown bm e; omega
    refine Draw.heldEnd (fun u => Keeps w4 u (own_ h.M.v)) (fun _ => true) (by simp) (by decide +kernel) (by decide +kernel) (Keeps.refl _ _).drew ?_
    refine KGO ?_
    refine Held.one (by rfl) (fun u hu => hS2 u hu 1 _ rfl) ?_
    refine KGO ?_
    refine HeldG (mrC ⟨newM A o, sb, sf⟩) (by rfl) (by rfl) (fun u hu => hS3 u hu) (by rfl) ?_
    refine KGO ?_
    refine RunV.of (build_ml1 ⟨newM A o, sb, sf⟩ _) ?_
    have vb := VarK.new w4.drew 42 (mrC ⟨newM A o, sb, sf⟩)
    have k5 : Keeps w4 (w4.drew.alloc (.cells (mrC ⟨newM A o, sb, sf⟩).toArray 42)) none_ := (Keeps.refl w4 none_).drew.alloc _
    generalize w4.drew.alloc (.cells (mrC ⟨newM A o, sb, sf⟩).toArray 42) = w5 at *
    generalize w4.drew.heap.size = vbk at *
    refine ⟨k5.of_none, ?_⟩
    refine KGO ?_
    have K5 := K4.trans0 k5
    have hd5 := hd.keep K5
    have hlx : lx.length = A.mails.length := by rw [← hd.o.ml, List.length_map]
    refine app_Ml hd5.o.m (by have := hd5.B; have := hd5.v.lt; omega) ⟨newM A o, sb, sf⟩ vb (by omega) fun v6 w6 o6 k6 => ?_
    obtain ⟨a6, c6, rfl⟩ := own_shape o6
    refine ⟨k5.of_none.trans' k6, ?_⟩
    have vA := hd5.v.keep k6 fun e => by have := hown b e; omega
    have K46 : Keeps w1 w5 none_ := (K12.trans0 k3).trans0 (J4.trans0 k5)
    have obx := own_keep (own_keep0 ob ((k3.trans0 J4).trans0 k5)) k6 fun q hq e => by have := (ob.lt q hq).1; have := hown q e; omega
    have ofx := own_keep (own_keep0 of ((k3.trans0 J4).trans0 k5)) k6 fun q hq e => by have := (of.lt q hq).1; have := hown q e; omega
    have vm6 := (vm4.keep0 k5).keep k6 fun e => by have := hown bm e; omega
    have P := hd5.o.setM (v := ⟨a6, _, c6⟩) k6 o6 (l := A.mails ++ [newM A o]) (by rw [List.map_append, hd.o.ml]; rfl) fun y hy => by
      rcases List.mem_append.1 hy with hy | hy
      · exact .inl hy
      · rw [List.mem_singleton.1 hy]
        exact .inr ⟨own_base obx (Nat.zero_le _), own_base ofx (Nat.zero_le _)⟩
    have hnb := own_ne_of o6 vA (by decide)
    refine KGO ?_
    refine Store.cellK (i := 1) vA (Nat.le_of_ble_eq_true rfl) (by rfl) ⟨rfl, by simp, by simp⟩ fun w7 v7 k7 => ?_
    have hd7 := v7.at
    refine KGO ?_
    refine Store.cellK (i := 5) v7 (Nat.le_of_ble_eq_true rfl) (by rfl) ⟨rfl, by simp, by simp⟩ fun w8 v8 k8 => ?_
    have k78 := k7.trans' k8
    have hm8 := (vm6.keep k78 fun e => by have e : bm = b := e; omega).at
    refine KGO ?_
    have v8' : VarK w8 b 65 (accC { h with M := ⟨a6, (lx ++ [(⟨newM A o, sb, sf⟩ : Mr)]).length, c6⟩ } { A with mails := A.mails ++ [newM A o], nm := A.nm + 1 }) := v8
    have P' : AccP w6 { h with M := ⟨a6, (lx ++ [(⟨newM A o, sb, sf⟩ : Mr)]).length, c6⟩ } (lx ++ [⟨newM A o, sb, sf⟩]) { A with mails := A.mails ++ [newM A o], nm := A.nm + 1 } := ⟨P.b, P.s, P.n, P.m, P.ml, P.mb⟩
    have kf : Keeps w w8 (from_ B) := (K5.of_none.trans' (k6.mono fun q _ hq => (hd.o.m.lt q hq).1)).trans' (k78.mono fun q _ hq => by
      have e : q = b := hq
      have := hd.B
      show B ≤ q
      omega)
    have hfin : ∃ h', VarK w8 b 65 (accC h' { A with mails := A.mails ++ [newM A o], nm := A.nm + 1 }) ∧ AccR w8 h' { A with mails := A.mails ++ [newM A o], nm := A.nm + 1 } ∧ StabA w8 h' { A with mails := A.mails ++ [newM A o], nm := A.nm + 1 } := fin_of v8' P' k78 fun q hq => by
      unfold Hd.all Hd.bs at hq
      simp only [List.mem_append, mem_otl] at hq
      rcases hq with (((hq | hq) | hq) | hq) | hq
      · have := hd.lt q (Hd.all_b hq); omega
      · have := hd.lt q (Hd.all_s hq); omega
      · have := hd.lt q (Hd.all_n hq); omega
      · exact hnb q hq
      · obtain ⟨x, hx, hq⟩ := List.mem_flatMap.1 hq
        rcases List.mem_append.1 hx with hx | hx
        · exact Nat.ne_of_lt (hd.lt q (List.mem_append_right _ (List.mem_flatMap.2 ⟨x, hx, hq⟩)))
        · rw [List.mem_singleton.1 hx] at hq
          rcases bs_mem hq with hq | hq
          · exact fun e => absurd (ob.lt q hq).1 (by rw [e]; omega)
          · exact fun e => absurd (of.lt q hq).1 (by rw [e]; omega)
    rw [hres]
    exact ⟨⟨rfl, hfin⟩, kf⟩
end
end Go.Proofs.YtohhkegmbgancaaGreatDoor

-- alias Tryz
namespace Go.Proofs.YtohhkegmbgancaaGreatDoor
open Go.Shelf Go.RowKit Go.Pw Go.Vc Go.Cs Go.Lib
set_option linter.unusedVariables false
set_option maxRecDepth 100000
theorem erase_take {z : Int} : ∀ {l : List Int} {k : Nat} (hk : k < l.length), l[k] = z → (∀ j (hj : j < k), (l[j]'(by omega)) ≠ z) → l.erase z = l.take k ++ l.drop (k + 1)
  | [], k, hk, _, _ => by simp at hk
  | a :: r, 0, hk, he, _ => by
    have he : a = z := he
    subst he
    simp
  | a :: r, k + 1, hk, he, hn => by
    have h0 : a ≠ z := hn 0 (by omega)
    rw [List.erase_cons_tail (by simpa using h0), erase_take (l := r) (k := k) (by simpa using hk) he fun j hj => hn (j + 1) (by omega)]
    rfl
theorem bs_same {zs : List Mr} {i : Nat} {x : Mr} (hi : i < zs.length) (h : x.bs = zs[i].bs) : (zs.set i x).flatMap Mr.bs = zs.flatMap Mr.bs := by
  rw [List.flatMap_def, List.flatMap_def, List.map_set, h]
  congr 1
  apply List.ext_getElem (by simp)
  intro j h1 h2
  rw [List.getElem_set]
  split
  · rename_i e
    subst e
    rw [List.getElem_map]
  · rfl
section
variable {w w4 w6 : World} {B b g i : Nat} {h : Hd} {zs : List Mr} {A : Acc} {x : Mr}
/-- One message's mailboxes have turned in their own row, then its cells. -/
theorem Drf.turn (d : Drf w B b h zs A) (hi : i < zs.length) (hg : h.M.v.ownBlock = some g) (hbb : x.b.v.ownBlock = zs[i].b.v.ownBlock) (hff : x.f = zs[i].f) (hmf : x.m.flags = zs[i].m.flags)
    (k1 : Keeps w w4 (own_ zs[i].b.v)) (oi : OwnI w4 B x.b.v x.m.boxes) (k2 : Keeps w4 w6 (one_ g)) (o6 : OwnMl w6 B h.M.v (zs.set i x)) : Drf w6 B b h (zs.set i x) { A with mails := (zs.set i x).map (·.m) } := by
  have o := d.o
  obtain ⟨n1, n2, n3, n4⟩ := nd4 o.nd
  have hnd := (List.nodup_append.1 o.nd).2.1
  unfold List.Nodup at hnd
  rw [List.pairwise_flatMap] at hnd
  obtain ⟨p1, p2⟩ := hnd
  have hbs : x.bs = zs[i].bs := by unfold Mr.bs; rw [hbb, hff]
  have hib : ∀ q, own_ zs[i].b.v q → q ∈ zs.flatMap Mr.bs := fun q hq => List.mem_flatMap.2 ⟨_, List.getElem_mem hi, by unfold Mr.bs; rw [List.mem_append, mem_otl]; exact .inl hq⟩
  have hgx : ∀ q, q ∈ zs.flatMap Mr.bs → q ≠ g := fun q hq e => n4 g hg (e ▸ hq)
  have hrow : ∀ {s n : Nat} {e : TypeId} {v : Value} {xs : List Value}, w.ownsRow B e s v n xs → (∀ q, v.ownBlock = some q → q ∉ zs.flatMap Mr.bs ∧ q ≠ g) → w6.ownsRow B e s v n xs := fun ho hne =>
    own_keep (own_keep ho k1 fun q hq e => (hne q hq).1 (hib q e)) k2 fun q hq e => (hne q hq).2 e
  refine ⟨(d.v.keep k1 fun e => by have := d.lt b (List.mem_append_right _ (hib b e)); omega).keep k2 fun e => by have e : b = g := e; have := d.lt g (Hd.all_m hg); omega, ⟨?_, ?_, ?_, o6, rfl, ?_, ?_⟩, ?_, d.B⟩
  · exact hrow o.b fun q hq => ⟨(n1 q hq).2.2.2, fun e => (n1 q hq).2.2.1 (e ▸ hg)⟩
  · exact hrow o.s fun q hq => ⟨(n2 q hq).2.2, fun e => (n2 q hq).2.1 (e ▸ hg)⟩
  · exact hrow o.n fun q hq => ⟨(n3 q hq).2, fun e => (n3 q hq).1 (e ▸ hg)⟩
  · intro y hy
    obtain ⟨j, hj, rfl⟩ := List.getElem_of_mem hy
    rw [List.length_set] at hj
    rw [List.getElem_set]
    by_cases e : i = j
    · rw [if_pos e]
      have hxi := o.mb zs[i] (List.getElem_mem hi)
      refine ⟨own_keep oi k2 fun q hq e => hgx q (hib q (by rw [hbb] at hq; exact hq)) e, ?_⟩
      rw [hff, hmf]
      refine own_keep (own_keep hxi.2 k1 fun q hq e => ?_) k2 fun q hq e => ?_
      · have := p1 zs[i] (List.getElem_mem hi)
        unfold Mr.bs at this
        exact (List.pairwise_append.1 this).2.2 q (mem_otl.2 e) q (mem_otl.2 hq) rfl
      · exact hgx q (List.mem_flatMap.2 ⟨_, List.getElem_mem hi, by unfold Mr.bs; rw [List.mem_append, mem_otl, mem_otl]; exact .inr hq⟩) e
    · rw [if_neg e]
      have hxj := o.mb zs[j] (List.getElem_mem hj)
      have hdis : ∀ q, q ∈ zs[j].bs → ¬ own_ zs[i].b.v q := fun q hq hq2 => by
        have hq2 : q ∈ zs[i].bs := by unfold Mr.bs; rw [List.mem_append, mem_otl]; exact .inl hq2
        rcases Nat.lt_or_gt_of_ne e with e | e
        · exact (List.pairwise_iff_getElem.1 p2) i j hi hj e q hq2 q hq rfl
        · exact (List.pairwise_iff_getElem.1 p2) j i hj hi e q hq q hq2 rfl
      have hjm : ∀ q, q ∈ zs[j].bs → q ≠ g := fun q hq => hgx q (List.mem_flatMap.2 ⟨_, List.getElem_mem hj, hq⟩)
      have hb : ∀ q, zs[j].b.v.ownBlock = some q → q ∈ zs[j].bs := fun q hq => by unfold Mr.bs; rw [List.mem_append, mem_otl]; exact .inl hq
      have hf : ∀ q, zs[j].f.v.ownBlock = some q → q ∈ zs[j].bs := fun q hq => by unfold Mr.bs; rw [List.mem_append, mem_otl, mem_otl]; exact .inr hq
      exact ⟨own_keep (own_keep hxj.1 k1 fun q hq e => hdis q (hb q hq) e) k2 fun q hq e => hjm q (hb q hq) e, own_keep (own_keep hxj.2 k1 fun q hq e => hdis q (hf q hq) e) k2 fun q hq e => hjm q (hf q hq) e⟩
  · rw [bs_same hi hbs]; exact o.nd
  · rw [bs_same hi hbs]; exact d.lt
end
end Go.Proofs.YtohhkegmbgancaaGreatDoor
