/- Helper text of this claim: Af5: lemmas and contracts that the proved statement rests on; no conditions of its own. -/
import Derived.Test.YtohhkegmbgancaaGreatDoorGAf4
-- alias Tryz
namespace Go.Proofs.YtohhkegmbgancaaGreatDoor
open Go.Shelf Go.RowKit Go.Pw Go.Vc Go.Cs Go.Lib
set_option linter.unusedVariables false
set_option maxRecDepth 100000
section
variable {w : World}
theorem bsOp1 (v : Ov) (o : Opr) (w : World) : (Instr.buildSlice 22 1 [(0, .agg (opC v o).toArray)].toArray).run Tryz.prog w = .ok (.slice (some ⟨w.heap.size, 0, none⟩) 1 1) (w.alloc (.cells (List.toArray (opC v o)) 28)) := by
  simp [Instr.buildSlice, go_sem, Tryz.runUnderlying22, opC, dgC]
structure FlI where
  i : Nat
  A : Acc
  h : Hd
theorem hd_len {w : World} {h : Hd} {A : Acc} (r : AccR w h A) : h.M.n = A.mails.length := by
  obtain ⟨lx, h1, h2, _⟩ := r.m
  rw [RowO.len h2, ← h1, List.length_map]
set_option maxHeartbeats 16000000 in
theorem lw_Flags42 {v : Value} (l : List Opr) (x : Ov) (y : Opr) (s : ByteArray) (hv : RowOp w v l) (hl : l.length ≤ 1000000000000) (hf : ∀ o ∈ l, FitO o) (ho : OpR w x y) (fo : FitO y) (hE : BEnv w) :
    Calls Tryz.prog 3 #[v, .agg (opC x y).toArray, .string s] w fun e w' => e = .returned (.bool true) ∧ Keeps w w' none_ := by
  obtain ⟨flag, rfl⟩ : ∃ f, s = str f := ⟨L s, (str_L s).symm⟩
  have hv0 := hv
  obtain ⟨lv, hlv, hr, hop⟩ := hv
  have hlen : lv.length = l.length := by rw [← hlv, List.length_map]
  obtain ⟨a, cap, rfl, hr⟩ := hr
  refine calls_of_vc (args := [.slice a lv.length cap, .agg (opC x y).toArray, .string (str flag)]) Tryz.func3 rfl (Nat.le_of_ble_eq_true rfl) ?_; refine Sat.go hmix ?_; conv => whnf
  have a_bo := at_fresh w 28 (opC x y)
  have v_bo := VarK.new w 28 (opC x y)
  have k_w0 : Keeps w (w.alloc (.cells (List.toArray (opC x y)) 28)) none_ := (Keeps.refl _ _).alloc _
  have z_w0 : (w.alloc (.cells (List.toArray (opC x y)) 28)).heap.size = w.heap.size + 1 := by simp
  generalize w.alloc (.cells (List.toArray (opC x y)) 28) = w0 at *
  generalize hs_bo : w.heap.size = bo at *
  have r_w0 : Keeps w0 w0 none_ := Keeps.refl _ _
  refine KGO ?_
  refine CallS.of (Tryz.call7 _ _) (lw_small42 (w := w0) (hE.keep k_w0)) ?_
  rintro e w1 ⟨rfl, k1⟩
  have K1 := k_w0.trans0 k1
  refine ⟨_, rfl, ?_⟩; (first | refine Then.go hmix ?_ | refine Sat.go hmix ?_ | refine ResK.go ?_ | skip); conv => whnf
  refine KGO ?_
  refine CallS.of (Tryz.call8 _ _) (lw_few42 (w := w1) l (hv0.keep K1) hl hf) ?_
  rintro e w2 ⟨⟨q, rfl, hq⟩, k2⟩
  have K2 := K1.trans0 k2
  have J2 := k1.trans0 k2
  refine ⟨_, rfl, ?_⟩; (first | refine Then.go hmix ?_ | refine Sat.go hmix ?_ | refine ResK.go ?_ | skip); conv => whnf
  cases q with
  | false =>
    refine KGO ?_
    exact ⟨rfl, K2⟩
  | true =>
  have h40 : lv.length ≤ 40 := by rw [hlen]; exact hq rfl
  clear hq
  refine KGO ?_
  refine RunV.of (bsOp1 _ _ _) ?_
  have k_w3 : Keeps w2 (w2.alloc (.cells (List.toArray (opC x y)) 28)) none_ := (Keeps.refl _ _).alloc _
  have r3 : RowOp (w2.alloc (.cells (List.toArray (opC x y)) 28)) (.slice (some ⟨w2.heap.size, 0, none⟩) 1 1) [y] := ⟨[(x, y)], rfl, row_new opC' [(x, y)] 1 (by have := at_fresh w2 28 (opC x y); simpa [opC'] using this) (by simp), fun p hp => by rw [List.mem_singleton.1 hp]; exact ho.keep (K2.trans0 k_w3)⟩
  generalize w2.alloc (.cells (List.toArray (opC x y)) 28) = w3 at *
  generalize w2.heap.size = b3 at *
  have K3 := K2.trans0 k_w3
  have J3 := J2.trans0 k_w3
  refine KGO ?_
  refine CallS.of (Tryz.call8 _ _) (lw_few42 (w := w3) [y] r3 (by simp) (by simpa using fo)) ?_
  rintro e w4 ⟨⟨q2, rfl, -⟩, k4⟩
  have K4 := K3.trans0 k4
  have J4 := J3.trans0 k4
  clear r3
  refine ⟨_, rfl, ?_⟩; (first | refine Then.go hmix ?_ | refine Sat.go hmix ?_ | refine ResK.go ?_ | skip); conv => whnf
  cases q2 with
  | false =>
    refine KGO ?_
    exact ⟨rfl, K4⟩
  | true =>
  refine KGO ?_
  refine CallS.of (Tryz.call9 _ _) (ac_New (w := w4) (hE.keep K4)) ?_
  rintro e w5 ⟨h0, rfl, st0, k5⟩
  have K5 := K4.trans0 k5
  have J5 := J4.trans0 k5
  have z5 := J5.size
  refine ⟨_, rfl, ?_⟩; (first | refine Then.go hmix ?_ | refine Sat.go hmix ?_ | refine ResK.go ?_ | skip); conv => whnf
  refine KGO ?_
  have v8 := VarK.new w5 36 (accC h0 newA)
  refine Store.fresh (vs := accC h0 newA) (by rfl) rfl (flat_of (by rfl)) ?_
  have a_b8 := at_fresh w5 36 (accC h0 newA)
  have k_w6 : Keeps w5 (w5.alloc (.cells (List.toArray (accC h0 newA)) 36)) none_ := (Keeps.refl _ _).alloc _
  have z_w6 : (w5.alloc (.cells (List.toArray (accC h0 newA)) 36)).heap.size = w5.heap.size + 1 := by simp
  generalize w5.alloc (.cells (List.toArray (accC h0 newA)) 36) = w6 at *
  generalize hs_b8 : w5.heap.size = b8 at *
  have st0 := st0.keep k_w6
  have K6 := K5.trans0 k_w6
  have J6 := J5.trans0 k_w6
  have hb8 : bo < b8 := by omega
  refine KGO ?_
  refine Loop.intro (ι := FlI) (fun p => [(0, .slice a lv.length cap), (2, .string (str flag)), (4, .pointer (some ⟨bo, 0, none⟩)), (7, .bool true), (8, .pointer (some ⟨b8, 0, none⟩)), (9, .int .i64 (p.i : Nat))])
    (fun p wr => Keeps w wr none_ ∧ Keeps w0 wr none_ ∧ p.i ≤ lv.length ∧ GoodP p.A ∧ StabA wr p.h p.A ∧ VarK wr b8 36 (accC p.h p.A)) (fun p => lv.length - p.i) ⟨0, newA, h0⟩ ⟨rfl, rfl, rfl, rfl, rfl, rfl, trivial⟩ ⟨K6, J6, Nat.zero_le _, good_new, st0, v8⟩ ?_
  rintro ⟨i, A, h⟩ gg wr ⟨hK, hJ, hi, gA, stA, vA⟩
  dsimp only at hi gA stA vA ⊢
  clear st0 v8 a_b8
  (first | refine Then.go hmix ?_ | refine Sat.go hmix ?_ | refine ResK.go ?_ | skip); conv => whnf
  by_cases hlt : i < lv.length
  · obtain ⟨gb, o, rfl, hgb, hat⟩ := hr (by omega)
    have hat := at_mono hat hK
    have kr : Keeps wr wr none_ := Keeps.refl _ _
    have hO := hop lv[i] (List.getElem_mem hlt)
    have hfo := hf lv[i].2 (by rw [← hlv]; exact List.mem_map_of_mem (List.getElem_mem hlt))
    have haA := vA.at
    refine KGO ?_
    have fA := fit_of gA
    have hAt : A.st ≤ 1099511627776 := by have := gA.top; unfold M40 at this; omega
    have hopat : At wr gb (o + i * 45) (opC lv[i].1 lv[i].2) := at_row (enc := opC') hat (fun _ => rfl) hlt
    refine Draw.cut (ι := Nat × Hd) (fun p => [(0, .slice (some ⟨gb, o, none⟩) lv.length cap), (2, .string (str flag)), (4, .pointer (some ⟨bo, 0, none⟩)), (7, .bool true), (8, .pointer (some ⟨b8, 0, none⟩)), (9, .int .i64 (i : Nat)), (10, .pointer (some ⟨p.1, 0, none⟩))]) (fun p u => Keeps wr u none_ ∧ VarK u p.1 36 (accC p.2 (applyA A lv[i].2).1) ∧ StabA u p.2 (applyA A lv[i].2).1 ∧ wr.heap.size ≤ p.1) ?_ ?_
    · have kd : Keeps wr wr.drew none_ := (Keeps.refl wr none_).drew
      refine Draw.ways (fun u => Keeps wr u none_) (fun _ => true) [[0, 1, 2, 3, 4, 5, 6, 7, 8, 9, 10, 11, 12, 13], [0, 1, 2, 3, 4, 10, 5, 6, 7, 8, 9, 11, 12, 13]] (by decide +kernel) kd ?_
      intro L' hL'
      simp only [List.mem_cons, List.not_mem_nil, or_false] at hL'
      rcases hL' with rfl | rfl
      · refine KGO ?_
        refine HeldW (by rfl) (by rfl) hopat (fun _ hu => hu) (by rfl) ?_
        refine KGO ?_
        refine CallS.of (Tryz.call10 _ _) (ac_Apply (w := wr.drew) (stA.keep kd).read fA hAt gA.sasc (hO.keep (hK.trans0 kd)) hfo (hE.keep (hK.trans0 kd))) ?_
        rintro e w5 ⟨h', rfl, st', k5⟩
        have J5 : Keeps wr w5 none_ := kd.trans0 k5
        refine ⟨_, rfl, ?_⟩; (first | refine Then.go hmix ?_ | refine Sat.go hmix ?_ | refine ResK.go ?_ | skip); conv => whnf
        refine ⟨J5, ?_⟩
        refine KGO ?_
        have a_b6 := at_fresh w5 36 (zAcc')
        have v_b6 := VarK.new w5 36 (zAcc')
        have k_w6 : Keeps w5 (w5.alloc (.cells (List.toArray (zAcc')) 36)) none_ := (Keeps.refl _ _).alloc _
        have z_w6 : (w5.alloc (.cells (List.toArray (zAcc')) 36)).heap.size = w5.heap.size + 1 := by simp
        generalize w5.alloc (.cells (List.toArray (zAcc')) 36) = w6 at *
        generalize hs_b6 : w5.heap.size = b6 at *
        have r_w6 : Keeps w6 w6 none_ := Keeps.refl _ _
        have J6 := J5.trans0 k_w6
        have z5 := J5.size
        refine ⟨J6, ?_⟩
        refine KGO ?_
        refine Store.varK (accC h' (applyA A lv[i].2).1) v_b6 (by rfl) rfl (flat_of (by rfl)) fun w7 v7 k7 => ?_
        have J7 : Keeps wr w7 none_ := keeps_new J6 k7 (by omega)
        have st7 := (st'.keep k_w6).step v_b6 k7
        refine ⟨J7, ?_⟩
        refine KGO ?_
        exact ⟨(b6, h'), ⟨rfl, rfl, rfl, rfl, rfl, rfl, rfl, trivial⟩, J7, v7, st7, by dsimp only; omega⟩
      · refine KGO ?_
        refine HeldW (by rfl) (by rfl) hopat (fun _ hu => hu) (by rfl) ?_
        refine KGO ?_
        have a_b6 := at_fresh wr.drew 36 (zAcc')
        have v_b6 := VarK.new wr.drew 36 (zAcc')
        have k_w6 : Keeps wr.drew (wr.drew.alloc (.cells (List.toArray (zAcc')) 36)) none_ := (Keeps.refl _ _).alloc _
        have z_w6 : (wr.drew.alloc (.cells (List.toArray (zAcc')) 36)).heap.size = wr.drew.heap.size + 1 := by simp
        generalize wr.drew.alloc (.cells (List.toArray (zAcc')) 36) = w6 at *
        generalize hs_b6 : wr.drew.heap.size = b6 at *
        have r_w6 : Keeps w6 w6 none_ := Keeps.refl _ _
        have J6 : Keeps wr w6 none_ := kd.trans0 k_w6
        have z5 := kd.size
        refine ⟨J6, ?_⟩
        refine KGO ?_
        refine CallS.of (Tryz.call10 _ _) (ac_Apply (w := w6) (stA.keep J6).read fA hAt gA.sasc (hO.keep (hK.trans0 J6)) hfo (hE.keep (hK.trans0 J6))) ?_
        rintro e w5 ⟨h', rfl, st', k5⟩
        have J5 : Keeps wr w5 none_ := J6.trans0 k5
        have v6 := v_b6.keep0 k5
        refine ⟨_, rfl, ?_⟩; (first | refine Then.go hmix ?_ | refine Sat.go hmix ?_ | refine ResK.go ?_ | skip); conv => whnf
        refine ⟨J5, ?_⟩
        refine KGO ?_
        refine Store.varK (accC h' (applyA A lv[i].2).1) v6 (by rfl) rfl (flat_of (by rfl)) fun w7 v7 k7 => ?_
        have J7 : Keeps wr w7 none_ := keeps_new J5 k7 (by omega)
        have st7 := st'.step v6 k7
        refine ⟨J7, ?_⟩
        refine KGO ?_
        exact ⟨(b6, h'), ⟨rfl, rfl, rfl, rfl, rfl, rfl, rfl, trivial⟩, J7, v7, st7, by dsimp only; omega⟩
    rintro ⟨b10, h'⟩ g8 w8 ⟨K8, v10, st8, hb10⟩
    dsimp only at v10 st8 hb10 ⊢
    have gB := good_apply gA lv[i].2
    have vA := vA.keep0 K8
    have a10 := v10.at
    have kr8 : Keeps w8 w8 none_ := Keeps.refl _ _
    (first | refine Then.go hmix ?_ | refine Sat.go hmix ?_ | refine ResK.go ?_ | skip); conv => whnf
    refine KGO ?_
    refine Store.varK (accC h' (applyA A lv[i].2).1) vA (by rfl) rfl (flat_of (by rfl)) fun w19 v19 k19 => ?_
    refine KGO ?_
    exact ⟨⟨i + 1, (applyA A lv[i].2).1, h'⟩, ⟨rfl, rfl, rfl, rfl, rfl, v_int (by simp), trivial⟩, ⟨keeps_new (hK.trans0 K8) k19 (by omega), keeps_new (hJ.trans0 K8) k19 (by omega), by dsimp only; omega, gB, st8.step vA k19, v19⟩, by dsimp only; omega⟩
  have vo := v_bo.keep0 hJ
  have zw0 : w.heap.size ≤ bo := by omega
  clear hr hop hlv hv0 hf a_bo
  refine KGO ?_
  refine Store.cellK (i := 0) vo (Nat.le_of_ble_eq_true rfl) (by rfl) ⟨rfl, by simp, by simp⟩ fun w7 v7 k7 => ?_
  obtain ⟨o2, ho2⟩ : ∃ o2 : Opr, o2 = { y with kind := 2 } := ⟨_, rfl⟩
  have v7 : VarK w7 bo 28 (opC x o2) := by rw [ho2]; exact v7
  have K7 : Keeps w w7 none_ := keeps_new hK k7 (by omega)
  have r7 : OpR w7 x o2 := OpR.keep (w := w) (by rw [ho2]; exact ⟨ho.b, ho.a, ho.d⟩) K7
  have f7 : FitO o2 := by rw [ho2]; exact ⟨fo.b, fo.a, fo.d, fo.fa, fo.fd, fo.nm, fo.rl, fo.tx⟩
  have hk2 : o2.kind = 2 := by rw [ho2]
  have st7 := stA.stepO vo k7
  have vA := vA.keep k7 (fun e => by have e : b8 = bo := e; omega)
  clear ho2 vo stA hi hlt h40 hlen
  have fA := fit_of gA
  have hAt : A.st ≤ 1099511627776 := by have := gA.top; unfold M40 at this; omega
  have kr7 : Keeps w7 w7 none_ := Keeps.refl _ _
  have a8 := vA.at
  have a4 := v7.at
  refine KGO ?_
  refine CallS.of (Tryz.call10 _ _) (ac_Apply (w := w7) st7.read fA hAt gA.sasc r7 f7 (hE.keep K7)) ?_
  rintro e w8 ⟨h', rfl, st8, k8⟩
  have hF := flags_says gA hk2
  have gB := good_apply gA o2
  generalize (applyA A o2).1 = B at *
  generalize (applyA A o2).2.1 = n at *
  generalize (applyA A o2).2.2 = e at *
  have fB := fit_of gB
  have K8 := K7.trans0 k8
  refine ⟨_, rfl, ?_⟩; (first | refine Then.go hmix ?_ | refine Sat.go hmix ?_ | refine ResK.go ?_ | skip); conv => whnf
  refine KGO ?_
  refine Store.fresh (vs := accC h' B) (by rfl) rfl (flat_of (by rfl)) ?_
  have a_b13 := at_fresh w8 36 (accC h' B)
  have k_w9 : Keeps w8 (w8.alloc (.cells (List.toArray (accC h' B)) 36)) none_ := (Keeps.refl _ _).alloc _
  have z_w9 : (w8.alloc (.cells (List.toArray (accC h' B)) 36)).heap.size = w8.heap.size + 1 := by simp
  generalize w8.alloc (.cells (List.toArray (accC h' B)) 36) = w9 at *
  generalize hs_b13 : w8.heap.size = b13 at *
  have J9 := k8.trans0 k_w9
  have K9 := K8.trans0 k_w9
  have a8 := at_mono a8 J9
  have a4 := at_mono a4 J9
  have kr9 : Keeps w9 w9 none_ := Keeps.refl _ _
  have sA := st7.read.keep J9
  have sB := st8.read.keep k_w9
  have hO2 := r7
  have hfad := f7.a
  have hfdr := f7.d
  clear st7 st8 kr7 r7 f7
  refine KGO ?_
  refine CallS.of (Tryz.call11 _ _) (ac_Find (w := w9) o2.id sA (by have := fA.ml; omega) (fun m hm => by have := fA.mb m hm; omega)) ?_
  rintro e1 w10 ⟨ya, rfl, hya, oya, k10⟩
  refine ⟨_, rfl, ?_⟩; (first | refine Then.go hmix ?_ | refine Sat.go hmix ?_ | refine ResK.go ?_ | skip); conv => whnf
  refine KGO ?_
  refine Store.fresh (vs := mrC ya) (by rfl) rfl (flat_of (by rfl)) ?_
  have a_b16 := at_fresh w10 42 (mrC ya)
  have k_w11 : Keeps w10 (w10.alloc (.cells (List.toArray (mrC ya)) 42)) none_ := (Keeps.refl _ _).alloc _
  have z_w11 : (w10.alloc (.cells (List.toArray (mrC ya)) 42)).heap.size = w10.heap.size + 1 := by simp
  generalize w10.alloc (.cells (List.toArray (mrC ya)) 42) = w11 at *
  generalize hs_b16 : w10.heap.size = b16 at *
  have J11 := k10.trans0 k_w11
  have K11 := K9.trans0 J11
  have a8 := at_mono a8 J11
  have a4 := at_mono a4 J11
  have a13 := at_mono a_b13 J11
  have kr11 : Keeps w11 w11 none_ := Keeps.refl _ _
  have sA := sA.keep J11
  have sB := sB.keep J11
  have oya := oya.keep k_w11
  clear kr9 a_b13
  refine KGO ?_
  refine CallS.of (Tryz.call11 _ _) (ac_Find (w := w11) o2.id sB (by have := fB.ml; omega) (fun m hm => by have := fB.mb m hm; omega)) ?_
  rintro e1 w12 ⟨yb, rfl, hyb, oyb, k12⟩
  refine ⟨_, rfl, ?_⟩; (first | refine Then.go hmix ?_ | refine Sat.go hmix ?_ | refine ResK.go ?_ | skip); conv => whnf
  refine KGO ?_
  refine Store.fresh (vs := mrC yb) (by rfl) rfl (flat_of (by rfl)) ?_
  have a_b18 := at_fresh w12 42 (mrC yb)
  have k_w13 : Keeps w12 (w12.alloc (.cells (List.toArray (mrC yb)) 42)) none_ := (Keeps.refl _ _).alloc _
  have z_w13 : (w12.alloc (.cells (List.toArray (mrC yb)) 42)).heap.size = w12.heap.size + 1 := by simp
  generalize w12.alloc (.cells (List.toArray (mrC yb)) 42) = w13 at *
  generalize hs_b18 : w12.heap.size = b18 at *
  have J13 := k12.trans0 k_w13
  have K13 := K11.trans0 J13
  have a8 := at_mono a8 J13
  have a4 := at_mono a4 J13
  have a13 := at_mono a13 J13
  have a16 := at_mono a_b16 J13
  have a18 := a_b18
  have kr13 : Keeps w13 w13 none_ := Keeps.refl _ _
  have sA := sA.keep J13
  have sB := sB.keep J13
  have oya := oya.keep J13
  have oyb := oyb.keep k_w13
  have hMA := hd_len sA
  have hMB := hd_len sB
  have hlenM := hF.len
  have J13 : Keeps w7 w13 none_ := (J9.trans0 J11).trans0 J13
  clear kr11 a_b16 a_b18 k12 k_w13 J11 k10 k_w11 k_w9 J9 k8
  cases hfa : findL A.mails o2.id with
  | none =>
    obtain ⟨hfb, he5⟩ := hF.none_ hfa
    have hfb : findL B.mails o2.id = none := hfb
    rw [hfb]
    subst he5
    clear hF
    dsimp only [Option.isSome]
    refine KGO ?_
    exact ⟨rfl, K13⟩
  | some m =>
  obtain ⟨n', hfb, hrest⟩ := hF.some_ m hfa
  have hfb : findL B.mails o2.id = some n' := hfb
  have hoth := hF.other
  rw [hfa] at hya
  rw [hfb] at hyb
  rw [hfb]
  dsimp only [Option.isSome, Option.getD] at hya hyb ⊢
  clear hF
  by_cases he : e = 0
  rotate_left
  · clear hoth hrest
    refine KGO ?_
    exact ⟨rfl, K13⟩
  specialize hoth he
  obtain ⟨hbx, hmd, hfl⟩ := hrest he
  subst he
  obtain ⟨lx, hlx, hmx, hox⟩ := sA.m
  obtain ⟨ly, hly, hmy, hoy⟩ := sB.m
  have hll : lx.length = A.mails.length := by rw [← hlx, List.length_map]
  have hll2 : ly.length = B.mails.length := by rw [← hly, List.length_map]
  have hml : lx.length ≤ 4096 := by rw [hll]; exact gA.ml
  obtain ⟨hxm1, hxm2⟩ : ya.m.boxes.length ≤ 100000 ∧ ya.m.flags.length ≤ 200 := by rw [hya]; exact fA.mb m (find_id hfa).1
  obtain ⟨hym1, hym2⟩ : yb.m.boxes.length ≤ 100000 ∧ yb.m.flags.length ≤ 200 := by rw [hyb]; exact fB.mb n' (find_id hfb).1
  rw [← hya, ← hyb] at hbx
  rw [← hyb] at hmd
  have hfl : ∀ f, f ∈ yb.m.flags ↔ (f ∈ ya.m.flags ∨ f ∈ o2.add) ∧ f ∉ o2.drop := by rw [hya, hyb]; exact hfl
  obtain ⟨ma, mc, hMe, hmr⟩ := hmx
  injection hMe with e1 e2 e3
  obtain ⟨mb, mbc, hMe2, hmr2⟩ := hmy
  injection hMe2 with e4 e5 e6
  have a8 : At w13 b8 0 [.slice h.B.a h.B.n h.B.c, .slice ma lx.length mc, .slice h.S.a h.S.n h.S.c, .string (str A.active), .slice h.N.a h.N.n h.N.c, .int .i64 A.nm, .int .i64 A.nb, .int .i64 A.st] := by
    have := a8
    unfold accC at this
    rw [e1, e2, e3] at this
    exact this
  have a13 : At w13 b13 0 [.slice h'.B.a h'.B.n h'.B.c, .slice mb ly.length mbc, .slice h'.S.a h'.S.n h'.S.c, .string (str B.active), .slice h'.N.a h'.N.n h'.N.c, .int .i64 B.nm, .int .i64 B.nb, .int .i64 B.st] := by
    have := a13
    unfold accC at this
    rw [e4, e5, e6] at this
    exact this
  clear sA sB hMA hMB hrest hfa hfb
  refine KGO ?_
  refine Loop.intro (ι := Nat) (fun j => [(2, .string (str flag)), (4, .pointer (some ⟨bo, 0, none⟩)), (7, .bool true), (8, .pointer (some ⟨b8, 0, none⟩)), (13, .pointer (some ⟨b13, 0, none⟩)), (16, .pointer (some ⟨b16, 0, none⟩)), (18, .pointer (some ⟨b18, 0, none⟩)), (20, .int .i64 (j : Nat))])
    (fun j wr => Keeps w13 wr none_ ∧ j ≤ lx.length) (fun j => lx.length - j) 0 ⟨rfl, rfl, rfl, rfl, rfl, rfl, rfl, rfl, trivial⟩ ⟨Keeps.refl _ _, Nat.zero_le _⟩ ?_
  rintro j g14 wj ⟨kj, hj⟩
  (first | refine Then.go hmix ?_ | refine Sat.go hmix ?_ | refine ResK.go ?_ | skip); conv => whnf
  by_cases hjt : j < lx.length
  · obtain ⟨ga, oa, rfl, hga, hata⟩ := hmr (by omega)
    obtain ⟨gb, ob, rfl, hgb, hatb⟩ := hmr2 (by omega)
    have hjt2 : j < ly.length := by omega
    have hrx : At w13 ga (oa + j * 38) (mrC lx[j]) := at_row hata (fun _ => rfl) hjt
    have hry : At w13 gb (ob + j * 38) (mrC ly[j]) := at_row hatb (fun _ => rfl) hjt2
    have hxj : lx[j].m = A.mails[j]'(by omega) := by simp [← hlx]
    have hyj : ly[j].m = B.mails[j]'(by omega) := by simp [← hly]
    have hbl := fA.mb lx[j].m (by rw [hxj]; exact List.getElem_mem _)
    have hbl2 := fB.mb ly[j].m (by rw [hyj]; exact List.getElem_mem _)
    by_cases hid : lx[j].m.id = o2.id
    · refine KGO ?_
      exact ⟨j + 1, ⟨rfl, rfl, rfl, rfl, rfl, rfl, rfl, v_int (by simp), trivial⟩, ⟨kj.drew, by omega⟩, by dsimp only; omega⟩
    · refine KGO ?_
      refine CallS.of (Tryz.call12 _ _) (rf_SameMail (w := wj.drew) lx[j] ly[j] ((hox _ (List.getElem_mem hjt)).keep kj.drew) ((hoy _ (List.getElem_mem hjt2)).keep kj.drew) (by omega) (by omega) (by omega) (by omega)) ?_
      rintro e w14 ⟨rfl, k14⟩
      have hsame : lx[j].m = ly[j].m := by rw [hxj, hyj]; exact (hoth j (by omega) (by omega) (by rw [← hxj]; exact hid)).symm
      rw [decide_eq_true hsame]
      refine ⟨_, rfl, ?_⟩; (first | refine Then.go hmix ?_ | refine Sat.go hmix ?_ | refine ResK.go ?_ | skip); conv => whnf
      refine KGO ?_
      exact ⟨j + 1, ⟨rfl, rfl, rfl, rfl, rfl, rfl, rfl, v_int (by simp), trivial⟩, ⟨kj.drew.trans0 k14, by omega⟩, by dsimp only; omega⟩
  refine KGO ?_
  refine CallS.of (Tryz.call13 _ _) (lw_has (w := wj) ya.m.flags flag (oya.f.keep kj) (by omega)) ?_
  rintro e w14 ⟨rfl, k14⟩
  have K14 := kj.trans0 k14
  refine ⟨_, rfl, ?_⟩; (first | refine Then.go hmix ?_ | refine Sat.go hmix ?_ | refine ResK.go ?_ | skip); conv => whnf
  by_cases d1 : flag ∈ ya.m.flags
  · rw [decide_eq_true d1]
    refine KGO ?_
    refine CallS.of (Tryz.call13 _ _) (lw_has (w := w14) o2.drop flag ((hO2.d.keep J13).keep K14) (by omega)) ?_
    rintro e w16 ⟨rfl, k16⟩
    have K16 := (K14).trans0 k16
    refine ⟨_, rfl, ?_⟩; (first | refine Then.go hmix ?_ | refine Sat.go hmix ?_ | refine ResK.go ?_ | skip); conv => whnf
    by_cases d3 : flag ∈ o2.drop
    · rw [decide_eq_true d3]
      refine KGO ?_
      refine CallS.of (Tryz.call13 _ _) (lw_has (w := w16) yb.m.flags flag (oyb.f.keep K16) (by omega)) ?_
      rintro e w17 ⟨rfl, k17⟩
      rw [show decide (flag ∈ yb.m.flags) = false from (decide_eq_false fun q => ((hfl flag).1 q).2 d3)]
      have K17 := (K16).trans0 k17
      refine ⟨_, rfl, ?_⟩; (first | refine Then.go hmix ?_ | refine Sat.go hmix ?_ | refine ResK.go ?_ | skip); conv => whnf
      refine KGO ?_
      refine CallS.of (Tryz.call14 _ _) (rf_SameInts (w := w17) ya.m.boxes yb.m.boxes (oya.b.keep K17) (oyb.b.keep K17) (by omega) (by omega)) ?_
      rintro e w18 ⟨rfl, k18⟩
      rw [decide_eq_true hbx.symm]
      have K18 := K17.trans0 k18
      refine ⟨_, rfl, ?_⟩; (first | refine Then.go hmix ?_ | refine Sat.go hmix ?_ | refine ResK.go ?_ | skip); conv => whnf
      refine KGO ?_
      exact ⟨by simp [hmd], K13.trans0 K18⟩
    · rw [decide_eq_false d3]
      refine KGO ?_
      refine CallS.of (Tryz.call13 _ _) (lw_has (w := w16) yb.m.flags flag (oyb.f.keep K16) (by omega)) ?_
      rintro e w17 ⟨rfl, k17⟩
      rw [show decide (flag ∈ yb.m.flags) = true from (decide_eq_true ((hfl flag).2 ⟨.inl d1, d3⟩))]
      have K17 := (K16).trans0 k17
      refine ⟨_, rfl, ?_⟩; (first | refine Then.go hmix ?_ | refine Sat.go hmix ?_ | refine ResK.go ?_ | skip); conv => whnf
      refine KGO ?_
      refine CallS.of (Tryz.call14 _ _) (rf_SameInts (w := w17) ya.m.boxes yb.m.boxes (oya.b.keep K17) (oyb.b.keep K17) (by omega) (by omega)) ?_
      rintro e w18 ⟨rfl, k18⟩
      rw [decide_eq_true hbx.symm]
      have K18 := K17.trans0 k18
      refine ⟨_, rfl, ?_⟩; (first | refine Then.go hmix ?_ | refine Sat.go hmix ?_ | refine ResK.go ?_ | skip); conv => whnf
      refine KGO ?_
      exact ⟨by simp [hmd], K13.trans0 K18⟩
  · rw [decide_eq_false d1]
    refine KGO ?_
    refine CallS.of (Tryz.call13 _ _) (lw_has (w := w14) o2.add flag ((hO2.a.keep J13).keep K14) (by omega)) ?_
    rintro e w15 ⟨rfl, k15⟩
    have K15 := K14.trans0 k15
    refine ⟨_, rfl, ?_⟩; (first | refine Then.go hmix ?_ | refine Sat.go hmix ?_ | refine ResK.go ?_ | skip); conv => whnf
    by_cases d2 : flag ∈ o2.add
    · rw [decide_eq_true d2]
      refine KGO ?_
      refine CallS.of (Tryz.call13 _ _) (lw_has (w := w15) o2.drop flag ((hO2.d.keep J13).keep K15) (by omega)) ?_
      rintro e w16 ⟨rfl, k16⟩
      have K16 := (K15).trans0 k16
      refine ⟨_, rfl, ?_⟩; (first | refine Then.go hmix ?_ | refine Sat.go hmix ?_ | refine ResK.go ?_ | skip); conv => whnf
      by_cases d3 : flag ∈ o2.drop
      · rw [decide_eq_true d3]
        refine KGO ?_
        refine CallS.of (Tryz.call13 _ _) (lw_has (w := w16) yb.m.flags flag (oyb.f.keep K16) (by omega)) ?_
        rintro e w17 ⟨rfl, k17⟩
        rw [show decide (flag ∈ yb.m.flags) = false from (decide_eq_false fun q => ((hfl flag).1 q).2 d3)]
        have K17 := (K16).trans0 k17
        refine ⟨_, rfl, ?_⟩; (first | refine Then.go hmix ?_ | refine Sat.go hmix ?_ | refine ResK.go ?_ | skip); conv => whnf
        refine KGO ?_
        refine CallS.of (Tryz.call14 _ _) (rf_SameInts (w := w17) ya.m.boxes yb.m.boxes (oya.b.keep K17) (oyb.b.keep K17) (by omega) (by omega)) ?_
        rintro e w18 ⟨rfl, k18⟩
        rw [decide_eq_true hbx.symm]
        have K18 := K17.trans0 k18
        refine ⟨_, rfl, ?_⟩; (first | refine Then.go hmix ?_ | refine Sat.go hmix ?_ | refine ResK.go ?_ | skip); conv => whnf
        refine KGO ?_
        exact ⟨by simp [hmd], K13.trans0 K18⟩
      · rw [decide_eq_false d3]
        refine KGO ?_
        refine CallS.of (Tryz.call13 _ _) (lw_has (w := w16) yb.m.flags flag (oyb.f.keep K16) (by omega)) ?_
        rintro e w17 ⟨rfl, k17⟩
        rw [show decide (flag ∈ yb.m.flags) = true from (decide_eq_true ((hfl flag).2 ⟨.inr d2, d3⟩))]
        have K17 := (K16).trans0 k17
        refine ⟨_, rfl, ?_⟩; (first | refine Then.go hmix ?_ | refine Sat.go hmix ?_ | refine ResK.go ?_ | skip); conv => whnf
        refine KGO ?_
        refine CallS.of (Tryz.call14 _ _) (rf_SameInts (w := w17) ya.m.boxes yb.m.boxes (oya.b.keep K17) (oyb.b.keep K17) (by omega) (by omega)) ?_
        rintro e w18 ⟨rfl, k18⟩
        rw [decide_eq_true hbx.symm]
        have K18 := K17.trans0 k18
        refine ⟨_, rfl, ?_⟩; (first | refine Then.go hmix ?_ | refine Sat.go hmix ?_ | refine ResK.go ?_ | skip); conv => whnf
        refine KGO ?_
        exact ⟨by simp [hmd], K13.trans0 K18⟩
    · rw [decide_eq_false d2]
      refine KGO ?_
      refine CallS.of (Tryz.call13 _ _) (lw_has (w := w15) yb.m.flags flag (oyb.f.keep K15) (by omega)) ?_
      rintro e w17 ⟨rfl, k17⟩
      rw [show decide (flag ∈ yb.m.flags) = false from (decide_eq_false fun q => (((hfl flag).1 q).1).elim d1 d2)]
      have K17 := (K15).trans0 k17
      refine ⟨_, rfl, ?_⟩; (first | refine Then.go hmix ?_ | refine Sat.go hmix ?_ | refine ResK.go ?_ | skip); conv => whnf
      refine KGO ?_
      refine CallS.of (Tryz.call14 _ _) (rf_SameInts (w := w17) ya.m.boxes yb.m.boxes (oya.b.keep K17) (oyb.b.keep K17) (by omega) (by omega)) ?_
      rintro e w18 ⟨rfl, k18⟩
      rw [decide_eq_true hbx.symm]
      have K18 := K17.trans0 k18
      refine ⟨_, rfl, ?_⟩; (first | refine Then.go hmix ?_ | refine Sat.go hmix ?_ | refine ResK.go ?_ | skip); conv => whnf
      refine KGO ?_
      exact ⟨by simp [hmd], K13.trans0 K18⟩
end
end Go.Proofs.YtohhkegmbgancaaGreatDoor
