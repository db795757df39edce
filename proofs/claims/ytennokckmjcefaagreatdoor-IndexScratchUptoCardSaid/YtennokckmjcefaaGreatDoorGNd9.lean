/- Helper lemmas that the proved statement rests on; no conditions of their own. -/
import Derived.Test.YtennokckmjcefaaGreatDoorGNd4
set_option linter.unusedVariables false
set_option maxHeartbeats 4000000
set_option maxRecDepth 100000
namespace Go.Proofs.YtennokckmjcefaaGreatDoor
open Go.Shelf Go.RowKit Go.Pw Go.Vc Go.Cs Go.Lib Go.Cd Go.Mg
section
variable {w : World} {b : Nat} {sv dv : Sl} {l : List (Sv × Sgm)} {x : Ix}
theorem zrX (h : IxM w b sv dv l x) : sv.n = x.segs.length ∧ dv.n = x.dead.length := by
 obtain ⟨a, c, e⟩ := zab h.sg
 obtain ⟨a', c', e'⟩ := zab h.dd
 injection e with _ e _
 injection e' with _ e' _
 refine ⟨?_, e'⟩
 rw [e, ← h.eq, List.length_map]
theorem zrG (h : IxM w b sv dv l x) (h1 : x.segs.length ≤ 1000000) (h2 : x.dead.length ≤ 1000000) : Calls Tryz.prog 39 #[.pointer (some ⟨b, 0, none⟩)] w fun e w' => e = .returned (.tuple #[.int .i64 (x.segs.length : Nat), .int .i64 (x.dead.length : Nat)]) ∧ Kp w w' n_ := by
 obtain ⟨e1, e2⟩ := zrX h
 have ha := h.var.at
 have hq := Kp.refl w n_
 have hqd := hq.drew
 refine zaa (args := [.pointer (some ⟨b, 0, none⟩)]) Tryz.func39 rfl NL ?_; refine GW ?_
 refine KGO ?_
 rw [e1, e2]
 first
 | exact ⟨rfl, hqd⟩
 | exact ⟨rfl, hq⟩
theorem zqM (w : World) : RdS w ⟨⟨none, 0, 0⟩, ⟨none, 0, 0⟩⟩ ⟨[], []⟩ := OwS.rd (B := 0) ⟨World.ownsRow_nil _ _ _ _, World.ownsRow_nil _ _ _ _⟩
theorem znP : Bd ⟨[], []⟩ 1000 20000 20000 := (zoX 0 0 0).mono (by omega) (by omega) (by omega)
theorem build0Z (w : World) : (Instr.build 65 #[]).run Tryz.prog w = .ok (.agg (sgC ⟨⟨none, 0, 0⟩, ⟨none, 0, 0⟩⟩).toArray) w := by
 simp [Instr.build, go_sem, Tryz.runUnderlying65, sgC]
theorem znl (h : IxM w b sv dv l x) (hb : IxB x) (hE : CEnv w) : Calls Tryz.prog 31 #[.pointer (some ⟨b, 0, none⟩)] w fun e w' => e = .returned (.bool (stepX x).1) ∧ ∃ sv' dv' l', IxM w' b sv' dv' l' (stepX x).2 ∧ MutX w w' b sv dv l sv' dv' l' := by
 have hll : l.length = x.segs.length := by rw [← h.eq, List.length_map]
 have hbw := h.var.lt
 have hn := hb.n
 obtain ⟨a0, c0, es, hrs⟩ := zao h.sg
 obtain ⟨sa, sn, sc⟩ := sv
 injection es with e1 e2 e3
 dsimp only at e1 e2 e3
 subst e1 e2 e3
 refine zaa (args := [.pointer (some ⟨b, 0, none⟩)]) Tryz.func31 rfl NL ?_; refine GW ?_
 obtain ⟨a_b1, v_b1, k_w1, z_w1, r_w1⟩ := new5 w 23 ([.pointer (some ⟨b, 0, none⟩)])
 generalize w.alloc (.cells (List.toArray ([.pointer (some ⟨b, 0, none⟩)])) 23) = w1 at *
 generalize hs_b1 : w.heap.size = b1 at *
 have h1 := h.keep0 k_w1
 have ha := h1.var.at
 dsimp only at ha
 have hsz : ∀ i, ((x.segs.map fun s => (s.docs.length : Int)).take i).length ≤ 1000 := fun i => by rw [List.length_take, List.length_map]; omega
 refine KGO ?_
 refine Loop.intro (ι := Nat × Sl) (fun q => [(1, .pointer (some ⟨b1, 0, none⟩)), (3, .slice q.2.a q.2.n q.2.c), (13, .slice sa l.length sc), (14, .int .i64 (l.length : Nat)), (15, .int .i64 (q.1 : Nat))])
  (fun q wr => Kp w1 wr n_ ∧ q.1 ≤ l.length ∧ OwnI wr w1.heap.size q.2.v ((x.segs.map fun s => (s.docs.length : Int)).take q.1)) (fun q => l.length - q.1) (0, ⟨none, 0, 0⟩) ⟨rfl, rfl, rfl, rfl, rfl, trivial⟩ ⟨Kp.refl _ _, Nat.zero_le _, World.ownsRow_nil _ _ _ _⟩ ?_
 rintro ⟨i, so⟩ gg wr ⟨hK, hi, ho⟩
 dsimp only at hi ho ⊢
 have hszi := hsz i
 refine GW ?_
 by_cases hlt : i < l.length
 ·obtain ⟨gb, o, rfl, hgb, hat⟩ := hrs (by omega)
  have hat := zai hat k_w1
  have hri1 := h.rd (List.getElem_mem hlt)
  have hsi : (x.segs.map fun s => (s.docs.length : Int)).take (i + 1) = (x.segs.map fun s => (s.docs.length : Int)).take i ++ [((l[i].2.docs.length : Nat) : Int)] := by
   rw [List.take_succ_eq_append_getElem (by rw [List.length_map]; omega), List.getElem_map]
   simp only [← h.eq, List.getElem_map]
  have hdl := (hb.b l[i].2 (by rw [← h.eq]; exact List.mem_map_of_mem (List.getElem_mem hlt))).d
  generalize (x.segs.map fun s => (s.docs.length : Int)).take i = L at *
  refine KGO ?_
  refine Store.fresh (vs := sgP l[i]) (by rfl) rfl (zar (by rfl)) ?_
  obtain ⟨a_b5, k_w2, z_w2⟩ := new3 wr 65 (sgP l[i])
  generalize wr.alloc (.cells (List.toArray (sgP l[i])) 65) = w2 at *
  generalize hs_b5 : wr.heap.size = b5 at *
  have ho1 := zac ho k_w2
  have K2 := hK.trans0 k_w2
  clear hat ho
  generalize l[i] = p at *
  obtain ⟨⟨t, da, dn, dc⟩, s⟩ := p
  have hrn := (zof hri1).1
  dsimp only at hrn hsi hdl
  subst hrn
  obtain ⟨aj, cj, ej⟩ := zab ho1
  obtain ⟨ja, jn, jc⟩ := so
  injection ej with e1 e2 e3
  dsimp only at e1 e2 e3
  subst e1 e2 e3
  refine KGO ?_
  refine RunV.of (bs1I _ _) ?_
  obtain ⟨a_b7, v_b7, k_w3, z_w3, r_w3⟩ := new5 w2 3 (inC ((s.docs.length : Nat) : Int))
  generalize w2.alloc (.cells (List.toArray (inC ((s.docs.length : Nat) : Int))) 3) = w3 at *
  generalize hs_b7 : w2.heap.size = b7 at *
  have ho3 := zac ho1 k_w3
  have K3 := K2.trans0 k_w3
  have z3 := K3.size
  refine KGO ?_
  refine tyI.app1 ((s.docs.length : Nat) : Int) ho3 (by omega) a_b7 (by omega) (by omega) fun v4 w4 o4 k4 => ?_
  have K4 := zaE ho3 k4 K3 (Nat.le_refl _)
  obtain ⟨a4, c4, rfl⟩ := zab o4
  refine KGO ?_
  exact ⟨(i + 1, ⟨a4, _, c4⟩), ⟨rfl, rfl, rfl, rfl, v_int (by simp), trivial⟩, ⟨K4, by dsimp only; omega, by dsimp only; rw [hsi]; exact o4⟩, by dsimp only; omega⟩
 obtain rfl : i = l.length := by omega
 rw [List.take_of_length_le (by rw [List.length_map]; omega)] at ho hszi
 clear hsz
 obtain ⟨aj, cj, ej⟩ := zab ho
 obtain ⟨ja, jn, jc⟩ := so
 injection ej with e1 e2 e3
 dsimp only at e1 e2 e3
 subst e1 e2 e3
 have hpl := zsd (w := wr) (v := .slice ja (x.segs.map fun s => (s.docs.length : Int)).length jc) (x.segs.map fun s => (s.docs.length : Int)) (zao ho) (by omega)
 refine KGO ?_
 refine CallS.of (Tryz.call94 _ _) hpl ?_
 rintro e w4 ⟨rfl, k4⟩
 have K4 := hK.trans0 k4
 have h4 := h1.keep0 K4
 have v4 := v_b1.keep0 K4
 have hE4 := hE.keep (k_w1.trans0 K4)
 have KK := k_w1.trans0 K4
 have a1 := v4.at
 have ha4 := h4.var.at
 have q4 := Kp.refl w4 n_
 dsimp only at ha4
 clear hpl
 refine RT ?_
 unfold stepX
 cases hp : pickL (x.segs.map fun s => (s.docs.length : Int)) with
 | some i =>
  have hi2 := zcS hp
  rw [List.length_map] at hi2
  obtain ⟨gb, o, rfl, hgb, hat⟩ := hrs (by omega)
  have hat := zai hat KK
  have e1 : x.segs.getD i ⟨[], []⟩ = (l[i]'(by omega)).2 := by rw [zbv (by omega)]; simp only [← h.eq, List.getElem_map]
  have e2 : x.segs.getD (i + 1) ⟨[], []⟩ = (l[i + 1]'(by omega)).2 := by rw [zbv (by omega)]; simp only [← h.eq, List.getElem_map]
  have hm1 : (l[i]'(by omega)) ∈ l := List.getElem_mem _
  have hm2 : (l[i + 1]'(by omega)) ∈ l := List.getElem_mem _
  dsimp only
  rw [e1, e2]
  have hi1 : i < l.length := by omega
  have hi3 : i + 1 < l.length := by omega
  refine KGO ?_
  have kd := (Kp.refl w4 n_).drew
  refine CallS.of (Tryz.call84 _ _) (zez (w := w4.drew) (h4.keep0 kd) hb.c hb.d i 2 (by omega) (by omega) (l[i]'hi1).1 (l[i + 1]'hi3).1 (l[i]'hi1).2 (l[i + 1]'hi3).2 x.dead ((h4.rd hm1).keep kd) ((h4.rd hm2).keep kd) (hb.b _ (by rw [← h.eq]; exact List.mem_map_of_mem hm1)) (hb.b _ (by rw [← h.eq]; exact List.mem_map_of_mem hm2)) (zao (h4.keep0 kd).dd) (by have := hb.d; omega) (hE4.keep kd)) ?_
  rintro e w5 ⟨rfl, sv', dv', l', h5, M5⟩
  refine RT ?_
  refine KGO ?_
  exact ⟨rfl, sv', dv', l', h5, (MutX.same (KK.trans0 kd)).trans M5⟩
 | none =>
  dsimp only
  refine KGO ?_
  refine CallS.of (Tryz.call95 _ _) (znm (w := w4) (v := .slice sa l.length sc) l 96 (.pointer (some ⟨b1, 0, none⟩)) (fun q => dueX x q.2) (zao h4.sg) (by omega) Tryz.call96 (fun q hq u k => zpd (w := u) (x := x) (h4.var.keep0 k) ((zao h4.dd).keep k) hb.d q ((h4.rd hq).keep k) (hb.c.asc q.2 (by rw [← h.eq]; exact List.mem_map_of_mem hq)) (hb.c.dl q.2 (by rw [← h.eq]; exact List.mem_map_of_mem hq)) (v4.keep0 k))) ?_
  rintro e w5 ⟨rfl, k5⟩
  rw [zlx (fun q : Sv × Sgm => q.2) (dueX x), h.eq]
  have K5 := KK.trans0 k5
  have h5 := h4.keep0 k5
  have v5 := v4.keep0 k5
  have a15 := v5.at
  have ha5 := h5.var.at
  have q5 := Kp.refl w5 n_
  dsimp only at ha5
  refine RT ?_
  unfold idxP
  cases hf : x.segs.findIdx? (dueX x) with
  | none =>
   dsimp only
   refine KGO ?_
   exact ⟨rfl, _, _, _, h5, MutX.same K5⟩
  | some i =>
   obtain ⟨hi2, _⟩ := List.findIdx?_eq_some_iff_getElem.1 hf
   obtain ⟨gb, o, rfl, hgb, hat⟩ := hrs (by omega)
   have hat := zai hat K5
   have e1 : x.segs.getD i ⟨[], []⟩ = (l[i]'(by omega)).2 := by rw [zbv (by omega)]; simp only [← h.eq, List.getElem_map]
   have hm1 : (l[i]'(by omega)) ∈ l := List.getElem_mem _
   dsimp only
   rw [e1]
   have hi1 : i < l.length := by omega
   refine KGO ?_
   refine RunV.of (build0Z _) ?_
   refine KGO ?_
   have kd := (Kp.refl w5 n_).drew
   refine CallS.of (Tryz.call84 _ _) (zez (w := w5.drew) (h5.keep0 kd) hb.c hb.d i 1 (by omega) (by omega) (l[i]'hi1).1 ⟨⟨none, 0, 0⟩, ⟨none, 0, 0⟩⟩ (l[i]'hi1).2 ⟨[], []⟩ x.dead ((h5.rd hm1).keep kd) (zqM _) (hb.b _ (by rw [← h.eq]; exact List.mem_map_of_mem hm1)) znP (zao (h5.keep0 kd).dd) (by have := hb.d; omega) (hE4.keep (k5.trans0 kd))) ?_
   rintro e w6 ⟨rfl, sv', dv', l', h6, M6⟩
   refine RT ?_
   refine KGO ?_
   exact ⟨rfl, sv', dv', l', h6, (MutX.same (K5.trans0 kd)).trans M6⟩
end
structure SerB (x : Ix) : Prop where
 sm : ∀ s ∈ x.segs, SmS s ∧ s.docs.length ≤ 100000000
 n : x.segs.length ≤ 100000000
 d : x.dead.length ≤ 100000000
 p : ∀ d ∈ x.dead, 0 ≤ d ∧ d < 9223372036854775808
 l : (serX x).length ≤ 100000000000
section
variable {w : World} {b : Nat} {sv dv : Sl} {l : List (Sv × Sgm)} {x : Ix}
theorem zkJ (h : IxV w b sv dv l) (rd : RowI w dv.v x.dead) (he : l.map (·.2) = x.segs) (hb : SerB x) (hE : CEnv w) : Calls Tryz.prog 14 #[.pointer (some ⟨b, 0, none⟩)] w fun e w' => e = .returned (.string (str (serX x))) ∧ Kp w w' n_ := by
 have hll : l.length = x.segs.length := by rw [← he, List.length_map]
 have hn := hb.n
 have hl := hb.l
 obtain ⟨a0, c0, es, hrs⟩ := h.sg
 obtain ⟨ad, cd, ed, hrd⟩ := id rd
 obtain ⟨sa, sn, sc⟩ := sv
 obtain ⟨da, dn, dc⟩ := dv
 injection es with e1 e2 e3
 injection ed with f1 f2 f3
 dsimp only at e1 e2 e3 f1 f2 f3
 subst e1 e2 e3 f1 f2 f3
 have ha := h.var.at
 dsimp only at ha
 have hdn : iL (toN x.dead) = x.dead := zoF fun n hn => (hb.p n hn).1
 have hNl : (toN x.dead).length = x.dead.length := by unfold toN; exact List.length_map _
 have hNb : ∀ n ∈ toN x.dead, n < 2 ^ 63 := fun n hn => by
  obtain ⟨d, hd, rfl⟩ := List.mem_map.1 hn
  have := hb.p d hd
  omega
 unfold serX at hl ⊢
 rw [List.length_append, List.length_append] at hl
 have hdd := hb.d
 refine zaa (args := [.pointer (some ⟨b, 0, none⟩)]) Tryz.func14 rfl NL ?_; refine GW ?_
 have hb0 := zek w w.heap.size (Nat.le_refl _)
 have K0 : Kp w (w.alloc (.cells #[.pointer none, .slice none 0 0] 93)) n_ := (Kp.refl _ _).alloc _
 generalize w.alloc (.cells #[.pointer none, .slice none 0 0] 93) = w1 at *
 obtain ⟨b2, hb2⟩ : ∃ b2, w.heap.size = b2 := ⟨_, rfl⟩
 rw [hb2] at hb0 ⊢
 refine KGO ?_
 rw [hll]
 refine CallS.of (Tryz.call67 _ _) (zfK (w := w1) x.segs.length (by omega)) ?_
 rintro e w2 ⟨rfl, k2⟩
 have K2 := K0.trans0 k2
 have hb2' := zba hb0 k2
 refine RT ?_
 have hPl := zaC (n := x.segs.length) (by omega)
 generalize hPRE : numE x.segs.length = PRE at *
 refine CallS.of (Tryz.call66 _ _) (zaR (str PRE) w2 hb2' (by rw [show (str PRE).size = PRE.length from rfl]; simp; omega) (by have := K2.size; omega)) ?_
 rintro e w3 ⟨rfl, hb3, hbe, _⟩
 have K3 : Kp w w3 n_ := K2.below' hbe (by omega)
 rw [List.nil_append, show L (str PRE) = PRE from rfl] at hb3
 clear hb0 hb2' hbe k2 K2 K0
 refine RT ?_
 refine KGO ?_
 rw [← hll]
 refine Loop.intro (ι := Nat) (fun i => [(0, .pointer (some ⟨b, 0, none⟩)), (3, .pointer (some ⟨b2, 0, none⟩)), (16, .slice sa l.length sc), (17, .int .i64 (l.length : Nat)), (18, .int .i64 (i : Nat))])
  (fun i wr => Kp w wr n_ ∧ i ≤ l.length ∧ Bld wr b2 b2 (PRE ++ (x.segs.take i).flatMap segE)) (fun i => l.length - i) 0 ⟨rfl, rfl, rfl, rfl, rfl, trivial⟩ ⟨K3, Nat.zero_le _, by simpa using hb3⟩ ?_
 clear hb3 K3
 rintro i gg wr ⟨hK, hi, hbr⟩
 have zr := hK.size
 refine GW ?_
 by_cases hlt : i < l.length
 ·obtain ⟨gt, ot, rfl, hgt, hat⟩ := hrs (by omega)
  have hst : (x.segs.take (i + 1)).flatMap segE = (x.segs.take i).flatMap segE ++ segE l[i].2 := by
   rw [List.take_succ_eq_append_getElem (by omega), List.flatMap_append]
   simp only [← he, List.getElem_map, List.flatMap_singleton]
  have hft := zdR segE x.segs (i + 1)
  rw [hst, List.length_append] at hft
  have hm : l[i].2 ∈ x.segs := by rw [← he]; exact List.mem_map_of_mem (List.getElem_mem hlt)
  obtain ⟨hsm, hsd⟩ := hb.sm _ hm
  have hrr := h.el l[i] (List.getElem_mem hlt)
  refine KGO ?_
  refine Store.fresh (vs := sgP l[i]) (by rfl) rfl (zar (by rfl)) ?_
  obtain ⟨a_b5, k_w7, z_w7⟩ := new3 wr 65 (sgP l[i])
  generalize wr.alloc (.cells (List.toArray (sgP l[i])) 65) = w7 at *
  generalize hs_b5 : wr.heap.size = b5 at *
  have hb7 := zba hbr k_w7
  have K7 := hK.trans0 k_w7
  have q7 := Kp.refl w7 n_
  clear hat hbr
  generalize (x.segs.take i).flatMap segE = PT at *
  generalize l[i] = p at *
  have hse : (segE p.2).length = (numE (serS p.2).length).length + (serS p.2).length := List.length_append
  refine KGO ?_
  refine CallS.of (Tryz.call69 _ _) (zlh (w := w7) p.1 p.2 (hrr.keep K7) hsm (hE.keep K7) hsd (by omega)) ?_
  rintro e w8 ⟨rfl, k8⟩
  have K8 := K7.trans0 k8
  refine RT ?_
  refine CallS.of (Tryz.call68 _ _) (zhj (w := w8) (serS p.2) (by omega)) ?_
  rintro e w9 ⟨rfl, k9⟩
  have K9 := K8.trans0 k9
  have hb9 := zba (zba hb7 k8) k9
  refine RT ?_
  have hsg : textE (serS p.2) = segE p.2 := rfl
  rw [hsg]
  generalize segE p.2 = X at *
  refine CallS.of (Tryz.call66 _ _) (zaR (str X) w9 hb9 (by rw [show (str X).size = X.length from rfl, List.length_append]; omega) (by have := K9.size; omega)) ?_
  rintro e w11 ⟨rfl, hb11, hbe11, _⟩
  have K11 : Kp w w11 n_ := K9.below' hbe11 (by omega)
  rw [show L (str X) = X from rfl] at hb11
  refine RT ?_
  refine KGO ?_
  exact ⟨i + 1, ⟨rfl, rfl, rfl, rfl, v_int (by simp), trivial⟩, ⟨K11, by omega, by rw [hst, ← List.append_assoc]; exact hb11⟩, by dsimp only; omega⟩
 obtain rfl : i = l.length := by omega
 rw [List.take_of_length_le (by omega)] at hbr
 have hn2 : (numsE (toN x.dead)).length ≤ 9 + 9 * x.dead.length := by
  unfold numsE
  have h2 := zaC (n := (toN x.dead).length) (by omega)
  have h3 := zbV (toN x.dead) hNb
  rw [List.length_append]; omega
 have hrow : RowI wr (.slice da x.dead.length dc) (iL (toN x.dead)) := by rw [hdn]; exact rd.keep hK
 generalize x.segs.flatMap segE = PT at *
 refine KGO ?_
 refine CallS.of (Tryz.call70 _ _) (zov (w := wr) (toN x.dead) hrow hNb (by omega)) ?_
 rintro e w4 ⟨rfl, k4⟩
 have K4 := hK.trans0 k4
 have hb4 := zba hbr k4
 refine RT ?_
 generalize numsE (toN x.dead) = X at *
 refine CallS.of (Tryz.call66 _ _) (zaR (str X) w4 hb4 (by rw [show (str X).size = X.length from rfl, List.length_append]; omega) (by have := K4.size; omega)) ?_
 rintro e w5 ⟨rfl, hb5, hbe5, _⟩
 have K5 : Kp w w5 n_ := K4.below' hbe5 (by omega)
 rw [show L (str X) = X from rfl] at hb5
 refine RT ?_
 refine KGO ?_
 refine CallS.of (Tryz.call71 _ _) (zdh w5 hb5 (by have := K5.size; omega)) ?_
 rintro e w12 ⟨rfl, _, hbe, _⟩
 refine RT ?_
 refine KGO ?_
 exact ⟨by rw [List.append_assoc], K5.below' hbe (by omega)⟩
end
def SeenI (w : World) (mb : Nat) (F : List Int) : Prop := ∃ m, GMap (Value.int .i64) w mb m ∧ ∀ d, (m.get d).getD (.bool false) = .bool (decide (d ∈ F))
theorem SeenI.keep {w w' : World} {c : Nat → Prop} {mb : Nat} {F : List Int} (h : SeenI w mb F) (k : Kp w w' c) (hc : ¬ c mb) : SeenI w' mb F := by
 obtain ⟨m, h1, h2⟩ := h
 exact ⟨m, h1.keep k hc, h2⟩
def flD (l : List Sgm) : List Int := l.flatMap fun s => s.docs
theorem zpL {l : List Sgm} {i : Nat} (h : i < l.length) : flD (l.take (i + 1)) = flD (l.take i) ++ l[i].docs := by
 unfold flD
 rw [List.take_succ_eq_append_getElem h, List.flatMap_append]; simp
theorem zrP (l : List Sgm) (i : Nat) : (flD (l.take i)).Sublist (flD l) := by
 unfold flD
 conv => rhs; rw [← List.take_append_drop i l, List.flatMap_append]
 exact List.sublist_append_left _ _
theorem zpc {x : Ix} (h : ¬ (flD x.segs).Nodup) : validB x = false := by
 unfold flD at h
 unfold validB
 rw [decide_eq_false h]
 simp
theorem zqd {x : Ix} {s : Sgm} (hs : s ∈ x.segs) (h : s.docs = []) : validB x = false := by
 unfold validB
 have : x.segs.all (fun s => !s.docs.isEmpty) = false := by
  rw [List.all_eq_false]
  exact ⟨s, hs, by rw [h]; simp⟩
 rw [this]
 simp
theorem zpg {x : Ix} {d : Int} (hd : d ∈ x.dead) (h : d ∉ flD x.segs) : validB x = false := by
 unfold validB
 have : x.dead.all (fun d => decide (d ∈ x.segs.flatMap fun s => s.docs)) = false := by
  rw [List.all_eq_false]
  exact ⟨d, hd, by unfold flD at h; rw [decide_eq_false h]; simp⟩
 rw [this]
 simp
theorem zqv {x : Ix} (h : ¬ x.dead.Pairwise fun a b => a < b) : validB x = false := by
 unfold validB
 rw [decide_eq_false h]
 simp
theorem znL {x : Ix} (h1 : (flD x.segs).Nodup) (h2 : ∀ s ∈ x.segs, s.docs ≠ []) (h3 : ∀ d ∈ x.dead, d ∈ flD x.segs) (h4 : x.dead.Pairwise fun a b => a < b) : validB x = true := by
 unfold flD at h1 h3
 unfold validB
 have a1 : x.segs.all (fun s => !s.docs.isEmpty) = true := by
  rw [List.all_eq_true]
  intro s hs
  have := h2 s hs
  cases h : s.docs with
  | nil => exact absurd h this
  | cons a l => rfl
 have a2 : x.dead.all (fun d => decide (d ∈ x.segs.flatMap fun s => s.docs)) = true := by
  rw [List.all_eq_true]
  intro d hd
  exact decide_eq_true (h3 d hd)
 rw [decide_eq_true h1, a1, a2, decide_eq_true h4]
 rfl
section
variable {w : World} {b : Nat} {sv dv : Sl} {l : List (Sv × Sgm)} {x : Ix}
theorem zqu (h : IxV w b sv dv l) (rd : RowI w dv.v x.dead) (he : l.map (·.2) = x.segs) (hn : x.segs.length ≤ 100000000) (hdn : x.dead.length ≤ 100000000) (hsd : ∀ s ∈ x.segs, s.docs.length ≤ 100000000) : Calls Tryz.prog 57 #[.pointer (some ⟨b, 0, none⟩)] w fun e w' => e = .returned (.bool (validB x)) ∧ Kp w w' n_ := by
 have hll : l.length = x.segs.length := by rw [← he, List.length_map]
 obtain ⟨a0, c0, es, hrs⟩ := h.sg
 obtain ⟨ad, cd, ed, hrd⟩ := id rd
 obtain ⟨sa, sn, sc⟩ := sv
 obtain ⟨da, dn, dc⟩ := dv
 injection es with e1 e2 e3
 injection ed with f1 f2 f3
 dsimp only at e1 e2 e3 f1 f2 f3
 subst e1 e2 e3 f1 f2 f3
 have ha := h.var.at
 dsimp only at ha
 refine zaa (args := [.pointer (some ⟨b, 0, none⟩)]) Tryz.func57 rfl NL ?_; refine GW ?_
 refine RunV.makeMap rfl ?_
 have km : Kp w (w.alloc (.map #[] 0)) n_ := (Kp.refl _ _).alloc _
 have hm0 : GMap (Value.int .i64) (w.alloc (.map #[] 0)) w.heap.size ([] : GM Int) := GMap.new w
 generalize w.alloc (.map #[] 0) = w1 at *
 obtain ⟨mb, hmb⟩ : ∃ mb, w.heap.size = mb := ⟨_, rfl⟩
 rw [hmb] at hm0 ⊢
 have hs0 : SeenI w1 mb [] := ⟨[], hm0, fun d => rfl⟩
 have hlm := hm0.lt
 refine KGO ?_
 refine Loop.intro (ι := Nat) (fun i => [(0, .pointer (some ⟨b, 0, none⟩)), (3, .map (some mb)), (14, .slice sa l.length sc), (15, .int .i64 (l.length : Nat)), (16, .int .i64 (i : Nat))])
  (fun i wr => Kp w wr n_ ∧ i ≤ l.length ∧ SeenI wr mb (flD (x.segs.take i)) ∧ (flD (x.segs.take i)).Nodup ∧ ∀ s ∈ x.segs.take i, s.docs ≠ []) (fun i => l.length - i) 0 ⟨rfl, rfl, rfl, rfl, rfl, trivial⟩ ⟨km, Nat.zero_le _, hs0, List.nodup_nil, fun s h => by rw [List.take_zero] at h; cases h⟩ ?_
 clear hm0 hs0 km hlm
 rintro i gg wr ⟨hK, hi, hse, hnd, hne⟩
 refine GW ?_
 by_cases hlt : i < l.length
 ·obtain ⟨gt, ot, rfl, hgt, hat⟩ := hrs (by omega)
  have hlx : i < x.segs.length := by omega
  have e1 : x.segs[i] = l[i].2 := by simp only [← he, List.getElem_map]
  have hft := zpL hlx
  rw [e1] at hft
  have hm : l[i].2 ∈ x.segs := by rw [← e1]; exact List.getElem_mem _
  have hsub := zrP x.segs (i + 1)
  have htk : x.segs.take (i + 1) = x.segs.take i ++ [l[i].2] := by rw [List.take_succ_eq_append_getElem hlx, e1]
  have hdl := hsd _ hm
  have hrr := h.el l[i] (List.getElem_mem hlt)
  refine KGO ?_
  refine Store.fresh (vs := sgP l[i]) (by rfl) rfl (zar (by rfl)) ?_
  obtain ⟨a_b5, k_w2, z_w2⟩ := new3 wr 65 (sgP l[i])
  generalize wr.alloc (.cells (List.toArray (sgP l[i])) 65) = w2 at *
  generalize hs_b5 : wr.heap.size = b5 at *
  have hs2 := hse.keep k_w2 id
  have hml : mb < b5 := by obtain ⟨_, q, _⟩ := hse; rw [← hs_b5]; exact q.lt
  have K2 := hK.trans0 k_w2
  clear hat hse e1
  generalize l[i] = p at *
  obtain ⟨⟨t, ⟨pa, pn, pc⟩⟩, s⟩ := p
  obtain ⟨ap, cp, ep, hrp⟩ := hrr.d
  injection ep with e1 e2 e3
  dsimp only at e1 e2 e3 hft hm htk hdl hrp
  subst e1 e2 e3
  have a5 : At w2 b5 0 [.slice t.a t.n t.c, .slice pa s.docs.length pc] := a_b5
  have q2 := Kp.refl w2 n_
  generalize flD (x.segs.take i) = F at *
  refine KGO ?_
  refine Loop.intro (ι := Nat) (fun j => [(0, .pointer (some ⟨b, 0, none⟩)), (3, .map (some mb)), (5, .pointer (some ⟨b5, 0, none⟩)), (14, .slice (some ⟨gt, ot, none⟩) l.length sc), (15, .int .i64 (l.length : Nat)), (16, .int .i64 (i : Nat)), (21, .slice pa s.docs.length pc), (22, .int .i64 (s.docs.length : Nat)), (23, .int .i64 (j : Nat))])
   (fun j wk => Kp w wk n_ ∧ At wk b5 0 [.slice t.a t.n t.c, .slice pa s.docs.length pc] ∧ j ≤ s.docs.length ∧ SeenI wk mb (F ++ s.docs.take j) ∧ (F ++ s.docs.take j).Nodup) (fun j => s.docs.length - j) 0 ⟨rfl, rfl, rfl, rfl, rfl, rfl, rfl, rfl, rfl, trivial⟩ ⟨K2, a5, Nat.zero_le _, by simpa using hs2, by simpa using hnd⟩ ?_
  clear hs2 hnd a5 a_b5
  rintro j gj wk ⟨hKk, a5, hj, ⟨m, hgm, hgs⟩, hnd⟩
  have qk := Kp.refl wk n_
  refine GW ?_
  by_cases hjt : j < s.docs.length
  ·obtain ⟨gd, od, rfl, hgd, hatd⟩ := hrp (by omega)
   have chj := zaY (zai hatd hKk) hjt
   have hts : s.docs.take (j + 1) = s.docs.take j ++ [s.docs[j]] := List.take_succ_eq_append_getElem hjt
   have hss : (F ++ s.docs.take (j + 1)).Sublist (F ++ s.docs) := List.Sublist.append (List.Sublist.refl _) (List.take_sublist _ _)
   rw [hts] at hss
   generalize hd : s.docs[j] = d at *
   refine KGO ?_
   refine RunV.lookG okKI Tryz.underlying143 (by rfl) hgm d rfl ?_
   rw [hgs]
   by_cases hin : d ∈ F ++ s.docs.take j
   ·rw [decide_eq_true hin]
    have hv : validB x = false := zpc fun hh => by
     have h2 := (hh.sublist hsub)
     rw [hft] at h2
     have h3 := h2.sublist hss
     rw [← List.append_assoc] at h3
     have := (List.nodup_append.1 h3).2.2 d hin d (List.mem_singleton.2 rfl)
     exact this rfl
    refine KGO ?_
    exact ⟨by rw [hv], hKk⟩
   ·rw [decide_eq_false hin]
    refine KGO ?_
    refine RunU.updG okKI Tryz.underlying143 hgm d rfl _ fun wu gu ku => ?_
    have hlm := hgm.lt
    refine KGO ?_
    refine ⟨j + 1, ⟨rfl, rfl, rfl, rfl, rfl, rfl, rfl, rfl, v_int (by simp), trivial⟩, ⟨zah hKk ku (by omega), zaH a5 ku (fun e => ?_), by omega, ⟨_, gu, fun d' => ?_⟩, ?_⟩, by dsimp only; omega⟩
    ·have e : b5 = mb := e
     omega
    ·rw [GM.get_put, hts]
     by_cases hd' : d' = d
     ·rw [if_pos hd', hd']; simp
     ·rw [if_neg hd', hgs]; simp [hd']
    ·rw [hts, ← List.append_assoc, List.nodup_append]
     exact ⟨hnd, by simp, fun a ha b hb e => hin (by rw [← List.mem_singleton.1 hb, ← e]; exact ha)⟩
  obtain rfl : j = s.docs.length := by omega
  rw [List.take_length, ← hft] at hnd hgs
  by_cases h0 : s.docs.length = 0
  ·have hv : validB x = false := zqd hm (List.eq_nil_of_length_eq_zero h0)
   refine KGO ?_
   exact ⟨by rw [hv], hKk⟩
  refine KGO ?_
  refine ⟨i + 1, ⟨rfl, rfl, rfl, rfl, v_int (by simp), trivial⟩, ⟨hKk, by omega, ⟨m, hgm, hgs⟩, hnd, fun s' hs' => ?_⟩, by dsimp only; omega⟩
  rw [htk] at hs'
  rcases List.mem_append.1 hs' with hs' | hs'
  ·exact hne s' hs'
  ·rw [List.mem_singleton.1 hs']
   exact fun e => h0 (by rw [e]; rfl)
 obtain rfl : i = l.length := by omega
 rw [List.take_of_length_le (by omega)] at hse hnd hne
 obtain ⟨m, hgm, hgs⟩ := hse
 generalize hF : flD x.segs = F at *
 have hml := hgm.lt
 refine KGO ?_
 refine Loop.intro (ι := Nat) (fun i => [(0, .pointer (some ⟨b, 0, none⟩)), (3, .map (some mb)), (41, .slice da x.dead.length dc), (42, .int .i64 (x.dead.length : Nat)), (43, .int .i64 (i : Nat))])
  (fun i wk => Kp wr wk n_ ∧ i ≤ x.dead.length ∧ (∀ j (hj : j < x.dead.length), j < i → x.dead[j] ∈ F) ∧ ∀ j (hj : j + 1 < x.dead.length), j + 1 < i → ltI (x.dead[j]'(by omega)) x.dead[j + 1] = true) (fun i => x.dead.length - i) 0 ⟨rfl, rfl, rfl, rfl, rfl, trivial⟩ ⟨Kp.refl _ _, Nat.zero_le _, fun j hj h => by omega, fun j hj h => by omega⟩ ?_
 rintro i gi wk ⟨hKk, hi, hin, has⟩
 have hKw := hK.trans0 hKk
 refine GW ?_
 by_cases hit : i < x.dead.length
 ·obtain ⟨gd, od, rfl, hgd, hatd⟩ := hrd (by omega)
  have ci := zaY hatd hit
  have hat' := hatd
  have hmk := hgm.keep hKk id
  clear hatd hrs
  refine KGO ?_
  refine RunV.lookG okKI Tryz.underlying143 (by rfl) hmk x.dead[i] rfl ?_
  rw [hgs]
  by_cases hd : x.dead[i] ∈ F
  ·rw [decide_eq_true hd]
   have hin2 : ∀ j (hj : j < x.dead.length), j < i + 1 → x.dead[j] ∈ F := fun j hj h => by
    by_cases hj2 : j < i
    ·exact hin j hj hj2
    ·obtain rfl : j = i := by omega
     exact hd
   cases i with
   | zero =>
    refine KGO ?_
    exact ⟨1, ⟨rfl, rfl, rfl, rfl, rfl, trivial⟩, ⟨hKk, by omega, hin2, fun j hj h => by omega⟩, by dsimp only; omega⟩
   | succ k =>
    have ck : w.cell? ⟨gd, od + k, none⟩ = some (.int .i64 x.dead[k]) := zaY hat' (by omega)
    have e1 : (((k + 1 : Nat) : Int) - 1).toNat = k := by omega
    clear hat'
    refine KGO ?_
    rw [e1]
    refine KGO ?_
    by_cases h3 : x.dead[k + 1] ≤ x.dead[k]
    ·have hv : validB x = false := zqv fun hh => by
      have := (List.pairwise_iff_getElem.1 hh) k (k + 1) (by omega) hit (by omega)
      omega
     refine KGO ?_
     exact ⟨by rw [hv], hKw⟩
    ·refine KGO ?_
     refine ⟨k + 1 + 1, ⟨rfl, rfl, rfl, rfl, v_int (by simp), trivial⟩, ⟨hKk, by omega, hin2, fun j hj h => ?_⟩, by dsimp only; omega⟩
     by_cases hj2 : j + 1 < k + 1
     ·exact has j hj hj2
     ·obtain rfl : j = k := by omega
      exact decide_eq_true (by omega)
  ·rw [decide_eq_false hd]
   have hv : validB x = false := zpg (List.getElem_mem hit) (by rw [hF]; exact hd)
   refine KGO ?_
   exact ⟨by rw [hv], hKw⟩
 have hv : validB x = true := znL (by rw [hF]; exact hnd) hne (fun d hd => by
  obtain ⟨j, hj, rfl⟩ := List.getElem_of_mem hd
  rw [hF]
  exact hin j hj (by omega)) ((zgg stoI.tr _ fun j hj => has j hj (by omega)).imp fun h => of_decide_eq_true h)
 refine KGO ?_
 exact ⟨by rw [hv], hKw⟩
end
end Go.Proofs.YtennokckmjcefaaGreatDoor
