/- Helper lemmas; no conditions of their own. -/
import Derived.Shelf.SlLaysF0
import Derived.Test.YtennokckmjcefaaGreatDoorGNd4
set_option linter.unusedVariables false
set_option maxHeartbeats 4000000
set_option maxRecDepth 100000
namespace Go.Proofs.YtennokckmjcefaaGreatDoor
open Go.Shelf Go.RowKit Go.Pw Go.Vc Go.Cs Go.Lib Go.Cd Go.Mg
section
variable {w : World} {b : Nat} {sv dv : Sl} {l : List (Sv × Sgm)} {x : Ix}
theorem zsL (h : IxM w b sv dv l x) : sv.n = x.segs.length ∧ dv.n = x.dead.length := by
 obtain ⟨a, c, e⟩ := zab h.sg
 obtain ⟨a', c', e'⟩ := zab h.dd
 injection e with _ e _
 injection e' with _ e' _
 refine ⟨?_, e'⟩
 rw [e, ← h.eq, yaf]
theorem zsx (h : IxM w b sv dv l x) (h1 : x.segs.length ≤ 1000000) (h2 : x.dead.length ≤ 1000000) : Calls Tryz.prog 39 #[.pointer (some ⟨b, 0, none⟩)] w fun e w' => e = .returned (.tuple #[.int .i64 (x.segs.length : Nat), .int .i64 (x.dead.length : Nat)]) ∧ Kp w w' n_ := by
 obtain ⟨e1, e2⟩ := zsL h
 have ha := h.var.at
 have hq := Yb w n_
 have hqd := hq.drew
 refine zaa (args := [.pointer (some ⟨b, 0, none⟩)]) Tryz.func39 rfl NL ?_; refine GW ?_
 refine KGO ?_
 rw [e1, e2]
 first
 | exact ⟨rfl, hqd⟩
 | exact ⟨rfl, hq⟩
theorem zrq (w : World) : RdS w ⟨⟨none, 0, 0⟩, ⟨none, 0, 0⟩⟩ ⟨[], []⟩ := OwS.rd (B := 0) ⟨World.ownsRow_nil _ _ _ _, World.ownsRow_nil _ _ _ _⟩
theorem zor : Bd ⟨[], []⟩ 1000 20000 20000 := (bd_nil 0 0 0).mono OM OM OM
theorem zoa (w : World) : (Instr.build 65 #[]).run Tryz.prog w = .ok (.agg (sgC ⟨⟨none, 0, 0⟩, ⟨none, 0, 0⟩⟩).toArray) w := by
 simp [Instr.build, go_sem, Tryz.runUnderlying65, sgC]
theorem zsD (h : IxM w b sv dv l x) (hb : IxB x) (hE : CEnv w) : Calls Tryz.prog 31 #[.pointer (some ⟨b, 0, none⟩)] w fun e w' => e = .returned (.bool (stepX x).1) ∧ ∃ sv' dv' l', IxM w' b sv' dv' l' (stepX x).2 ∧ MutX w w' b sv dv l sv' dv' l' := by
 have hll : l.length = x.segs.length := by rw [← h.eq, yaf]
 have hbw := h.var.lt
 have hn := hb.n
 obtain ⟨a0, c0, es, hrs⟩ := own_rowO h.sg
 obtain ⟨sa, sn, sc⟩ := sv
 injection es with e1 e2 e3
 dsimp only at e1 e2 e3
 subst e1 e2 e3
 refine zaa (args := [.pointer (some ⟨b, 0, none⟩)]) Tryz.func31 rfl NL ?_; refine GW ?_
 obtain ⟨a_b1, v_b1, k_w1, z_w1, r_w1⟩ := new5 w 23 ([.pointer (some ⟨b, 0, none⟩)])
 generalize w.alloc (.cells (List.toArray ([.pointer (some ⟨b, 0, none⟩)])) 23) = w1 at *
 generalize hs_b1 : w.heap.size = b1 at *
 have h1 := h.keep0 k_w1
 have ha := h1.var.at
 dsimp only at ha
 have hsz : ∀ i, ((x.segs.map fun s => (s.docs.length : Int)).take i).length ≤ 1000 := fun i => by rw [yar, yaf]; omega
 refine KGO ?_
 refine Yc (ι := Nat × Sl) (fun q => [(1, .pointer (some ⟨b1, 0, none⟩)), (3, .slice q.2.a q.2.n q.2.c), (13, .slice sa l.length sc), (14, .int .i64 (l.length : Nat)), (15, .int .i64 (q.1 : Nat))])
  (fun q wr => Kp w1 wr n_ ∧ q.1 ≤ l.length ∧ OwnI wr w1.heap.size q.2.v ((x.segs.map fun s => (s.docs.length : Int)).take q.1)) (fun q => l.length - q.1) (0, ⟨none, 0, 0⟩) FR ⟨Yb _ _, yal _, World.ownsRow_nil _ _ _ _⟩ ?_
 rintro ⟨i, so⟩ gg wr ⟨hK, hi, ho⟩
 dsimp only at hi ho ⊢
 have hszi := hsz i
 refine GW ?_
 by_cases hlt : i < l.length
 ·obtain ⟨gb, o, rfl, hgb, hat⟩ := hrs OM
  have hat := at_mono hat k_w1
  have hri1 := h.rd (yak hlt)
  have hsi : (x.segs.map fun s => (s.docs.length : Int)).take (i + 1) = (x.segs.map fun s => (s.docs.length : Int)).take i ++ [((l[i].2.docs.length : Nat) : Int)] := by
   rw [yad (by rw [yaf]; omega), ybi]
   simp only [← h.eq, ybi]
  have hdl := (hb.b l[i].2 (by rw [← h.eq]; exact yax (yak hlt))).d
  generalize (x.segs.map fun s => (s.docs.length : Int)).take i = L at *
  refine KGO ?_
  refine Yg (vs := sgP l[i]) (by rfl) rfl (zak (by rfl)) ?_
  obtain ⟨a_b5, k_w2, z_w2⟩ := new3 wr 65 (sgP l[i])
  generalize wr.alloc (.cells (List.toArray (sgP l[i])) 65) = w2 at *
  generalize hs_b5 : wr.heap.size = b5 at *
  have ho1 := own_keep0 ho k_w2
  have K2 := hK.trans0 k_w2
  clear hat ho
  generalize l[i] = p at *
  obtain ⟨⟨t, da, dn, dc⟩, s⟩ := p
  have hrn := (zoE hri1).1
  dsimp only at hrn hsi hdl
  subst hrn
  obtain ⟨aj, cj, ej⟩ := zab ho1
  obtain ⟨ja, jn, jc⟩ := so
  injection ej with e1 e2 e3
  dsimp only at e1 e2 e3
  subst e1 e2 e3
  refine KGO ?_
  refine Ye (bs1I _ _) ?_
  obtain ⟨a_b7, v_b7, k_w3, z_w3, r_w3⟩ := new5 w2 3 (inC ((s.docs.length : Nat) : Int))
  generalize w2.alloc (.cells (List.toArray (inC ((s.docs.length : Nat) : Int))) 3) = w3 at *
  generalize hs_b7 : w2.heap.size = b7 at *
  have ho3 := own_keep0 ho1 k_w3
  have K3 := K2.trans0 k_w3
  have z3 := K3.size
  refine KGO ?_
  refine tyI.app1 ((s.docs.length : Nat) : Int) ho3 OM a_b7 OM OM fun v4 w4 o4 k4 => ?_
  have K4 := zav ho3 k4 K3 (yag _)
  obtain ⟨a4, c4, rfl⟩ := zab o4
  refine KGO ?_
  exact ⟨(i + 1, ⟨a4, _, c4⟩), FR, ⟨K4, DO, by dsimp only; rw [hsi]; exact o4⟩, DO⟩
 obtain rfl : i = l.length := OM
 rw [yaz (by rw [yaf]; omega)] at ho hszi
 clear hsz
 obtain ⟨aj, cj, ej⟩ := zab ho
 obtain ⟨ja, jn, jc⟩ := so
 injection ej with e1 e2 e3
 dsimp only at e1 e2 e3
 subst e1 e2 e3
 have hpl := zsT (w := wr) (v := .slice ja (x.segs.map fun s => (s.docs.length : Int)).length jc) (x.segs.map fun s => (s.docs.length : Int)) (own_rowO ho) OM
 refine KGO ?_
 refine Ya (Tryz.call94 _ _) hpl ?_
 rintro e w4 ⟨rfl, k4⟩
 have K4 := hK.trans0 k4
 have h4 := h1.keep0 K4
 have v4 := v_b1.keep0 K4
 have hE4 := hE.keep (k_w1.trans0 K4)
 have KK := k_w1.trans0 K4
 have a1 := v4.at
 have ha4 := h4.var.at
 have q4 := Yb w4 n_
 dsimp only at ha4
 clear hpl
 refine RT ?_
 unfold stepX
 cases hp : pickL (x.segs.map fun s => (s.docs.length : Int)) with
 | some i =>
  have hi2 := zdG hp
  rw [yaf] at hi2
  obtain ⟨gb, o, rfl, hgb, hat⟩ := hrs OM
  have hat := at_mono hat KK
  have e1 : x.segs.getD i ⟨[], []⟩ = (l[i]'OM).2 := by rw [seg_at OM]; simp only [← h.eq, ybi]
  have e2 : x.segs.getD (i + 1) ⟨[], []⟩ = (l[i + 1]'OM).2 := by rw [seg_at OM]; simp only [← h.eq, ybi]
  have hm1 : (l[i]'OM) ∈ l := yak _
  have hm2 : (l[i + 1]'OM) ∈ l := yak _
  dsimp only
  rw [e1, e2]
  have hi1 : i < l.length := OM
  have hi3 : i + 1 < l.length := OM
  refine KGO ?_
  have kd := (Yb w4 n_).drew
  refine Ya (Tryz.call84 _ _) (zeM (w := w4.drew) (h4.keep0 kd) hb.c hb.d i 2 OM OM (l[i]'hi1).1 (l[i + 1]'hi3).1 (l[i]'hi1).2 (l[i + 1]'hi3).2 x.dead ((h4.rd hm1).keep kd) ((h4.rd hm2).keep kd) (hb.b _ (by rw [← h.eq]; exact yax hm1)) (hb.b _ (by rw [← h.eq]; exact yax hm2)) (own_rowO (h4.keep0 kd).dd) (by have := hb.d; omega) (hE4.keep kd)) ?_
  rintro e w5 ⟨rfl, sv', dv', l', h5, M5⟩
  refine RT ?_
  refine KGO ?_
  exact ⟨rfl, sv', dv', l', h5, (MutX.same (KK.trans0 kd)).trans M5⟩
 | none =>
  dsimp only
  refine KGO ?_
  refine Ya (Tryz.call95 _ _) (znK (w := w4) (v := .slice sa l.length sc) l 96 (.pointer (some ⟨b1, 0, none⟩)) (fun q => dueX x q.2) (own_rowO h4.sg) OM Tryz.call96 (fun q hq u k => zpC (w := u) (x := x) (h4.var.keep0 k) ((own_rowO h4.dd).keep k) hb.d q ((h4.rd hq).keep k) (hb.c.asc q.2 (by rw [← h.eq]; exact yax hq)) (hb.c.dl q.2 (by rw [← h.eq]; exact yax hq)) (v4.keep0 k))) ?_
  rintro e w5 ⟨rfl, k5⟩
  rw [zlU (fun q : Sv × Sgm => q.2) (dueX x), h.eq]
  have K5 := KK.trans0 k5
  have h5 := h4.keep0 k5
  have v5 := v4.keep0 k5
  have a15 := v5.at
  have ha5 := h5.var.at
  have q5 := Yb w5 n_
  dsimp only at ha5
  refine RT ?_
  unfold idxP
  cases hf : x.segs.findIdx? (dueX x) with
  | none =>
   dsimp only
   refine KGO ?_
   exact ⟨rfl, _, _, _, h5, MutX.same K5⟩
  | some i =>
   obtain ⟨hi2, _⟩ := List.findIdx?_eq_some_iff_getElem.1 hf
   obtain ⟨gb, o, rfl, hgb, hat⟩ := hrs OM
   have hat := at_mono hat K5
   have e1 : x.segs.getD i ⟨[], []⟩ = (l[i]'OM).2 := by rw [seg_at OM]; simp only [← h.eq, ybi]
   have hm1 : (l[i]'OM) ∈ l := yak _
   dsimp only
   rw [e1]
   have hi1 : i < l.length := OM
   refine KGO ?_
   refine Ye (zoa _) ?_
   refine KGO ?_
   have kd := (Yb w5 n_).drew
   refine Ya (Tryz.call84 _ _) (zeM (w := w5.drew) (h5.keep0 kd) hb.c hb.d i 1 OM OM (l[i]'hi1).1 ⟨⟨none, 0, 0⟩, ⟨none, 0, 0⟩⟩ (l[i]'hi1).2 ⟨[], []⟩ x.dead ((h5.rd hm1).keep kd) (zrq _) (hb.b _ (by rw [← h.eq]; exact yax hm1)) zor (own_rowO (h5.keep0 kd).dd) (by have := hb.d; omega) (hE4.keep (k5.trans0 kd))) ?_
   rintro e w6 ⟨rfl, sv', dv', l', h6, M6⟩
   refine RT ?_
   refine KGO ?_
   exact ⟨rfl, sv', dv', l', h6, (MutX.same (K5.trans0 kd)).trans M6⟩
end
structure SerB (x : Ix) : Prop where
 sm : ∀ s ∈ x.segs, SmS s ∧ s.docs.length ≤ 100000000
 n : x.segs.length ≤ 100000000
 d : x.dead.length ≤ 100000000
 p : ∀ d ∈ x.dead, 0 ≤ d ∧ d < 9223372036854775808
 l : (serX x).length ≤ 100000000000
section
variable {w : World} {b : Nat} {sv dv : Sl} {l : List (Sv × Sgm)} {x : Ix}
theorem zhC (h : IxV w b sv dv l) (rd : RowI w dv.v x.dead) (he : l.map (·.2) = x.segs) (hb : SerB x) (hE : CEnv w) : Calls Tryz.prog 14 #[.pointer (some ⟨b, 0, none⟩)] w fun e w' => e = .returned (.string (str (serX x))) ∧ Kp w w' n_ := by
 have hll : l.length = x.segs.length := by rw [← he, yaf]
 have hn := hb.n
 have hl := hb.l
 obtain ⟨a0, c0, es, hrs⟩ := h.sg
 obtain ⟨ad, cd, ed, hrd⟩ := id rd
 obtain ⟨sa, sn, sc⟩ := sv
 obtain ⟨da, dn, dc⟩ := dv
 injection es with e1 e2 e3
 injection ed with f1 f2 f3
 dsimp only at e1 e2 e3 f1 f2 f3
 subst e1 e2 e3 f1 f2 f3
 have ha := h.var.at
 dsimp only at ha
 have hdn : iL (toN x.dead) = x.dead := iL_toN fun n hn => (hb.p n hn).1
 have hNl : (toN x.dead).length = x.dead.length := by unfold toN; exact List.length_map _
 have hNb : ∀ n ∈ toN x.dead, n < 2 ^ 63 := fun n hn => by
  obtain ⟨d, hd, rfl⟩ := yay.1 hn
  have := hb.p d hd
  omega
 unfold serX at hl ⊢
 rw [yaa, yaa] at hl
 have hdd := hb.d
 refine zaa (args := [.pointer (some ⟨b, 0, none⟩)]) Tryz.func14 rfl NL ?_; refine GW ?_
 have hb0 := zex w w.heap.size (yag _)
 have K0 : Kp w (w.alloc (.cells #[.pointer none, .slice none 0 0] 93)) n_ := (Yb _ _).alloc _
 generalize w.alloc (.cells #[.pointer none, .slice none 0 0] 93) = w1 at *
 obtain ⟨b2, hb2⟩ : ∃ b2, w.heap.size = b2 := ⟨_, rfl⟩
 rw [hb2] at hb0 ⊢
 refine KGO ?_
 rw [hll]
 refine Ya (Tryz.call67 _ _) (zfU (w := w1) x.segs.length OM) ?_
 rintro e w2 ⟨rfl, k2⟩
 have K2 := K0.trans0 k2
 have hb2' := zbb hb0 k2
 refine RT ?_
 have hPl := zap (n := x.segs.length) OM
 generalize hPRE : numE x.segs.length = PRE at *
 refine Ya (Tryz.call66 _ _) (zaP (str PRE) w2 hb2' (by rw [show (str PRE).size = PRE.length from rfl]; simp; omega) (by have := K2.size; omega)) ?_
 rintro e w3 ⟨rfl, hb3, hbe, _⟩
 have K3 : Kp w w3 n_ := K2.below' hbe OM
 rw [yaT, show L (str PRE) = PRE from rfl] at hb3
 clear hb0 hb2' hbe k2 K2 K0
 refine RT ?_
 refine KGO ?_
 rw [← hll]
 refine Yc (ι := Nat) (fun i => [(0, .pointer (some ⟨b, 0, none⟩)), (3, .pointer (some ⟨b2, 0, none⟩)), (16, .slice sa l.length sc), (17, .int .i64 (l.length : Nat)), (18, .int .i64 (i : Nat))])
  (fun i wr => Kp w wr n_ ∧ i ≤ l.length ∧ Bld wr b2 b2 (PRE ++ (x.segs.take i).flatMap segE)) (fun i => l.length - i) 0 FR ⟨K3, yal _, by simpa using hb3⟩ ?_
 clear hb3 K3
 rintro i gg wr ⟨hK, hi, hbr⟩
 have zr := hK.size
 refine GW ?_
 by_cases hlt : i < l.length
 ·obtain ⟨gt, ot, rfl, hgt, hat⟩ := hrs OM
  have hst : (x.segs.take (i + 1)).flatMap segE = (x.segs.take i).flatMap segE ++ segE l[i].2 := by
   rw [yad OM, yaC]
   simp only [← he, ybi, ybN]
  have hft := zcb segE x.segs (i + 1)
  rw [hst, yaa] at hft
  have hm : l[i].2 ∈ x.segs := by rw [← he]; exact yax (yak hlt)
  obtain ⟨hsm, hsd⟩ := hb.sm _ hm
  have hrr := h.el l[i] (yak hlt)
  refine KGO ?_
  refine Yg (vs := sgP l[i]) (by rfl) rfl (zak (by rfl)) ?_
  obtain ⟨a_b5, k_w7, z_w7⟩ := new3 wr 65 (sgP l[i])
  generalize wr.alloc (.cells (List.toArray (sgP l[i])) 65) = w7 at *
  generalize hs_b5 : wr.heap.size = b5 at *
  have hb7 := zbb hbr k_w7
  have K7 := hK.trans0 k_w7
  have q7 := Yb w7 n_
  clear hat hbr
  generalize (x.segs.take i).flatMap segE = PT at *
  generalize l[i] = p at *
  have hse : (segE p.2).length = (numE (serS p.2).length).length + (serS p.2).length := yaa
  refine KGO ?_
  refine Ya (Tryz.call69 _ _) (zlt (w := w7) p.1 p.2 (hrr.keep K7) hsm (hE.keep K7) hsd OM) ?_
  rintro e w8 ⟨rfl, k8⟩
  have K8 := K7.trans0 k8
  refine RT ?_
  refine Ya (Tryz.call68 _ _) (zhu (w := w8) (serS p.2) OM) ?_
  rintro e w9 ⟨rfl, k9⟩
  have K9 := K8.trans0 k9
  have hb9 := zbb (zbb hb7 k8) k9
  refine RT ?_
  have hsg : textE (serS p.2) = segE p.2 := rfl
  rw [hsg]
  generalize segE p.2 = X at *
  refine Ya (Tryz.call66 _ _) (zaP (str X) w9 hb9 (by rw [show (str X).size = X.length from rfl, yaa]; omega) (by have := K9.size; omega)) ?_
  rintro e w11 ⟨rfl, hb11, hbe11, _⟩
  have K11 : Kp w w11 n_ := K9.below' hbe11 OM
  rw [show L (str X) = X from rfl] at hb11
  refine RT ?_
  refine KGO ?_
  exact ⟨i + 1, FR, ⟨K11, OM, by rw [hst, ← yap]; exact hb11⟩, DO⟩
 obtain rfl : i = l.length := OM
 rw [yaz OM] at hbr
 have hn2 : (numsE (toN x.dead)).length ≤ 9 + 9 * x.dead.length := by
  unfold numsE
  have h2 := zap (n := (toN x.dead).length) OM
  have h3 := zbC (toN x.dead) hNb
  rw [yaa]; omega
 have hrow : RowI wr (.slice da x.dead.length dc) (iL (toN x.dead)) := by rw [hdn]; exact rd.keep hK
 generalize x.segs.flatMap segE = PT at *
 refine KGO ?_
 refine Ya (Tryz.call70 _ _) (zoU (w := wr) (toN x.dead) hrow hNb OM) ?_
 rintro e w4 ⟨rfl, k4⟩
 have K4 := hK.trans0 k4
 have hb4 := zbb hbr k4
 refine RT ?_
 generalize numsE (toN x.dead) = X at *
 refine Ya (Tryz.call66 _ _) (zaP (str X) w4 hb4 (by rw [show (str X).size = X.length from rfl, yaa]; omega) (by have := K4.size; omega)) ?_
 rintro e w5 ⟨rfl, hb5, hbe5, _⟩
 have K5 : Kp w w5 n_ := K4.below' hbe5 OM
 rw [show L (str X) = X from rfl] at hb5
 refine RT ?_
 refine KGO ?_
 refine Ya (Tryz.call71 _ _) (zdo w5 hb5 (by have := K5.size; omega)) ?_
 rintro e w12 ⟨rfl, _, hbe, _⟩
 refine RT ?_
 refine KGO ?_
 exact ⟨by rw [yap], K5.below' hbe OM⟩
end
def SeenI (w : World) (mb : Nat) (F : List Int) : Prop := ∃ m, GMap (Value.int .i64) w mb m ∧ ∀ d, (m.get d).getD (.bool false) = .bool (decide (d ∈ F))
theorem SeenI.keep {w w' : World} {c : Nat → Prop} {mb : Nat} {F : List Int} (h : SeenI w mb F) (k : Kp w w' c) (hc : ¬ c mb) : SeenI w' mb F := by
 obtain ⟨m, h1, h2⟩ := h
 exact ⟨m, h1.keep k hc, h2⟩
def flD (l : List Sgm) : List Int := l.flatMap fun s => s.docs
theorem zkP {l : List Sgm} {i : Nat} (h : i < l.length) : flD (l.take (i + 1)) = flD (l.take i) ++ l[i].docs := by
 unfold flD
 rw [yad h, yaC]; simp
theorem znL (l : List Sgm) (i : Nat) : (flD (l.take i)).Sublist (flD l) := by
 unfold flD
 conv => rhs; rw [← yaB i l, yaC]
 exact List.sublist_append_left _ _
theorem zld {x : Ix} (h : ¬ (flD x.segs).Nodup) : zaS x = false := by
 unfold flD at h
 unfold zaS
 rw [decide_eq_false h]
 simp
theorem zlo {x : Ix} {s : Sgm} (hs : s ∈ x.segs) (h : s.docs = []) : zaS x = false := by
 unfold zaS
 have : x.segs.all (fun s => !s.docs.isEmpty) = false := by
  rw [ybZ]
  exact ⟨s, hs, by rw [h]; simp⟩
 rw [this]
 simp
theorem zks {x : Ix} {d : Int} (hd : d ∈ x.dead) (h : d ∉ flD x.segs) : zaS x = false := by
 unfold zaS
 have : x.dead.all (fun d => decide (d ∈ x.segs.flatMap fun s => s.docs)) = false := by
  rw [ybZ]
  exact ⟨d, hd, by unfold flD at h; rw [decide_eq_false h]; simp⟩
 rw [this]
 simp
theorem zlD {x : Ix} (h : ¬ x.dead.Pairwise fun a b => a < b) : zaS x = false := by
 unfold zaS
 rw [decide_eq_false h]
 simp
theorem ziI {x : Ix} (h1 : (flD x.segs).Nodup) (h2 : ∀ s ∈ x.segs, s.docs ≠ []) (h3 : ∀ d ∈ x.dead, d ∈ flD x.segs) (h4 : x.dead.Pairwise fun a b => a < b) : zaS x = true := by
 unfold flD at h1 h3
 unfold zaS
 have a1 : x.segs.all (fun s => !s.docs.isEmpty) = true := by
  rw [yaF]
  intro s hs
  have := h2 s hs
  cases h : s.docs with
  | nil => exact absurd h this
  | cons a l => rfl
 have a2 : x.dead.all (fun d => decide (d ∈ x.segs.flatMap fun s => s.docs)) = true := by
  rw [yaF]
  intro d hd
  exact decide_eq_true (h3 d hd)
 rw [decide_eq_true h1, a1, a2, decide_eq_true h4]
 rfl
section
variable {w : World} {b : Nat} {sv dv : Sl} {l : List (Sv × Sgm)} {x : Ix}
theorem zqW (h : IxV w b sv dv l) (rd : RowI w dv.v x.dead) (he : l.map (·.2) = x.segs) (hn : x.segs.length ≤ 100000000) (hdn : x.dead.length ≤ 100000000) (hsd : ∀ s ∈ x.segs, s.docs.length ≤ 100000000) : Calls Tryz.prog 57 #[.pointer (some ⟨b, 0, none⟩)] w fun e w' => e = .returned (.bool (zaS x)) ∧ Kp w w' n_ := by
 have hll : l.length = x.segs.length := by rw [← he, yaf]
 obtain ⟨a0, c0, es, hrs⟩ := h.sg
 obtain ⟨ad, cd, ed, hrd⟩ := id rd
 obtain ⟨sa, sn, sc⟩ := sv
 obtain ⟨da, dn, dc⟩ := dv
 injection es with e1 e2 e3
 injection ed with f1 f2 f3
 dsimp only at e1 e2 e3 f1 f2 f3
 subst e1 e2 e3 f1 f2 f3
 have ha := h.var.at
 dsimp only at ha
 refine zaa (args := [.pointer (some ⟨b, 0, none⟩)]) Tryz.func57 rfl NL ?_; refine GW ?_
 refine RunV.makeMap rfl ?_
 have km : Kp w (w.alloc (.map #[] 0)) n_ := (Yb _ _).alloc _
 have hm0 : GMap (Value.int .i64) (w.alloc (.map #[] 0)) w.heap.size ([] : GM Int) := GMap.new w
 generalize w.alloc (.map #[] 0) = w1 at *
 obtain ⟨mb, hmb⟩ : ∃ mb, w.heap.size = mb := ⟨_, rfl⟩
 rw [hmb] at hm0 ⊢
 have hs0 : SeenI w1 mb [] := ⟨[], hm0, fun d => rfl⟩
 have hlm := hm0.lt
 refine KGO ?_
 refine Yc (ι := Nat) (fun i => [(0, .pointer (some ⟨b, 0, none⟩)), (3, .map (some mb)), (14, .slice sa l.length sc), (15, .int .i64 (l.length : Nat)), (16, .int .i64 (i : Nat))])
  (fun i wr => Kp w wr n_ ∧ i ≤ l.length ∧ SeenI wr mb (flD (x.segs.take i)) ∧ (flD (x.segs.take i)).Nodup ∧ ∀ s ∈ x.segs.take i, s.docs ≠ []) (fun i => l.length - i) 0 FR ⟨km, yal _, hs0, List.nodup_nil, fun s h => by rw [ybG] at h; cases h⟩ ?_
 clear hm0 hs0 km hlm
 rintro i gg wr ⟨hK, hi, hse, hnd, hne⟩
 refine GW ?_
 by_cases hlt : i < l.length
 ·obtain ⟨gt, ot, rfl, hgt, hat⟩ := hrs OM
  have hlx : i < x.segs.length := OM
  have e1 : x.segs[i] = l[i].2 := by simp only [← he, ybi]
  have hft := zkP hlx
  rw [e1] at hft
  have hm : l[i].2 ∈ x.segs := by rw [← e1]; exact yak _
  have hsub := znL x.segs (i + 1)
  have htk : x.segs.take (i + 1) = x.segs.take i ++ [l[i].2] := by rw [yad hlx, e1]
  have hdl := hsd _ hm
  have hrr := h.el l[i] (yak hlt)
  refine KGO ?_
  refine Yg (vs := sgP l[i]) (by rfl) rfl (zak (by rfl)) ?_
  obtain ⟨a_b5, k_w2, z_w2⟩ := new3 wr 65 (sgP l[i])
  generalize wr.alloc (.cells (List.toArray (sgP l[i])) 65) = w2 at *
  generalize hs_b5 : wr.heap.size = b5 at *
  have hs2 := hse.keep k_w2 id
  have hml : mb < b5 := by obtain ⟨_, q, _⟩ := hse; rw [← hs_b5]; exact q.lt
  have K2 := hK.trans0 k_w2
  clear hat hse e1
  generalize l[i] = p at *
  obtain ⟨⟨t, ⟨pa, pn, pc⟩⟩, s⟩ := p
  obtain ⟨ap, cp, ep, hrp⟩ := hrr.d
  injection ep with e1 e2 e3
  dsimp only at e1 e2 e3 hft hm htk hdl hrp
  subst e1 e2 e3
  have a5 : At w2 b5 0 [.slice t.a t.n t.c, .slice pa s.docs.length pc] := a_b5
  have q2 := Yb w2 n_
  generalize flD (x.segs.take i) = F at *
  refine KGO ?_
  refine Yc (ι := Nat) (fun j => [(0, .pointer (some ⟨b, 0, none⟩)), (3, .map (some mb)), (5, .pointer (some ⟨b5, 0, none⟩)), (14, .slice (some ⟨gt, ot, none⟩) l.length sc), (15, .int .i64 (l.length : Nat)), (16, .int .i64 (i : Nat)), (21, .slice pa s.docs.length pc), (22, .int .i64 (s.docs.length : Nat)), (23, .int .i64 (j : Nat))])
   (fun j wk => Kp w wk n_ ∧ At wk b5 0 [.slice t.a t.n t.c, .slice pa s.docs.length pc] ∧ j ≤ s.docs.length ∧ SeenI wk mb (F ++ s.docs.take j) ∧ (F ++ s.docs.take j).Nodup) (fun j => s.docs.length - j) 0 FR ⟨K2, a5, yal _, by simpa using hs2, by simpa using hnd⟩ ?_
  clear hs2 hnd a5 a_b5
  rintro j gj wk ⟨hKk, a5, hj, ⟨m, hgm, hgs⟩, hnd⟩
  have qk := Yb wk n_
  refine GW ?_
  by_cases hjt : j < s.docs.length
  ·obtain ⟨gd, od, rfl, hgd, hatd⟩ := hrp OM
   have chj := zaJ (at_mono hatd hKk) hjt
   have hts : s.docs.take (j + 1) = s.docs.take j ++ [s.docs[j]] := yad hjt
   have hss : (F ++ s.docs.take (j + 1)).Sublist (F ++ s.docs) := List.Sublist.append (List.Sublist.refl _) (List.take_sublist _ _)
   rw [hts] at hss
   generalize hd : s.docs[j] = d at *
   refine KGO ?_
   refine Yn okKI Tryz.underlying143 (by rfl) hgm d rfl ?_
   rw [hgs]
   by_cases hin : d ∈ F ++ s.docs.take j
   ·rw [decide_eq_true hin]
    have hv : zaS x = false := zld fun hh => by
     have h2 := (hh.sublist hsub)
     rw [hft] at h2
     have h3 := h2.sublist hss
     rw [← yap] at h3
     have := (ybr.1 h3).2.2 d hin d (yac.2 rfl)
     exact this rfl
    refine KGO ?_
    exact ⟨by rw [hv], hKk⟩
   rw [decide_eq_false hin]
   refine KGO ?_
   refine RunU.updG okKI Tryz.underlying143 hgm d rfl _ fun wu gu ku => ?_
   have hlm := hgm.lt
   refine KGO ?_
   refine ⟨j + 1, FR, ⟨keeps_new hKk ku OM, zaI a5 ku (fun e => ?_), OM, ⟨_, gu, fun d' => ?_⟩, ?_⟩, DO⟩
   ·have e : b5 = mb := e
    omega
   ·rw [GM.get_put, hts]
    by_cases hd' : d' = d
    ·rw [if_pos hd', hd']; simp
    rw [if_neg hd', hgs]; simp [hd']
   rw [hts, ← yap, ybr]
   exact ⟨hnd, by simp, fun a ha b hb e => hin (by rw [← yac.1 hb, ← e]; exact ha)⟩
  obtain rfl : j = s.docs.length := OM
  rw [yaD, ← hft] at hnd hgs
  by_cases h0 : s.docs.length = 0
  ·have hv : zaS x = false := zlo hm (yan h0)
   refine KGO ?_
   exact ⟨by rw [hv], hKk⟩
  refine KGO ?_
  refine ⟨i + 1, FR, ⟨hKk, OM, ⟨m, hgm, hgs⟩, hnd, fun s' hs' => ?_⟩, DO⟩
  rw [htk] at hs'
  rcases yaj.1 hs' with hs' | hs'
  ·exact hne s' hs'
  rw [yac.1 hs']
  exact fun e => h0 (by rw [e]; rfl)
 obtain rfl : i = l.length := OM
 rw [yaz OM] at hse hnd hne
 obtain ⟨m, hgm, hgs⟩ := hse
 generalize hF : flD x.segs = F at *
 have hml := hgm.lt
 refine KGO ?_
 refine Yc (ι := Nat) (fun i => [(0, .pointer (some ⟨b, 0, none⟩)), (3, .map (some mb)), (41, .slice da x.dead.length dc), (42, .int .i64 (x.dead.length : Nat)), (43, .int .i64 (i : Nat))])
  (fun i wk => Kp wr wk n_ ∧ i ≤ x.dead.length ∧ (∀ j (hj : j < x.dead.length), j < i → x.dead[j] ∈ F) ∧ ∀ j (hj : j + 1 < x.dead.length), j + 1 < i → ltI (x.dead[j]'OM) x.dead[j + 1] = true) (fun i => x.dead.length - i) 0 FR ⟨Yb _ _, yal _, fun j hj h => OM, fun j hj h => OM⟩ ?_
 rintro i gi wk ⟨hKk, hi, hin, has⟩
 have hKw := hK.trans0 hKk
 refine GW ?_
 by_cases hit : i < x.dead.length
 ·obtain ⟨gd, od, rfl, hgd, hatd⟩ := hrd OM
  have ci := zaJ hatd hit
  have hat' := hatd
  have hmk := hgm.keep hKk id
  clear hatd hrs
  refine KGO ?_
  refine Yn okKI Tryz.underlying143 (by rfl) hmk x.dead[i] rfl ?_
  rw [hgs]
  by_cases hd : x.dead[i] ∈ F
  ·rw [decide_eq_true hd]
   have hin2 : ∀ j (hj : j < x.dead.length), j < i + 1 → x.dead[j] ∈ F := fun j hj h => by
    by_cases hj2 : j < i
    ·exact hin j hj hj2
    obtain rfl : j = i := OM
    exact hd
   cases i with
   | zero =>
    refine KGO ?_
    exact ⟨1, FR, ⟨hKk, OM, hin2, fun j hj h => OM⟩, DO⟩
   | succ k =>
    have ck : w.cell? ⟨gd, od + k, none⟩ = some (.int .i64 x.dead[k]) := zaJ hat' OM
    have e1 : (((k + 1 : Nat) : Int) - 1).toNat = k := OM
    clear hat'
    refine KGO ?_
    rw [e1]
    refine KGO ?_
    by_cases h3 : x.dead[k + 1] ≤ x.dead[k]
    ·have hv : zaS x = false := zlD fun hh => by
      have := (yaH.1 hh) k (k + 1) OM hit OM
      omega
     refine KGO ?_
     exact ⟨by rw [hv], hKw⟩
    refine KGO ?_
    refine ⟨k + 1 + 1, FR, ⟨hKk, OM, hin2, fun j hj h => ?_⟩, DO⟩
    by_cases hj2 : j + 1 < k + 1
    ·exact has j hj hj2
    obtain rfl : j = k := OM
    exact decide_eq_true OM
  rw [decide_eq_false hd]
  have hv : zaS x = false := zks (yak hit) (by rw [hF]; exact hd)
  refine KGO ?_
  exact ⟨by rw [hv], hKw⟩
 have hv : zaS x = true := ziI (by rw [hF]; exact hnd) hne (fun d hd => by
  obtain ⟨j, hj, rfl⟩ := ybh hd
  rw [hF]
  exact hin j hj OM) ((pw_consec stoI.tr _ fun j hj => has j hj OM).imp fun h => of_decide_eq_true h)
 refine KGO ?_
 exact ⟨by rw [hv], hKw⟩
end
structure Iw (x : Ix) (N Q Z : Nat) : Prop where
 ok : IxOk x
 wt : WtS 4000 x.segs N Q
 z : zX x.segs ≤ Z
theorem Iw.b {x : Ix} {N Q Z : Nat} (h : Iw x N Q Z) (hN : N ≤ 1000) (hQ : Q ≤ 20000) : IxB x := by
 obtain ⟨h1, h2, _, _⟩ := zrV h.ok h.wt
 exact ⟨h.ok, OM, OM, fun s hs => (h.wt.mem s hs).b.mono hN hQ hQ⟩
theorem Iw.empty : Iw zeP 0 0 0 := ⟨zie.1, trivial, yag _⟩
def lenX (tx : List (List UInt8)) : Nat := (tx.getD 0 []).length + (tx.getD 1 []).length + (tx.getD 2 []).length + (tx.getD 3 []).length + (tx.getD 4 []).length + (tx.getD 5 []).length
theorem zlJ {tx : List (List UInt8)} (h6 : tx.length = 6) : ∀ t ∈ tx, t.length ≤ lenX tx := by
 match tx, h6 with
 | [a, b, c, d, e, f], _ =>
  intro t ht
  simp only [yah, yaS, or_false] at ht
  show _ ≤ a.length + b.length + c.length + d.length + e.length + f.length
  rcases ht with rfl | rfl | rfl | rfl | rfl | rfl <;> omega
theorem Iw.add {x : Ix} {N Q Z : Nat} (h : Iw x N Q Z) {doc : Int} {tx : List (List UInt8)} (h6 : tx.length = 6) (hL : lenX tx ≤ 1500) : Iw (addX x doc tx).2 (N + 5) (Q + (10 * lenX tx + 15)) (Z + (8 * lenX tx + 20)) := by
 have hm := zlJ h6
 refine ⟨?_, ?_, ?_⟩
 ·by_cases h0 : (addX x doc tx).1 = 0
  ·exact (zrn h.ok (fun t ht => by have := hm t ht; omega) h0).1
  rw [add_no h0]; exact h.ok
 ·exact (ztK h.wt (L := lenX tx) hm OM OM).mono (yag _) OM
 have h1 := z_add x doc tx
 have h2 := h.z
 unfold lenX
 omega
theorem Iw.drop {x : Ix} {N Q Z : Nat} (h : Iw x N Q Z) (doc : Int) : Iw (dropX x doc).2 N Q Z := ⟨(znf h.ok doc).1, wt_drop h.wt doc, by rw [ztG]; exact h.z⟩
theorem Iw.step {x : Ix} {N Q Z : Nat} (h : Iw x N Q Z) : Iw (stepX x).2 N Q Z := ⟨(znX h.ok).1, zsP h.wt, yaw (zup x) h.z⟩
theorem Iw.len {x : Ix} {N Q Z : Nat} (h : Iw x N Q Z) (hN : N ≤ 1000) (hZ : Z ≤ 100000) : (serX x).length ≤ 9000000 := by
 have h1 := h.z
 have h2 := h.wt.docs
 obtain ⟨_, h3, _, _⟩ := zrV h.ok h.wt
 have := zqo h.ok OM OM OM
 omega
def renTm : Go.Shelf.Ren := ⟨fun | 6 => 143 | 14 => 207 | 15 => 129 | 20 => 239 | 21 => 240 | 22 => 241 | 23 => 242 | 24 => 243 | 25 => 244 | 26 => 245 | 27 => 246 | 28 => 187 | 29 => 188 | 46 => 257 | 47 => 226 | 48 => 227 | 49 => 258 | 50 => 259 | 57 => 267 | n => n, fun | 0 => 0 | 3 => 3 | 4 => 4 | 5 => 5 | 9 => 9 | 22 => 63 | 24 => 141 | 25 => 172 | 39 => 153 | 45 => 197 | 46 => 198 | 50 => 104 | 53 => 204 | 55 => 206 | 66 => 236 | 70 => 234 | 76 => 259 | 77 => 61 | n => n, fun | n => n⟩
theorem zrQ : Go.Proofs.SlLaysF0.n6 Tryz.prog renTm := {
 mixed := by kernel_rfl
 f6 := ⟨Tryz.f143.name, by decide, Tryz.func143.trans (congrArg some (by kernel_rfl))⟩
 f14 := ⟨Tryz.f207.name, by decide, Tryz.func207.trans (congrArg some (by kernel_rfl))⟩
 f15 := Tryz.func129.trans (congrArg some (by kernel_rfl))
 f20 := ⟨Tryz.f239.name, by decide, Tryz.func239.trans (congrArg some (by kernel_rfl))⟩
 f21 := ⟨Tryz.f240.name, by decide, Tryz.func240.trans (congrArg some (by kernel_rfl))⟩
 f22 := ⟨Tryz.f241.name, by decide, Tryz.func241.trans (congrArg some (by kernel_rfl))⟩
 f23 := ⟨Tryz.f242.name, by decide, Tryz.func242.trans (congrArg some (by kernel_rfl))⟩
 f24 := ⟨Tryz.f243.name, by decide, Tryz.func243.trans (congrArg some (by kernel_rfl))⟩
 f25 := ⟨Tryz.f244.name, by decide, Tryz.func244.trans (congrArg some (by kernel_rfl))⟩
 f26 := ⟨Tryz.f245.name, by decide, Tryz.func245.trans (congrArg some (by kernel_rfl))⟩
 f27 := ⟨Tryz.f246.name, by decide, Tryz.func246.trans (congrArg some (by kernel_rfl))⟩
 f28 := Tryz.func187.trans (congrArg some (by kernel_rfl))
 f29 := Tryz.func188.trans (congrArg some (by kernel_rfl))
 f46 := ⟨Tryz.f257.name, by decide, Tryz.func257.trans (congrArg some (by kernel_rfl))⟩
 f47 := Tryz.func226.trans (congrArg some (by kernel_rfl))
 f48 := Tryz.func227.trans (congrArg some (by kernel_rfl))
 f49 := ⟨Tryz.f258.name, by decide, Tryz.func258.trans (congrArg some (by kernel_rfl))⟩
 f50 := ⟨Tryz.f259.name, by decide, Tryz.func259.trans (congrArg some (by kernel_rfl))⟩
 f57 := ⟨Tryz.f267.name, by decide, Tryz.func267.trans (congrArg some (by kernel_rfl))⟩
 t0 := Tryz.underlying0
 a0 := Tryz.isAgg0
 z0 := Tryz.sizeOf0
 v0 := Tryz.zeroValue0
 t3 := Tryz.underlying3
 a3 := Tryz.isAgg3
 z3 := Tryz.sizeOf3
 v3 := Tryz.zeroValue3
 t4 := Tryz.underlying4
 a4 := Tryz.isAgg4
 z4 := Tryz.sizeOf4
 v4 := Tryz.zeroValue4
 t5 := Tryz.underlying5
 a5 := Tryz.isAgg5
 z5 := Tryz.sizeOf5
 v5 := Tryz.zeroValue5
 t9 := Tryz.underlying9
 a9 := Tryz.isAgg9
 z9 := Tryz.sizeOf9
 v9 := Tryz.zeroValue9
 t22 := Tryz.underlying63
 a22 := Tryz.isAgg63
 z22 := Tryz.sizeOf63
 v22 := Tryz.zeroValue63
 t25 := Tryz.underlying172
 a25 := Tryz.isAgg172
 z25 := Tryz.sizeOf172
 v25 := Tryz.zeroValue172
 t39 := Tryz.underlying153
 a39 := Tryz.isAgg153
 z39 := Tryz.sizeOf153
 v39 := Tryz.zeroValue153
 t45 := Tryz.underlying197
 a45 := Tryz.isAgg197
 z45 := Tryz.sizeOf197
 v45 := Tryz.zeroValue197
 t46 := Tryz.underlying198
 a46 := Tryz.isAgg198
 z46 := Tryz.sizeOf198
 v46 := Tryz.zeroValue198
 t50 := Tryz.underlying104
 a50 := Tryz.isAgg104
 z50 := Tryz.sizeOf104
 v50 := Tryz.zeroValue104
 t53 := Tryz.underlying204
 a53 := Tryz.isAgg204
 z53 := Tryz.sizeOf204
 v53 := Tryz.zeroValue204
 t55 := Tryz.underlying206
 a55 := Tryz.isAgg206
 z55 := Tryz.sizeOf206
 v55 := Tryz.zeroValue206
 t66 := Tryz.underlying236
 a66 := Tryz.isAgg236
 z66 := Tryz.sizeOf236
 v66 := Tryz.zeroValue236
 t70 := Tryz.underlying234
 a70 := Tryz.isAgg234
 z70 := Tryz.sizeOf234
 v70 := Tryz.zeroValue234
 t76 := Tryz.underlying259
 a76 := Tryz.isAgg259
 z76 := Tryz.sizeOf259
 v76 := Tryz.zeroValue259
 t77 := Tryz.underlying61
 a77 := Tryz.isAgg61
 z77 := Tryz.sizeOf61
 v77 := Tryz.zeroValue61 }
end Go.Proofs.YtennokckmjcefaaGreatDoor
namespace Go.Proofs.YtennokckmjcefaaGreatDoor
open Go.Shelf Go.RowKit Go.Pw Go.Vc Go.Cs Go.Lib Go.Cd Go.Mg Go.Sort
def Gr (w w' : World) : Prop := ∃ q os, w' = grow (w.drewN q) os
theorem Gr.trans {a b c : World} (h : Gr a b) (k : Gr b c) : Gr a c := by
 obtain ⟨q, os, rfl⟩ := h
 obtain ⟨q2, os2, rfl⟩ := k
 refine ⟨q + q2, os ++ os2, ?_⟩
 rw [← World.drewN_drewN, ← grow_grow]; rfl
theorem Gr.drew (w : World) : Gr w w.drew := ⟨1, #[], by unfold grow; simp; rfl⟩
theorem Gr.alloc (w : World) (o : Obj) : Gr w (w.alloc o) := ⟨0, #[o], by rw [alloc_eq_grow]; rfl⟩
section
variable {w : World}
theorem ztH {b : Nat} (x y : Int) (hat : At w b 0 [.int .i64 x, .int .i64 y]) : Calls Tryz.prog 208 #[.slice (some ⟨b, 0, none⟩) 2 2] w fun e w' => e = .returned (.int .i64 (if x ≠ 0 then x else y)) ∧ w' = w := by
 refine zaa (args := [.slice (some ⟨b, 0, none⟩) 2 2]) Tryz.func208 rfl NL ?_; refine GW ?_
 have c0 : w.cell? ⟨b, 0 + 0, none⟩ = some (.int .i64 x) := hat 0 _ rfl
 have c1 : w.cell? ⟨b, 0 + 1, none⟩ = some (.int .i64 y) := hat 1 _ rfl
 refine Yc (ι := Nat) (fun i => [(3, .int .i64 0), (6, .slice (some ⟨b, 0, none⟩) 2 2), (7, .int .i64 2), (8, .int .i64 (i : Nat))])
  (fun i wr => wr = w ∧ i ≤ 2 ∧ (1 ≤ i → x = 0) ∧ (2 ≤ i → y = 0)) (fun i => 2 - i) 0 FR ⟨rfl, yal _, fun h => OM, fun h => OM⟩ ?_
 rintro i gg wr ⟨hW, hi, h1, h2⟩
 subst hW
 have hK := Yb wr n_
 refine GW ?_
 have hc : i = 0 ∨ i = 1 ∨ i = 2 := OM
 rcases hc with rfl | rfl | rfl
 ·by_cases hx : x = 0
  ·refine KGO ?_
   exact ⟨1, FR, ⟨rfl, OM, fun _ => hx, fun h => OM⟩, DO⟩
  refine KGO ?_
  exact ⟨by rw [if_pos hx], rfl⟩
 ·have hx := h1 OM
  by_cases hy : y = 0
  ·refine KGO ?_
   exact ⟨2, FR, ⟨rfl, OM, fun _ => hx, fun _ => hy⟩, DO⟩
  refine KGO ?_
  exact ⟨by rw [if_neg OM], rfl⟩
 have hx := h1 OM
 have hy := h2 OM
 refine KGO ?_
 exact ⟨by rw [hx, hy]; rfl, rfl⟩
theorem ztS (x y : Int) : Calls Tryz.prog 209 #[.int .i64 x, .int .i64 y] w fun e w' => e = .returned (.int .i64 (cmpI x y)) ∧ w = w' := by
 refine zaa (args := [.int .i64 x, .int .i64 y]) Tryz.func209 rfl NL ?_; refine GW ?_
 refine Ya (Tryz.call189 _ _) (ziT x) ?_
 rintro e _ ⟨rfl, rfl⟩
 refine RT ?_
 refine Ya (Tryz.call189 _ _) (ziT y) ?_
 rintro e _ ⟨rfl, rfl⟩
 refine RT ?_
 unfold cmpI
 by_cases h1 : x < y
 ·refine KGO ?_
  exact ⟨by rw [if_pos h1], rfl⟩
 by_cases h2 : y < x
 ·refine KGO ?_
  exact ⟨by rw [if_neg h1, if_pos h2], rfl⟩
 refine KGO ?_
 exact ⟨by rw [if_neg h1, if_neg h2], rfl⟩
theorem zmE (x y : Trm) : Calls Tryz.prog 144 #[.agg (tmC x).toArray, .agg (tmC y).toArray] w fun e w' => e = .returned (.int .i64 (cmpT x y)) ∧ Gr w w' := by
 refine zaa (args := [.agg (tmC x).toArray, .agg (tmC y).toArray]) Tryz.func144 rfl NL ?_; refine GW ?_
 have g1 := Gr.alloc w (.cells (List.toArray (tmC x)) 141)
 obtain ⟨a_b1, v_b1, k_w1, z_w1, r_w1⟩ := new5 w 141 (tmC x)
 generalize w.alloc (.cells (List.toArray (tmC x)) 141) = w1 at *
 generalize hs_b1 : w.heap.size = b1 at *
 have g2 := Gr.alloc w1 (.cells (List.toArray (tmC y)) 141)
 obtain ⟨a_b2, v_b2, k_w2, z_w2, r_w2⟩ := new5 w1 141 (tmC y)
 generalize w1.alloc (.cells (List.toArray (tmC y)) 141) = w2 at *
 generalize hs_b2 : w1.heap.size = b2 at *
 have G2 := g1.trans g2
 have a1 := at_mono a_b1 k_w2
 clear a_b1 g1 g2
 refine KGO ?_
 refine Yo (fun u => Kp w2 u n_ ∧ Gr w2 u) (fun _ => true) (by decide +kernel) ⟨(Yb w2 n_).drew, Gr.drew w2⟩ ?_
 refine KGO ?_
 refine Yf (by rfl) (fun u hu => (at_mono a1 hu.1) 0 _ rfl) ?_
 refine KGO ?_
 refine Yf (by rfl) (fun u hu => (at_mono a_b2 hu.1) 0 _ rfl) ?_
 refine KGO ?_
 refine Ya (Tryz.call209 _ _) (ztS (w := w2.drew) x.field y.field) ?_
 rintro e _ ⟨rfl, rfl⟩
 have k23 : Kp w2 w2.drew n_ := (Yb w2 n_).drew
 have g23 := Gr.drew w2
 obtain ⟨w3, hw3⟩ : ∃ w3, w2.drew = w3 := ⟨_, rfl⟩
 rw [hw3] at k23 g23 ⊢
 refine RT ?_
 refine ⟨⟨k23, g23⟩, ?_⟩
 refine KGO ?_
 refine Yf (by rfl) (fun u hu => (at_mono a1 hu.1) 1 _ rfl) ?_
 refine KGO ?_
 refine Yf (by rfl) (fun u hu => (at_mono a_b2 hu.1) 1 _ rfl) ?_
 refine KGO ?_
 refine Ya (Tryz.call210 _ _) (ziU (str x.word) (str y.word) w3) ?_
 rintro e _ ⟨rfl, rfl⟩
 refine RT ?_
 refine ⟨⟨k23, g23⟩, ?_⟩
 refine KGO ?_
 refine Ye (bs2I _ _ _) ?_
 have g4 := Gr.alloc w3 (.cells (List.toArray [.int .i64 (cmpI x.field y.field), .int .i64 (compareBytes (L (str x.word)) (L (str y.word)))]) 3)
 obtain ⟨a_b4, v_b4, k_w4, z_w4, r_w4⟩ := new5 w3 3 ([.int .i64 (cmpI x.field y.field), .int .i64 (compareBytes (L (str x.word)) (L (str y.word)))])
 generalize w3.alloc (.cells (List.toArray ([.int .i64 (cmpI x.field y.field), .int .i64 (compareBytes (L (str x.word)) (L (str y.word)))])) 3) = w4 at *
 generalize hs_b4 : w3.heap.size = b4 at *
 refine ⟨⟨k23.trans0 k_w4, g23.trans g4⟩, ?_⟩
 refine KGO ?_
 refine Ya (Tryz.call208 _ _) (ztH _ _ a_b4) ?_
 rintro e _ ⟨rfl, rfl⟩
 refine RT ?_
 refine ⟨⟨k23.trans0 k_w4, g23.trans g4⟩, ?_⟩
 refine KGO ?_
 exact ⟨rfl, G2.trans (g23.trans g4)⟩
end
end Go.Proofs.YtennokckmjcefaaGreatDoor
