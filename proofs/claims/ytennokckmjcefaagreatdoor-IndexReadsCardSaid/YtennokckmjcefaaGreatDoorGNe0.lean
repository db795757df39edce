/- Helper lemmas; no conditions of their own. -/
import Derived.Test.YtennokckmjcefaaGreatDoorMl7
set_option linter.unusedVariables false
set_option maxHeartbeats 8000000
set_option maxRecDepth 100000
namespace Go.Proofs.YtennokckmjcefaaGreatDoor
open Go.Shelf Go.RowKit Go.Pw Go.Vc Go.Cs Go.Lib Go.Cd Go.Mg
theorem ztF : (Tryz.prog.info? 111).map (fun i => (i.zero, i.size, i.bytes)) = some (some (.agg #[.int .i64 0, .int .i64 0, .string ⟨#[]⟩]), 3, 32) := by kernel_rfl
theorem lenEn (e : Ent) : (enC e).length = 3 := rfl
theorem tyEn : RowTy 109 111 enC 3 32 := ⟨Tryz.underlying109, ⟨_, ztF, rfl⟩, by decide, lenEn, fun x => yaF.1 (by rfl)⟩
theorem bs1En (x : Ent) (w : World) : (Instr.buildSlice 109 1 [(0, .agg (enC x).toArray)].toArray).run Tryz.prog w = .ok (.slice (some ⟨w.heap.size, 0, none⟩) 1 1) (w.alloc (.cells (List.toArray (enC x)) 111)) := by
 simp [Instr.buildSlice, Instr.fill, go_sem, Tryz.runUnderlying109, enC]
theorem zqM (x : Ent) (w : World) : (Instr.build 111 [(0, .int .i64 x.doc), (1, .int .i64 x.field), (2, .string (str x.text))].toArray).run Tryz.prog w = .ok (.agg (enC x).toArray) w := by
 simp [Instr.build, go_sem, Tryz.runUnderlying111, enC]
theorem zoR (doc : Int) (t0 t1 t2 t3 t4 t5 : List UInt8) (f : Nat) (h0 : 0 < f) (h6 : f < 6) : (entsX doc [t0, t1, t2, t3, t4, t5]).take (f + 1 - 1) = (entsX doc [t0, t1, t2, t3, t4, t5]).take (f - 1) ++ [⟨doc, (f : Nat), [t0, t1, t2, t3, t4, t5].getD f []⟩] := by
 match f, h0, h6 with
 | 1, _, _ => rfl
 | 2, _, _ => rfl
 | 3, _, _ => rfl
 | 4, _, _ => rfl
 | 5, _, _ => rfl
theorem zse (x : Ix) (d : Int) : findI x d = match findX x.segs d with | some i => (i : Nat) | none => -1 := rfl
section
variable {w : World} {b : Nat} {sv dv : Sl} {l : List (Sv × Sgm)} {x : Ix}
theorem IxM.fp_lt (h : IxM w b sv dv l x) : ∀ q, fpX b sv dv l q → q < w.heap.size := fun q e => by
 rcases e with e | e | e | ⟨p, hp, e | e⟩
 ·have := h.var.lt; omega
 ·exact (h.sg.lt q e).2
 ·exact (h.dd.lt q e).2
 ·exact ((h.el p hp).t.lt q e).2
 exact ((h.el p hp).d.lt q e).2
structure Bs (w0 w : World) (b : Nat) (sv dv : Sl) (l : List (Sv × Sgm)) : Prop where
 K : Kp w0 w n_
 lo : ∀ q, fpX b sv dv l q → w0.heap.size ≤ q
 E : CEnv w0
theorem Bs.env {w0 : World} (h : Bs w0 w b sv dv l) : CEnv w := h.E.keep h.K
theorem Bs.mut {w0 w' : World} {sv' dv' : Sl} {l' : List (Sv × Sgm)} (h : Bs w0 w b sv dv l) (m : MutX w w' b sv dv l sv' dv' l') : Bs w0 w' b sv' dv' l' :=
 ⟨h.K.trans m.k fun q hq e => by have := h.lo q e; omega, fun q e => (m.f q e).elim (h.lo q) fun e => by have := h.K.size; omega, h.E⟩
theorem Bs.keep {w0 w' : World} (h : Bs w0 w b sv dv l) (k : Kp w w' n_) : Bs w0 w' b sv dv l := ⟨h.K.trans0 k, h.lo, h.E⟩
theorem zqU (x : Ix) (doc : Int) : (readX x doc).segs.length ≤ x.segs.length := by
 unfold readX
 split
 ·rename_i i h
  obtain ⟨hi, _⟩ := zdi h
  show (fullL _).length ≤ _
  refine yaw (zqX _) ?_
  rw [yaa, yab, yar, yau]; omega
 exact yag _
theorem zlu (h : IxM w b sv dv l x) (hb : IxB x) {w0 : World} (hB : Bs w0 w b sv dv l) (doc : Int) (t0 t1 t2 t3 t4 t5 : List UInt8) (htx : lenX [t0, t1, t2, t3, t4, t5] ≤ 10000) (hi64 : -9223372036854775808 ≤ doc ∧ doc ≤ 9223372036854775807) : Calls Tryz.prog 24 #[.pointer (some ⟨b, 0, none⟩), .int .i64 doc, .agg (List.toArray [.string (str t0), .string (str t1), .string (str t2), .string (str t3), .string (str t4), .string (str t5)])] w fun e w' => e = .returned (.int .i64 (addX x doc [t0, t1, t2, t3, t4, t5]).1) ∧ ∃ sv' dv' l', IxM w' b sv' dv' l' (addX x doc [t0, t1, t2, t3, t4, t5]).2 ∧ MutX w w' b sv dv l sv' dv' l' := by
 have hbw := h.var.lt
 have hn := hb.n
 refine zaa (args := [.pointer (some ⟨b, 0, none⟩), .int .i64 doc, .agg (List.toArray [.string (str t0), .string (str t1), .string (str t2), .string (str t3), .string (str t4), .string (str t5)])]) Tryz.func24 rfl NL ?_; refine GW ?_
 obtain ⟨a_b5, v_b5, k_w1, z_w1, r_w1⟩ := new5 w 32 ([.string (str t0), .string (str t1), .string (str t2), .string (str t3), .string (str t4), .string (str t5)])
 generalize w.alloc (.cells (List.toArray ([.string (str t0), .string (str t1), .string (str t2), .string (str t3), .string (str t4), .string (str t5)])) 32) = w1 at *
 generalize hs_b5 : w.heap.size = b5 at *
 have h1 := h.keep0 k_w1
 have ht1 : At w1 b5 0 (([t0, t1, t2, t3, t4, t5] : List (List UInt8)).flatMap txC) := a_b5
 have hE := hB.env
 clear a_b5
 unfold addX
 by_cases hlo : doc < 1
 ·rw [if_pos (.inl hlo)]
  refine KGO ?_
  exact ⟨rfl, _, _, _, h1, MutX.same k_w1⟩
 by_cases hhi : 1099511627776 < doc
 ·rw [if_pos (.inr hhi)]
  refine KGO ?_
  exact ⟨rfl, _, _, _, h1, MutX.same k_w1⟩
 rw [if_neg OM]
 refine KGO ?_
 refine Ya (Tryz.call80 _ _) (zpi h1 hb doc) ?_
 rintro e w2 ⟨rfl, k2⟩
 have h2 := h1.keep0 k2
 have K2 := k_w1.trans0 k2
 refine RT ?_
 cases hal : zco x doc with
 | true =>
  rw [if_pos rfl]
  refine KGO ?_
  exact ⟨rfl, _, _, _, h2, MutX.same K2⟩
 | false =>
 rw [if_neg (by simp)]
 refine KGO ?_
 refine Ya (Tryz.call83 _ _) (zjX h2.v h2.eq hb.c doc) ?_
 rintro e w3 ⟨rfl, k3⟩
 have h3 := h2.keep0 k3
 have K3 := K2.trans0 k3
 have ha3 := h3.var.at
 have q3 := Yb w3 n_
 refine RT ?_
 have hfp := h.fp_lt
 have v5 := v_b5.keep0 (k2.trans0 k3)
 rw [zse]
 have hrd : readX x doc = match findX x.segs doc with | some i => replX x i 1 (twoS (x.segs.getD i ⟨[], []⟩) ⟨[], []⟩ [doc]) | none => x := rfl
 obtain ⟨TX, hTX⟩ : ∃ TX, TX = [t0, t1, t2, t3, t4, t5] := ⟨_, rfl⟩
 have hT6 : TX.length = 6 := by rw [hTX]; rfl
 have hst : ∀ f, 0 < f → f < 6 → (entsX doc TX).take (f + 1 - 1) = (entsX doc TX).take (f - 1) ++ [⟨doc, (f : Nat), TX.getD f []⟩] := by rw [hTX]; exact zoR doc t0 t1 t2 t3 t4 t5
 have hlT : ∀ t ∈ TX, t.length ≤ 10000 := fun t ht => by have := zlJ hT6 t ht; rw [hTX] at this; omega
 rw [← hTX] at ht1 ⊢
 clear hTX htx
 have ht3 : At w3 b5 0 (TX.flatMap txC) := at_mono ht1 (k2.trans0 k3)
 clear ht1
 rcases hf : findX x.segs doc with _ | i
 rotate_left
 obtain ⟨hi2, _⟩ := zdi hf
 rw [hf] at hrd
 dsimp only at hrd ⊢
 obtain ⟨a0, c0, es, hrs⟩ := own_rowO h.sg
 obtain ⟨sa, sn, sc⟩ := sv
 injection es with e1 e2 e3
 dsimp only at e1 e2 e3 ha3
 subst e1 e2 e3
 have hll : l.length = x.segs.length := by rw [← h.eq, yaf]
 obtain ⟨gb, o, rfl, hgb, hat⟩ := hrs OM
 have hat := at_mono hat K3
 have e1 : x.segs.getD i ⟨[], []⟩ = (l[i]'OM).2 := by rw [seg_at OM]; simp only [← h.eq, ybi]
 have hm1 : (l[i]'OM) ∈ l := yak _
 have hi1 : i < l.length := OM
 rw [e1] at hrd
 refine KGO ?_
 refine Ye (zoa _) ?_
 refine KGO ?_
 refine Ye (bs1I doc _) ?_
 obtain ⟨a_b6, v_b6, k_wz, z_wz, r_wz⟩ := new5 w3 3 (inC doc)
 generalize w3.alloc (.cells (List.toArray (inC doc)) 3) = wz at *
 generalize hs_b6 : w3.heap.size = b6 at *
 have hrow : RowI wz (.slice (some ⟨b6, 0, none⟩) 1 1) [doc] := ⟨_, 1, rfl, fun _ => ⟨b6, 0, rfl, OM, a_b6⟩⟩
 have hz := h3.keep0 k_wz
 have Kz := K3.trans0 k_wz
 have qz := Yb wz n_
 refine KGO ?_
 refine Ya (Tryz.call84 _ _) (zeM (w := wz) hz hb.c hb.d i 1 OM OM (l[i]'hi1).1 ⟨⟨none, 0, 0⟩, ⟨none, 0, 0⟩⟩ (l[i]'hi1).2 ⟨[], []⟩ [doc] (hz.rd hm1) (zrq _) (hb.b _ (by rw [← h.eq]; exact yax hm1)) zor hrow (by simp) (hE.keep Kz)) ?_
 rintro e w4 ⟨rfl, sv', dv', l', h4, M4⟩
 refine RT ?_
 refine KGO ?_
 rw [← hrd] at h4
 have ht4 : At w4 b5 0 (TX.flatMap txC) := zaI (at_mono ht3 k_wz) M4.k fun e => by have := hfp _ e; omega
 replace M4 := (MutX.same Kz).trans M4
 clear ht3 hrow hz Kz qz hrs ha3 q3
 rotate_left
 rw [hf] at hrd
 dsimp only at hrd ⊢
 obtain ⟨sv', dv', l', h4, M4⟩ : ∃ sv' dv' l', IxM w3 b sv' dv' l' (readX x doc) ∧ MutX w w3 b sv dv l sv' dv' l' := ⟨sv, dv, l, by rw [hrd]; exact h3, MutX.same K3⟩
 clear ha3 q3
 generalize w3 = w4 at *
 refine KGO ?_
 have ht4 := ht3
 clear ht3
 all_goals
  clear hrd
  have hB4 := hB.mut M4
  have hE4 := hB4.env
  have z4 := M4.k.size
  have hb4 := h4.var.lt
  have hl4 : l'.length ≤ 1000 := by have := zqU x doc; rw [← h4.eq, yaf] at this; omega
  refine Yc (ι := Nat × Sl) (fun q => [(0, .pointer (some ⟨b, 0, none⟩)), (1, .int .i64 doc), (5, .pointer (some ⟨b5, 0, none⟩)), (8, .slice q.2.a q.2.n q.2.c), (39, .int .i64 (q.1 : Nat))])
   (fun q wr => Kp w4 wr n_ ∧ q.1 ≤ 6 ∧ OwnR 111 enC 3 wr w4.heap.size q.2.v ((entsX doc TX).take (q.1 - 1))) (fun q => 6 - q.1) (0, ⟨none, 0, 0⟩) FR ⟨Yb _ _, yal _, World.ownsRow_nil _ _ _ _⟩ ?_
  rintro ⟨i, so⟩ gg wr ⟨hK, hi, ho⟩
  dsimp only at hi ho ⊢
  refine GW ?_
  by_cases hlt : i < 6
  ·by_cases h0 : i = 0
   ·subst h0
    refine KGO ?_
    exact ⟨(1, so), FR, ⟨hK, DO, ho⟩, DO⟩
   have hsi := hst i OM hlt
   have hle : ((entsX doc TX).take (i - 1)).length ≤ 5 := by rw [yar]; exact yaw (Nat.min_le_right _ _) (yag 5)
   generalize (entsX doc TX).take (i - 1) = L at *
   have hgd : TX.getD i [] = TX[i] := by simp [List.getD, show i < TX.length by omega]
   rw [hgd] at hsi
   obtain ⟨aj, cj, ej⟩ := zab ho
   obtain ⟨ja, jn, jc⟩ := so
   injection ej with e1 e2 e3
   dsimp only at e1 e2 e3
   subst e1 e2 e3
   have chj : wr.cell? ⟨b5, 0 + i, none⟩ = some (.string (str TX[i])) := by
    have := zea (at_mono ht4 hK) (n := 1) (fun _ => rfl) (i := i) OM 0 _ rfl
    simpa using this
   refine KGO ?_
   refine Ye (zqM ⟨doc, (i : Nat), TX[i]⟩ _) ?_
   refine KGO ?_
   refine Ye (bs1En ⟨doc, (i : Nat), TX[i]⟩ _) ?_
   obtain ⟨a_b7, v_b7, k_w5, z_w5, r_w5⟩ := new5 wr 111 (enC ⟨doc, (i : Nat), TX[i]⟩)
   generalize wr.alloc (.cells (List.toArray (enC ⟨doc, (i : Nat), TX[i]⟩)) 111) = w5 at *
   generalize hs_b7 : wr.heap.size = b7 at *
   have ho5 := own_keep0 ho k_w5
   have K5 := hK.trans0 k_w5
   have z5 := K5.size
   refine KGO ?_
   refine tyEn.app1 ⟨doc, (i : Nat), TX[i]⟩ ho5 OM a_b7 OM OM fun v6 w6 o6 k6 => ?_
   have K6 := zav ho5 k6 K5 (yag _)
   obtain ⟨a6, c6, rfl⟩ := zab o6
   refine KGO ?_
   exact ⟨(i + 1, ⟨a6, _, c6⟩), FR, ⟨K6, DO, by dsimp only; rw [hsi]; exact o6⟩, DO⟩
  obtain rfl : i = 6 := OM
  rw [show (entsX doc TX).take (6 - 1) = entsX doc TX from rfl] at ho
  obtain ⟨hk1, hk2⟩ := zdP (by omega : 1 ≤ doc) OM TX
  have hen : ∀ e ∈ entsX doc TX, e.text.length ≤ 10000 := fun e he => by
   have hg : ∀ f, (TX.getD f []).length ≤ 10000 := fun f => by
    rw [List.getD_eq_getElem?_getD]
    cases hq : TX[f]? with
    | none => exact yal _
    | some s => exact hlT s (List.mem_of_getElem? hq)
   unfold entsX at he
   simp only [yah, yaS, or_false] at he
   rcases he with rfl | rfl | rfl | rfl | rfl <;> exact hg _
  have hel : (entsX doc TX).length = 5 := rfl
  generalize hES : entsX doc TX = ES at *
  obtain ⟨aj, cj, ej⟩ := zab ho
  obtain ⟨ja, jn, jc⟩ := so
  injection ej with e1 e2 e3
  dsimp only at e1 e2 e3
  subst e1 e2 e3
  have hr := h4.keep0 hK
  have hown : ∀ q, sv'.v.ownBlock = some q → q < w4.heap.size ∧ b + 1 ≤ q := fun q e => ⟨(h4.sg.lt q e).2, (h4.sg.lt q e).1⟩
  have hS3 : ∀ u, Kp wr u (own_ sv'.v) → At u b 0 [.slice sv'.a sv'.n sv'.c, .slice dv'.a dv'.n dv'.c] := fun u hu => zaI hr.var.at hu fun e => by have := hown b e; omega
  have hrowE : RowO wr (.slice ja ES.length jc) enC ES := own_rowO ho
  refine KGO ?_
  refine Yh (fun u => Kp wr u (own_ sv'.v)) (fun _ => true) (by simp) (by decide +kernel) (by decide +kernel) (Yb _ _).drew ?_
  refine KGO ?_
  refine Yf (by rfl) (fun u hu => hS3 u hu 0 _ rfl) ?_
  refine KGO ?_
  have kd := (Yb wr n_).drew
  refine Ya (Tryz.call85 _ _) (zqN (w := wr.drew) ES (hrowE.keep kd) ((hE4.keep hK).keep kd) OM hen) ?_
  rintro e w5 ⟨hy, s, rfl, oy, hbu, k5⟩
  rw [hk1] at hbu
  obtain rfl : s = zcq ES := hbu.uniq (built_E hk2 fun e he => by have := hen e he; omega)
  have kr5 : Kp wr w5 n_ := kd.trans0 k5
  have z5 := kr5.size
  have zr := hK.size
  refine RT ?_
  refine ⟨kr5.of_none, ?_⟩
  refine KGO ?_
  refine Ye (bs1Sg hy _) ?_
  obtain ⟨a_b8, v_b8, k_w6, z_w6, r_w6⟩ := new5 w5 65 (sgC hy)
  generalize w5.alloc (.cells (List.toArray (sgC hy)) 65) = w6 at *
  generalize hs_b8 : w5.heap.size = b8 at *
  have kr6 := kr5.trans0 k_w6
  refine ⟨kr6.of_none, ?_⟩
  have h6 := hr.keep0 kr6
  have oy6 := oy.keep k_w6
  obtain ⟨_, _, es⟩ := zab h6.sg
  obtain ⟨sa', sn', sc'⟩ := sv'
  injection es with e1 e2 e3
  dsimp only at e1 e2 e3
  subst e1 e2 e3
  refine KGO ?_
  refine tySg.app1W (hy, zcq ES) h6.sg (by have := h6.var.lt; omega) a_b8 OM OM fun v7 w7 o7 k7 f7 => ?_
  obtain ⟨a7, c7, rfl⟩ := zab o7
  have kr7 := kr6.of_none.trans' k7
  have vv7 := h6.var.keep k7 fun e => by have := hown b e; omega
  refine ⟨kr7, ?_⟩
  refine KGO ?_
  refine Yd (i := 0) vv7 (by simp) (by rfl) ⟨rfl, by simp, by simp⟩ fun w8 v8 k8 => ?_
  refine KGO ?_
  have hlb : ∀ q, (hy.t.v.ownBlock = some q ∨ hy.d.v.ownBlock = some q) → w4.heap.size ≤ q := fun q e => by
   have := kd.size
   rcases e with e | e
   ·have := (oy.t.lt q e).1; omega
   have := (oy.d.lt q e).1; omega
  have oyb : OwS w6 (b + 1) hy (zcq ES) := oy6.base (by have := kd.size; omega)
  have el7 : ∀ p, (p ∈ l' ∨ p = (hy, zcq ES)) → OwS w6 (b + 1) p.1 p.2 := fun p hp => by
   rcases hp with hp | rfl
   ·exact h6.el p hp
   exact oyb
  refine ⟨rfl, ⟨a7, _, c7⟩, dv', l' ++ [(hy, zcq ES)], ⟨v8, zal o7 k8 OM, zal (own_keep h6.dd k7 (zas h6.dd h6.sg (by decide))) k8 OM, fun p hp => ?_, ?_, fun p hp => ?_⟩, M4.trans ⟨?_, fun q hq => ?_⟩⟩
  ·have ep := el7 p (by simpa using hp)
   exact ⟨zal (own_keep ep.t k7 (zas ep.t h6.sg (by decide))) k8 OM, zal (own_keep ep.d k7 (zas ep.d h6.sg (by decide))) k8 OM⟩
  ·rw [yaL, h4.eq]; rfl
  ·rcases yaj.1 hp with hp | hp
   ·exact h4.ap p hp
   rw [yac.1 hp]
   exact fun q e e' => by have := hlb q (.inr e); have := (h4.dd.lt q e').2; omega
  ·exact ((hK.of_none).trans' (kr7.mono fun q _ e => .inr (.inl e))).trans' (k8.mono fun q _ e => .inl e)
  rcases hq with hq | hq | hq | ⟨p, hp, hq⟩
  ·exact .inl (.inl hq)
  ·rcases f7 with f7 | f7
   ·exact .inl (.inr (.inl (f7 ▸ hq)))
   refine .inr ?_
   have e2 := f7.symm.trans hq
   injection e2 with e2
   have := kr6.size
   omega
  ·exact .inl (.inr (.inr (.inl hq)))
  rcases yaj.1 hp with hp | hp
  ·exact .inl (.inr (.inr (.inr ⟨p, hp, hq⟩)))
  rw [yac.1 hp] at hq
  exact .inr (hlb q hq)
end
section
variable {w : World}
theorem zoz {w0 : World} {va vb p0 p1 : Value} {g1 g2 : Nat} (la lb : List Pr) (cmp : Pr → Pr → Int) (I : List (Option Pr × Option Pr) → World → Prop)
  (ha : RowO w0 va prC la) (hb : RowO w0 vb prC lb) (hca : CapK va) (hcb : CapK vb) (hla : la.length ≤ 1000000000000) (hlb : lb.length ≤ 1000000000000)
  (hg1 : ∀ (args : Array Value) (w : World), (callFunc g1 args).run Tryz.prog w = .ok (.enter g1 args) w) (hg2 : ∀ (args : Array Value) (w : World), (callFunc g2 args).run Tryz.prog w = .ok (.enter g2 args) w)
  (hI : ∀ d u, I d u → Kp w0 u n_) (hIk : ∀ d u u', I d u → Kp u u' n_ → I d u')
  (hcmp : ∀ x y u, Kp w0 u n_ → Calls Tryz.prog g1 #[.agg (prC x).toArray, .agg (prC y).toArray] u fun e u' => e = .returned (.int .i64 (cmp x y)) ∧ Kp u u' n_)
  (hsee : ∀ d rest xo yo px py u, bothL cmp la lb = d ++ (xo, yo) :: rest → Kp w0 u n_ → PtrO w0 prC px xo → PtrO w0 prC py yo → I d u →
   Calls Tryz.prog g2 #[px, py, p0, p1] u fun e u' => e = .returned (.tuple #[]) ∧ I (d ++ [(xo, yo)]) u') (h0 : I [] w) :
  Calls Tryz.prog 219 #[va, vb, .func (.func g1) #[] #[], .func (.func g2) #[] #[p0, p1]] w fun e w' => e = .returned (.tuple #[]) ∧ I (bothL cmp la lb) w' := by
 obtain ⟨a, ca, rfl, hra⟩ := ha
 obtain ⟨b, cb, rfl, hrb⟩ := hb
 refine zaa (args := [.slice a la.length ca, .slice b lb.length cb, .func (.func g1) #[] #[], .func (.func g2) #[] #[p0, p1]]) Tryz.func219 rfl NL ?_; refine GW ?_
 refine Yc (ι := (Value × List Pr) × (Value × List Pr) × List (Option Pr × Option Pr)) (fun i => [(0, i.1.1), (1, i.2.1.1), (2, .func (.func g1) #[] #[]), (3, .func (.func g2) #[] #[p0, p1])])
  (fun i wr => RowO w0 i.1.1 prC i.1.2 ∧ CapK i.1.1 ∧ RowO w0 i.2.1.1 prC i.2.1.2 ∧ CapK i.2.1.1 ∧ i.2.2 ++ bothL cmp i.1.2 i.2.1.2 = bothL cmp la lb ∧ I i.2.2 wr ∧ i.1.2.length ≤ la.length ∧ i.2.1.2.length ≤ lb.length)
  (fun i => i.1.2.length + i.2.1.2.length) ((.slice a la.length ca, la), (.slice b lb.length cb, lb), []) FR ⟨⟨a, ca, rfl, hra⟩, hca, ⟨b, cb, rfl, hrb⟩, hcb, rfl, h0, yag _, yag _⟩ ?_
 clear hra hrb hca hcb h0
 rintro ⟨⟨vx, xs⟩, ⟨vy, ys⟩, d⟩ gg wr ⟨hx, hcx, hy, hcy, hd, hi, hlx, hly⟩
 dsimp only at hx hcx hy hcy hd hi hlx hly ⊢
 have hx0 := hx
 have hy0 := hy
 obtain ⟨a, ca, rfl, hra⟩ := hx
 obtain ⟨b, cb, rfl, hrb⟩ := hy
 have hca := hcx _ _ _ rfl
 have hcb := hcy _ _ _ rfl
 have hK := hI _ _ hi
 have hid : I d wr.drew := hIk _ _ _ hi (Yb wr n_).drew
 refine GW ?_
 cases xs with
 | nil =>
  cases ys with
  | nil =>
   rw [yaE] at *
   refine KGO ?_
   rw [show bothL cmp [] [] = [] from rfl, yaA] at hd
   rw [← hd]
   exact ⟨rfl, hi⟩
  | cons y ys =>
   obtain ⟨gy, oy, rfl, hgy, hay⟩ := hrb (by simp)
   rw [show bothL cmp [] (y :: ys) = (none, some y) :: bothL cmp [] ys from rfl] at hd
   have hay1 : At w0 gy (oy + 0 * 2) (prC y) := by rw [yaO]; exact zbt hay
   rw [yaE, yab] at *
   refine KGO ?_
   refine Yj (l := 1) OM OM ?_
   refine GW ?_
   refine KGO ?_
   refine Ya (hg2 _ _) (hsee d _ none (some y) _ _ _ hd.symm hK.drew rfl ⟨gy, _, rfl, hay1⟩ hid) ?_
   rintro e w1 ⟨rfl, hi1⟩
   refine RT ?_
   exact ⟨((_, []), (_, ys), d ++ [(none, some y)]), FR, ⟨hx0, hcx, zaA (fun _ => rfl) hay hgy hcb, cap_tail hcb, by rw [List.append_assoc]; exact hd, hi1, hlx, DO⟩, by dsimp only [List.length_cons]; omega⟩
 | cons x xs =>
  obtain ⟨gx, ox, rfl, hgx, hax⟩ := hra (by simp)
  have hax1 : At w0 gx (ox + 0 * 2) (prC x) := by rw [yaO]; exact zbt hax
  cases ys with
  | nil =>
   rw [zaV, yas] at hd
   rw [yaE, yab] at *
   refine KGO ?_
   refine Yj (l := 1) OM OM ?_
   refine GW ?_
   refine KGO ?_
   refine Ya (hg2 _ _) (hsee d _ (some x) none _ _ _ hd.symm hK.drew ⟨gx, _, rfl, hax1⟩ rfl hid) ?_
   rintro e w1 ⟨rfl, hi1⟩
   refine RT ?_
   exact ⟨((_, xs), (_, []), d ++ [(some x, none)]), FR, ⟨zaA (fun _ => rfl) hax hgx hca, cap_tail hca, hy0, hcy, by rw [List.append_assoc, zaV]; exact hd, hi1, DO, hly⟩, by dsimp only [List.length_cons]; omega⟩
  | cons y ys =>
   obtain ⟨gy, oy, rfl, hgy, hay⟩ := hrb (by simp)
   have hay1 : At w0 gy (oy + 0 * 2) (prC y) := by rw [yaO]; exact zbt hay
   rw [zbh] at hd
   rw [yab, yab] at *
   refine KGO ?_
   refine Ya (hg1 _ _) (hcmp x y _ hK.drew) ?_
   rintro e w1 ⟨rfl, k1⟩
   have hi1 := hIk _ _ _ hid k1
   have hK1 := hI _ _ hi1
   have hi2 : I d w1.drew := hIk _ _ _ hi1 (Yb w1 n_).drew
   have hi3 : I d w1.drew.drew := hIk _ _ _ hi2 (Yb w1.drew n_).drew
   refine RT ?_
   by_cases h1 : cmp x y < 0
   ·rw [if_pos h1] at hd
    refine KGO ?_
    refine Yj (l := 1) OM OM ?_
    refine GW ?_
    refine KGO ?_
    refine KGO ?_
    refine Ya (hg2 _ _) (hsee d _ (some x) none _ _ _ hd.symm hK1.drew ⟨gx, _, rfl, hax1⟩ rfl hi2) ?_
    rintro e w2 ⟨rfl, hi4⟩
    refine RT ?_
    exact ⟨((_, xs), (_, y :: ys), d ++ [(some x, none)]), FR, ⟨zaA (fun _ => rfl) hax hgx hca, cap_tail hca, hy0, hcy, by rw [List.append_assoc]; exact hd, hi4, DO, by dsimp only [List.length_cons]; omega⟩, by dsimp only [List.length_cons]; omega⟩
   rw [if_neg h1] at hd
   by_cases h2 : cmp x y = 0
   ·rw [if_pos h2] at hd
    refine KGO ?_
    refine Yj (l := 1) OM OM ?_
    refine GW ?_
    refine KGO ?_
    refine KGO ?_
    refine Yj (l := 1) OM OM ?_
    refine GW ?_
    refine KGO ?_
    refine Ya (hg2 _ _) (hsee d _ (some x) (some y) _ _ _ hd.symm (hI _ _ hi3) ⟨gx, _, rfl, hax1⟩ ⟨gy, _, rfl, hay1⟩ hi3) ?_
    rintro e w2 ⟨rfl, hi4⟩
    refine RT ?_
    exact ⟨((_, xs), (_, ys), d ++ [(some x, some y)]), FR, ⟨zaA (fun _ => rfl) hax hgx hca, cap_tail hca, zaA (fun _ => rfl) hay hgy hcb, cap_tail hcb, by rw [List.append_assoc]; exact hd, hi4, DO, DO⟩, by dsimp only [List.length_cons]; omega⟩
   rw [if_neg h2] at hd
   refine KGO ?_
   refine Yj (l := 1) OM OM ?_
   refine GW ?_
   refine KGO ?_
   refine Ya (hg2 _ _) (hsee d _ none (some y) _ _ _ hd.symm hK1.drew rfl ⟨gy, _, rfl, hay1⟩ hi2) ?_
   rintro e w2 ⟨rfl, hi4⟩
   refine RT ?_
   exact ⟨((_, x :: xs), (_, ys), d ++ [(none, some y)]), FR, ⟨hx0, hcx, zaA (fun _ => rfl) hay hgy hcb, cap_tail hcb, by rw [List.append_assoc]; exact hd, hi4, by dsimp only [List.length_cons]; omega, DO⟩, by dsimp only [List.length_cons]; omega⟩
theorem zpF {w0 : World} {va vb p0 p1 : Value} {g2 : Nat} (la lb : List Pr) (I : List (Option Pr × Option Pr) → World → Prop)
  (ha : RowO w0 va prC la) (hb : RowO w0 vb prC lb) (hca : CapK va) (hcb : CapK vb) (hla : la.length ≤ 1000000000000) (hlb : lb.length ≤ 1000000000000)
  (hg2 : ∀ (args : Array Value) (w : World), (callFunc g2 args).run Tryz.prog w = .ok (.enter g2 args) w)
  (hI : ∀ d u, I d u → Kp w0 u n_) (hIk : ∀ d u u', I d u → Kp u u' n_ → I d u')
  (hsee : ∀ d rest xo yo px py u, bothL cmpR la lb = d ++ (xo, yo) :: rest → Kp w0 u n_ → PtrO w0 prC px xo → PtrO w0 prC py yo → I d u →
   Calls Tryz.prog g2 #[px, py, p0, p1] u fun e u' => e = .returned (.tuple #[]) ∧ I (d ++ [(xo, yo)]) u') (h0 : I [] w) :
  Calls Tryz.prog 165 #[va, vb, .func (.func g2) #[] #[p0, p1]] w fun e w' => e = .returned (.tuple #[]) ∧ I (bothL cmpR la lb) w' := by
 have hcall := zoz (w := w) (g1 := 220) la lb cmpR I ha hb hca hcb hla hlb (fun _ _ => rfl) hg2 hI hIk (fun x y u k => zlO x y) hsee h0
 obtain ⟨a, ca, rfl, hra⟩ := ha
 obtain ⟨b, cb, rfl, hrb⟩ := hb
 refine zaa (args := [.slice a la.length ca, .slice b lb.length cb, .func (.func g2) #[] #[p0, p1]]) Tryz.func165 rfl NL ?_; refine GW ?_
 refine Ya (Tryz.call219 _ _) hcall ?_
 rintro e w1 ⟨rfl, h1⟩
 refine RT ?_
 exact ⟨rfl, h1⟩
end
def nxR (gap : Int) : Option Pst × Option Pst → Option Pst
 | (some x, some y) => if (y.places.filter fun n => decide (n - gap ∈ x.places)) = [] then none else some ⟨y.doc, y.places.filter fun n => decide (n - gap ∈ x.places)⟩
 | _ => none
theorem ziL {a : List Pst} {gap : Int} {y : Pst} (h : atD a y.doc = []) : nextO a gap y = none := by
 unfold nextO
 rw [h]
 simp
theorem zmP {x : Pst} {a : List Pst} {gap : Int} {y : Pst} (h : x.doc < y.doc) : nextO (x :: a) gap y = nextO a gap y := by
 have h1 : atD (x :: a) y.doc = atD a y.doc := by rw [atD_cons, if_neg OM]
 unfold nextO
 rw [h1]
theorem zeF {x : Pst} {a : List Pst} {gap : Int} : ∀ {b : List Pst}, (∀ y ∈ b, x.doc < y.doc) → nextP (x :: a) b gap = nextP a b gap
 | [], _ => rfl
 | y :: b, h => by
  unfold nextP
  rw [List.filterMap_cons, List.filterMap_cons, zmP (h y yae)]
  have := zeF (a := a) (gap := gap) (x := x) (b := b) fun z hz => h z (yai _ hz)
  unfold nextP at this
  rw [this]
theorem zpo (gap : Int) : ∀ (n : Nat) (a b : List Pst), a.length + b.length ≤ n → AscP a → AscP b → (bothL cmpD a b).filterMap (nxR gap) = nextP a b gap := by
 have hnil : ∀ b : List Pst, ((b.map fun y => ((none : Option Pst), some y)).filterMap (nxR gap)) = [] ∧ nextP [] b gap = [] := fun b => by
  induction b with
  | nil => exact ⟨rfl, rfl⟩
  | cons y b ih =>
   refine ⟨by rw [yas, List.filterMap_cons]; exact ih.1, ?_⟩
   have h2 := ih.2
   unfold nextP at h2 ⊢
   rw [List.filterMap_cons, ziL (by rfl)]
   exact h2
 intro n
 induction n with
 | zero =>
  intro a b h ha hb
  obtain rfl : a = [] := yan OM
  obtain rfl : b = [] := yan OM
  rfl
 | succ n ih =>
  intro a b h ha hb
  cases a with
  | nil =>
   rw [show bothL cmpD [] b = b.map fun y => (none, some y) from rfl, (hnil b).1, (hnil b).2]
  | cons x a =>
   obtain ⟨hx, ha'⟩ := yam.1 ha
   cases b with
   | nil =>
    rw [zaV]
    have : ∀ l : List Pst, ((l.map fun x => (some x, (none : Option Pst))).filterMap (nxR gap)) = [] := fun l => by
     induction l with
     | nil => rfl
     | cons y l ih => rw [yas, List.filterMap_cons]; exact ih
    rw [this]; rfl
   | cons y b =>
    obtain ⟨hy, hb'⟩ := yam.1 hb
    simp only [yab] at h
    rw [zbh]
    unfold cmpD cmpI
    by_cases h1 : x.doc < y.doc
    ·rw [if_pos h1, if_pos (by decide), List.filterMap_cons]
     dsimp only [nxR]
     have e := ih a (y :: b) (by simp only [yab]; omega) ha' hb
     unfold cmpD cmpI at e
     rw [e, zeF]
     intro z hz
     rcases yah.1 hz with rfl | hz
     ·exact h1
     have := hy z hz; omega
    rw [if_neg h1]
    by_cases h2 : y.doc < x.doc
    ·rw [if_pos h2, if_neg (by decide), if_neg (by decide), List.filterMap_cons]
     dsimp only [nxR]
     have e := ih (x :: a) b (by simp only [yab]; omega) ha hb'
     unfold cmpD cmpI at e
     rw [e]
     unfold nextP
     rw [List.filterMap_cons, ziL]
     rw [atD_cons, if_neg OM]
     exact zkK fun p hp => by have := hx p hp; omega
    rw [if_neg h2, if_neg (by decide), if_pos rfl, List.filterMap_cons]
    have e := ih a b OM ha' hb'
    unfold cmpD cmpI at e
    rw [e, ← zeF (x := x) (fun z hz => by have := hy z hz; omega)]
    unfold nextP
    rw [List.filterMap_cons]
    have hn : nxR gap (some x, some y) = nextO (x :: a) gap y := by
     have h1 : atD (x :: a) y.doc = x.places := by rw [atD_cons, if_pos OM]
     unfold nextO nxR
     rw [h1]
    rw [hn]
section
variable {w : World}
theorem zoW {gap : Int} {xo yo : Option Pst} (h : xo = none ∨ yo = none) : nxR gap (xo, yo) = none := by
 rcases h with rfl | rfl
 ·rfl
 cases xo <;> rfl
theorem zpD {w0 : World} {b bg : Nat} {vo px py : Value} {xo yo : Option Pr} (gap : Int) (l : List Pr) (hv : VarK w b 37 [vo]) (hg : VarK w bg 3 [.int .i64 gap]) (ho : OwP w b vo l) (hw : w0.heap.size ≤ b) (hwg : w0.heap.size ≤ bg) (hbg : bg < b) (hk : Kp w0 w n_) (hl : l.length ≤ 2000000000000) (hgap : -1000000 ≤ gap ∧ gap ≤ 1000000)
  (hx : PtrO w0 prC px xo) (hy : PtrO w0 prC py yo)
  (hpx : ∀ x, xo = some x → RowI w0 x.h.v x.p.places ∧ AscB ltI x.p.places ∧ x.p.places.length ≤ 100000000000) (hpy : ∀ x, yo = some x → RowI w0 x.h.v x.p.places ∧ x.p.places.length ≤ 100000000000 ∧ ∀ n ∈ x.p.places, 0 ≤ n ∧ n ≤ 1099511627776) :
  Calls Tryz.prog 166 #[px, py, .pointer (some ⟨bg, 0, none⟩), .pointer (some ⟨b, 0, none⟩)] w fun e w' => e = .returned (.tuple #[]) ∧ (∃ vo' l', VarK w' b 37 [vo'] ∧ OwP w' b vo' l' ∧ l'.map (·.p) = l.map (·.p) ++ (nxR gap (xo.map (·.p), yo.map (·.p))).toList) ∧ VarK w' bg 3 [.int .i64 gap] ∧ Kp w0 w' n_ := by
 obtain ⟨a, c, rfl⟩ := zab ho.row
 have ha := hv.at
 have hga := hg.at
 cases xo with
 | none =>
  obtain rfl : px = .pointer none := hx
  obtain ⟨yp, rfl⟩ : ∃ yp, py = .pointer yp := by
   cases yo with
   | none => exact ⟨none, hy⟩
   | some y => obtain ⟨g, o, e, _⟩ := hy; exact ⟨_, e⟩
  refine zaa (args := [.pointer none, .pointer yp, .pointer (some ⟨bg, 0, none⟩), .pointer (some ⟨b, 0, none⟩)]) Tryz.func166 rfl NL ?_; refine GW ?_
  refine KGO ?_
  exact ⟨rfl, ⟨_, l, hv, ho, by rw [Option.map_none, zoW (.inl rfl)]; simp⟩, hg, hk⟩
 | some x =>
 obtain ⟨g, o, rfl, hat⟩ := hx
 cases yo with
 | none =>
  obtain rfl : py = .pointer none := hy
  refine zaa (args := [.pointer (some ⟨g, o, none⟩), .pointer none, .pointer (some ⟨bg, 0, none⟩), .pointer (some ⟨b, 0, none⟩)]) Tryz.func166 rfl NL ?_; refine GW ?_
  refine KGO ?_
  exact ⟨rfl, ⟨_, l, hv, ho, by rw [show Option.map (fun x : Pr => x.p) none = none from rfl, zoW (.inr rfl)]; simp⟩, hg, hk⟩
 | some y =>
 obtain ⟨g2, o2, rfl, hat2⟩ := hy
 obtain ⟨hrx, hax, hlx⟩ := hpx x rfl
 obtain ⟨hry, hly, hny⟩ := hpy y rfl
 obtain ⟨⟨dx, X⟩, ⟨xa, xn, xc⟩⟩ := x
 obtain ⟨⟨dy, Y⟩, ⟨ya, yn, yc⟩⟩ := y
 have hrx0 := hrx
 obtain ⟨ax, cx, ex, _⟩ := hrx
 obtain ⟨ay, cy, ey, hry⟩ := hry
 injection ex with e1 e2 e3
 injection ey with f1 f2 f3
 dsimp only at e1 e2 e3 f1 f2 f3 hax hlx hly hny hrx0 hry
 subst e1 e2 e3 f1 f2 f3
 have hat : At w0 g o [.int .i64 dx, .slice xa X.length xc] := hat
 have hat2 : At w0 g2 o2 [.int .i64 dy, .slice ya Y.length yc] := hat2
 refine zaa (args := [.pointer (some ⟨g, o, none⟩), .pointer (some ⟨g2, o2, none⟩), .pointer (some ⟨bg, 0, none⟩), .pointer (some ⟨b, 0, none⟩)]) Tryz.func166 rfl NL ?_; refine GW ?_
 refine KGO ?_
 refine Ye (zej dy _) ?_
 refine KGO ?_
 have v_b6 := Yk w 44 [.int .i64 dy, .slice none 0 0]
 refine Yg (vs := [.int .i64 dy, .slice none 0 0]) (by rfl) rfl (zak (by rfl)) ?_
 obtain ⟨a_b6, k_w1, z_w1⟩ := new3 w 44 ([.int .i64 dy, .slice none 0 0])
 generalize w.alloc (.cells (List.toArray ([.int .i64 dy, .slice none 0 0])) 44) = w1 at *
 generalize hs_b6 : w.heap.size = b6 at *
 have hk1 := hk.trans0 k_w1
 refine KGO ?_
 refine Yc (ι := Nat × Sl) (fun q => [(0, .pointer (some ⟨g, o, none⟩)), (2, .pointer (some ⟨bg, 0, none⟩)), (3, .pointer (some ⟨b, 0, none⟩)), (6, .pointer (some ⟨b6, 0, none⟩)), (25, .slice ya Y.length yc), (26, .int .i64 (Y.length : Nat)), (27, .int .i64 (q.1 : Nat))])
  (fun q wr => Kp w wr n_ ∧ q.1 ≤ Y.length ∧ VarK wr b6 44 [.int .i64 dy, .slice q.2.a q.2.n q.2.c] ∧ OwnI wr b6 q.2.v ((Y.take q.1).filter fun n => decide (n - gap ∈ X))) (fun q => Y.length - q.1) (0, ⟨none, 0, 0⟩) FR ⟨k_w1, yal _, v_b6, World.ownsRow_nil _ _ _ _⟩ ?_
 clear v_b6 a_b6 hk1
 rintro ⟨i, so⟩ gg wr ⟨hK, hi, h6, hp⟩
 dsimp only at hi h6 hp ⊢
 have hkr := hk.trans0 hK
 have hgr := (hg.keep0 hK)
 have hgra := hgr.at
 have qr := Yb wr n_
 have zr := hK.size
 have h6a := h6.at
 refine GW ?_
 by_cases hlt : i < Y.length
 ·obtain ⟨gy, oy, rfl, hgy, haty⟩ := hry OM
  have chj := zaJ (at_mono haty hkr) hlt
  have hyi := hny Y[i] (yak hlt)
  have hst := filt_take (p := fun n => decide (n - gap ∈ X)) hlt
  have hfl : ((Y.take i).filter fun n => decide (n - gap ∈ X)).length ≤ 100000000000 := yaw (yaK _ _) (by rw [yar]; omega)
  have hbs := bs_I (w := wr.drew) X (Y[i] - gap) (hrx0.keep (hkr.drew)) hlx
  have kd := (Yb wr n_).drew
  clear haty
  generalize (Y.take i).filter (fun n => decide (n - gap ∈ X)) = F at *
  generalize hYi : Y[i] = y at *
  refine KGO ?_
  refine Ya (Tryz.call81 _ _) hbs ?_
  rintro e w2 ⟨k, q, rfl, hq, k2⟩
  obtain rfl := hq hax
  have K2 := (hK.trans0 kd).trans0 k2
  have h62 := (h6.keep0 kd).keep0 k2
  have p2 := own_keep0 (own_keep0 hp kd) k2
  have h62a := h62.at
  have q2 := Yb w2 n_
  clear hbs hq
  refine RT ?_
  by_cases hin : y - gap ∈ X
  ·rw [decide_eq_true hin] at *
   rw [if_pos rfl] at hst
   obtain ⟨aj, cj, ej⟩ := zab p2
   obtain ⟨ja, jn, jc⟩ := so
   injection ej with e1 e2 e3
   dsimp only at e1 e2 e3
   subst e1 e2 e3
   refine KGO ?_
   refine Ye (bs1I y _) ?_
   obtain ⟨a_b7, v_b7, k_w3, z_w3, r_w3⟩ := new5 w2 3 (inC y)
   generalize w2.alloc (.cells (List.toArray (inC y)) 3) = w3 at *
   generalize hs_b7 : w2.heap.size = b7 at *
   have p3 := own_keep0 p2 k_w3
   have h63 := h62.keep0 k_w3
   have K3 := K2.trans0 k_w3
   have z3 := K3.size
   have l6 := h6.lt
   have z2 := ((Yb wr n_).drew.trans0 k2).size
   refine KGO ?_
   refine tyI.app1 y p3 OM a_b7 OM OM fun v4 w4 o4 k4 => ?_
   have K4 := zav p3 k4 K3 OM
   have h64 := h63.keep k4 (zac p3 h63 (by decide))
   obtain ⟨a4, c4, rfl⟩ := zab o4
   refine KGO ?_
   refine Yd (i := 1) h64 (by simp) (by rfl) ⟨rfl, by simp, by simp⟩ fun w5 v5 k5 => ?_
   refine KGO ?_
   exact ⟨(i + 1, ⟨a4, _, c4⟩), FR, ⟨keeps_new K4 k5 OM, DO, v5, by dsimp only; rw [hst]; exact zad (D := [3]) o4 k5 (zag h64 (by decide)) (by decide)⟩, DO⟩
  rw [decide_eq_false hin] at *
  rw [if_neg (by simp), yaA] at hst
  refine KGO ?_
  exact ⟨(i + 1, so), FR, ⟨K2, DO, h62, by dsimp only; rw [hst]; exact p2⟩, DO⟩
 obtain rfl : i = Y.length := OM
 rw [yaD] at hp
 have hnx : nxR gap (some ⟨dx, X⟩, some ⟨dy, Y⟩) = if (Y.filter fun n => decide (n - gap ∈ X)) = [] then none else some ⟨dy, Y.filter fun n => decide (n - gap ∈ X)⟩ := rfl
 have hfl : (Y.filter fun n => decide (n - gap ∈ X)).length ≤ Y.length := yaK _ _
 generalize Y.filter (fun n => decide (n - gap ∈ X)) = F at *
 obtain ⟨aj, cj, ej⟩ := zab hp
 obtain ⟨ja, jn, jc⟩ := so
 injection ej with e1 e2 e3
 dsimp only at e1 e2 e3
 subst e1 e2 e3
 dsimp only at h6a h6 hp
 have hvr := hv.keep0 hK
 have hvra := hvr.at
 have or := ho.keep hK
 clear hry ha hga hpx hpy
 by_cases h0 : F = []
 ·have hF0 : F.length = 0 := by rw [h0]; rfl
  refine KGO ?_
  exact ⟨rfl, ⟨_, l, hvr, or, by rw [ybn, ybn, hnx, if_pos h0]; simp⟩, hgr, hkr⟩
 have hF1 : 0 < F.length := yaN.2 h0
 refine KGO ?_
 refine Ye (bs1P ⟨⟨dy, F⟩, ⟨ja, F.length, jc⟩⟩ _) ?_
 obtain ⟨a_b7, v_b7, k_w2, z_w2, r_w2⟩ := new5 wr 44 (prC ⟨⟨dy, F⟩, ⟨ja, F.length, jc⟩⟩)
 generalize wr.alloc (.cells (List.toArray (prC ⟨⟨dy, F⟩, ⟨ja, F.length, jc⟩⟩)) 44) = w2 at *
 generalize hs_b7 : wr.heap.size = b7 at *
 have o2 := or.keep k_w2
 have v2 := hvr.keep0 k_w2
 have g2 := hgr.keep0 k_w2
 have K2 := hkr.trans0 k_w2
 have p2 := own_keep0 hp k_w2
 refine KGO ?_
 refine tyP.app1 ⟨⟨dy, F⟩, ⟨ja, F.length, jc⟩⟩ o2.row (by have := hv.lt; omega) a_b7 OM OM fun v3 w3 o3 k3 => ?_
 have ho3 : OwP w3 b v3 (l ++ [⟨⟨dy, F⟩, ⟨ja, F.length, jc⟩⟩]) := ⟨o3, fun z hz => by
  rcases yaj.1 hz with hz | hz
  ·exact zad (D := [3]) (o2.pl z hz) k3 (zaC o2.row (by decide)) (by decide)
  rw [yac.1 hz]
  exact own_base (zad (D := [3]) p2 k3 (zaC o2.row (by decide)) (by decide)) (by have := hv.lt; omega)⟩
 have v3' := v2.keep k3 (zac o2.row v2 (by decide))
 have g3 := g2.keep k3 (zac o2.row g2 (by decide))
 have K3 := zav o2.row k3 K2 hw
 obtain ⟨a3, c3, rfl⟩ := zab o3
 refine KGO ?_
 refine Yd (i := 0) v3' (by simp) (by rfl) ⟨rfl, by simp, by simp⟩ fun w4 v4 k4 => ?_
 refine GW ?_
 exact ⟨rfl, ⟨_, _, v4, ho3.keepT k4 (zag v3' (by decide)), by rw [ybn, ybn, hnx, if_neg h0, yaL]; rfl⟩, g3.keep k4 (show ¬ bg = b by omega), keeps_new K3 k4 hw⟩
theorem ztk {va vb : Value} (la lb : List Pst) (gap : Int) (ha : RowP w va la) (hb : RowP w vb lb) (hra : zan la = true) (hrb : zan lb = true) (hla : la.length ≤ 1000000000000) (hlb : lb.length ≤ 1000000000000) (hpa : ∀ p ∈ la, p.places.length ≤ 100000000000) (hpb : ∀ p ∈ lb, p.places.length ≤ 100000000000) (hgap : -1000000 ≤ gap ∧ gap ≤ 1000000) :
  Calls Tryz.prog 104 #[va, vb, .int .i64 gap] w fun e w' => ∃ v, e = .returned v ∧ OwnP w' w.heap.size v (nextP la lb gap) ∧ Kp w w' n_ := by
 obtain ⟨lx, rfl, ha⟩ := ha
 obtain ⟨ly, rfl, hb⟩ := hb
 rw [yaf] at hla hlb
 have ha0 := ha.row
 have hb0 := hb.row
 obtain ⟨a, ca, rfl, _⟩ := ha0
 obtain ⟨b, cb, rfl, _⟩ := hb0
 have hnb := zpo gap _ (lx.map (·.p)) (ly.map (·.p)) (yag _) (zbg hra) (zbg hrb)
 rw [zfv, List.filterMap_map] at hnb
 refine zaa (args := [.slice a lx.length ca, .slice b ly.length cb, .int .i64 gap]) Tryz.func104 rfl NL ?_; refine GW ?_
 obtain ⟨a_b4, v_b4, k_w1, z_w1, r_w1⟩ := new5 w 3 ([.int .i64 gap])
 generalize w.alloc (.cells (List.toArray ([.int .i64 gap])) 3) = w1 at *
 generalize hs_b4 : w.heap.size = b4 at *
 obtain ⟨a_b5, v_b5, k_w2, z_w2, r_w2⟩ := new5 w1 37 ([.slice none 0 0])
 generalize w1.alloc (.cells (List.toArray ([.slice none 0 0])) 37) = w2 at *
 generalize hs_b5 : w1.heap.size = b5 at *
 have K2 := k_w1.trans0 k_w2
 have v4 := v_b4.keep0 k_w2
 refine KGO ?_
 conv => arg 3; simp [ev, upd]
 have hcall := zpF (w0 := w) (w := w2) (p0 := .pointer (some ⟨b4, 0, none⟩)) (p1 := .pointer (some ⟨b5, 0, none⟩)) (g2 := 166) lx ly
  (fun d u => ∃ vo lo, VarK u b5 37 [vo] ∧ OwP u b5 vo lo ∧ lo.map (·.p) = d.filterMap (fun q => nxR gap (q.1.map (·.p), q.2.map (·.p))) ∧ VarK u b4 3 [.int .i64 gap] ∧ Kp w u n_)
  ha.row hb.row ha.cap hb.cap hla hlb (fun _ _ => rfl) (fun d u h => h.choose_spec.choose_spec.2.2.2.2)
  (fun d u u' ⟨vo, lo, h1, h2, h3, h4, h5⟩ k => ⟨vo, lo, h1.keep0 k, h2.keep k, h3, h4.keep0 k, h5.trans0 k⟩)
  (fun d rest xo yo px py u hd hk hpx hpy ⟨vo, lo, h1, h2, h3, h4, h5⟩ => by
   have hsp := zaN cmpR lx ly
   rw [hd] at hsp
   have hm := hsp.1 (xo, yo) (by simp)
   have hln := hsp.2
   rw [yaa, yab] at hln
   have hll := congrArg List.length h3
   have hfm := ybI (fun q : Option Pr × Option Pr => nxR gap (q.1.map (·.p), q.2.map (·.p))) d
   rw [yaf] at hll
   refine (zpD (w := u) (w0 := w) gap lo h1 h4 h2 OM OM OM h5 OM hgap hpx hpy
    (fun x e => ⟨ha.pl x (hm.2.1 x e), ((zaw.1 hra).2 x.p (yax (hm.2.1 x e))).2.2.2.1, hpa x.p (yax (hm.2.1 x e))⟩) (fun x e => ⟨hb.pl x (hm.2.2 x e), hpb x.p (yax (hm.2.2 x e)), ((zaw.1 hrb).2 x.p (yax (hm.2.2 x e))).2.2.2.2⟩)).mono fun e u' h => ?_
   obtain ⟨rfl, ⟨vo', l', h5, h6, h7⟩, h8, h9⟩ := h
   refine ⟨rfl, vo', l', h5, h6, ?_, h8, h9⟩
   rw [h7, h3, List.filterMap_append]
   congr 1)
  ⟨_, [], v_b5, ⟨World.ownsRow_nil _ _ _ _, fun x h => by cases h⟩, rfl, v4, K2⟩
 refine Ya (Tryz.call165 _ _) hcall ?_
 rintro e w3 ⟨rfl, vo, lo, h1, h2, h3, h4, h5⟩
 obtain ⟨ao, co, rfl⟩ := zab h2.row
 have a1 := h1.at
 have q1 := Yb w3 n_
 clear hcall
 refine RT ?_
 refine KGO ?_
 exact ⟨_, rfl, ⟨lo, by rw [h3, ← hnb]; rfl, h2.base OM⟩, h5⟩
end
end Go.Proofs.YtennokckmjcefaaGreatDoor
