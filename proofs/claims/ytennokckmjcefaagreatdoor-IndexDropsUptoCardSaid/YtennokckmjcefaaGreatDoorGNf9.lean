/- Helper lemmas that the proved statement rests on; no conditions of their own. -/
import Derived.Test.YtennokckmjcefaaGreatDoorCards
import Derived.Test.YtennokckmjcefaaGreatDoorGNf3
set_option linter.unusedVariables false
set_option maxHeartbeats 16000000
set_option maxRecDepth 100000
namespace Go.Proofs.YtennokckmjcefaaGreatDoor
open Go.Shelf Go.RowKit Go.Pw Go.Vc Go.Cs Go.Lib Go.Cd Go.Mg
theorem zsS {w : World} {b1 b2 : Nat} {doc : Int} (h1 : At w b1 0 (inC 0)) (hb1 : b1 < w.heap.size) (h2 : At w b2 0 (prC ⟨⟨doc, [0]⟩, ⟨some ⟨b1, 0, none⟩, 1, 1⟩⟩)) (hb2 : b2 < w.heap.size) : RowP w (.slice (some ⟨b2, 0, none⟩) 1 1) [⟨doc, [0]⟩] :=
 ⟨[⟨⟨doc, [0]⟩, ⟨some ⟨b1, 0, none⟩, 1, 1⟩⟩], rfl, ⟨_, 1, rfl, fun _ => ⟨b2, 0, rfl, hb2, by simpa using h2⟩⟩, fun x hx => by
  rw [List.mem_singleton.1 hx]
  exact ⟨_, 1, rfl, fun _ => ⟨b1, 0, rfl, hb1, h1⟩⟩, zfx (Nat.le_refl _), fun x hx => by rw [List.mem_singleton.1 hx]; exact zfx (Nat.le_refl _)⟩
theorem zlT {P : Program} {w : World} {r : Reach} {base : Nat} {t e : TypeId} {n : Nat} {v : Value} (ht : P.underlying t = some (.array n e)) (h : Value.okWide P w r base t v) : ∃ cs, v = .agg cs ∧ cs.size = P.cellsOf t := by
 simp only [Value.okWide, ht] at h
 obtain ⟨cs, h1, h2, _⟩ := h
 exact ⟨cs, h1, h2⟩
theorem znU (l : List (List UInt8)) (a u : List UInt8) : decide (u ∈ l ++ [a]) = (decide (u ∈ l) || decide (a = u)) := by
 rw [Bool.eq_iff_iff, Bool.or_eq_true, decide_eq_true_iff, decide_eq_true_iff, decide_eq_true_iff, List.mem_append, List.mem_singleton]
 exact or_congr Iff.rfl ⟨Eq.symm, Eq.symm⟩
theorem OwP.keepF {w w' : World} {c : Nat → Prop} {B : Nat} {v : Value} {lx : List Pr} (h : OwP w B v lx) (k : Kp w w' c) (hc : ∀ q, c q → q < B) : OwP w' B v lx :=
 ⟨zaj h.row k fun q hq e => by have := hc q e; have := (h.row.lt q hq).1; omega, fun x hx => zaj (h.pl x hx) k fun q hq e => by have := hc q e; have := ((h.pl x hx).lt q hq).1; omega⟩
section
variable {w : World}
theorem zmd {v : Value} (lx : List (Sl × Am)) (doc : Int) (am : Am) (field : Int) (word : List UInt8) (hA : RowA w v lx) (hd : ∀ p ∈ lx, -9223372036854775808 ≤ p.2.doc ∧ p.2.doc ≤ 9223372036854775807) (hlx : lx.length ≤ 2000000) (hwt : wAs (lx.map (·.2)) ≤ 1000000000) (hdoc : -9223372036854775808 ≤ doc ∧ doc ≤ 9223372036854775807) (htx : lenX am.tx ≤ 1000000000) (hwd : word.length ≤ 1000000000) (hE : CEnv w) :
  Calls Tryz.prog 4 #[v, .int .i64 doc, .agg (t6C am).toArray, .int .i64 field, .string (str word)] w fun e w' => e = .returned (.bool true) ∧ Kp w w' n_ := by
 obtain ⟨a, cap, rfl, hr0⟩ := hA.row
 have hz : (str word).size = word.length := rfl
 rw [zcE] at htx
 unfold t6C
 refine zaa (args := [.slice a lx.length cap, .int .i64 doc, .agg (List.toArray [.string (str am.t0), .string (str am.t1), .string (str am.t2), .string (str am.t3), .string (str am.t4), .string (str am.t5)]), .int .i64 field, .string (str word)]) Tryz.func4 rfl NL ?_; refine GW ?_
 obtain ⟨a_b7, v_b7, k_w1, z_w1, r_w1⟩ := new5 w 32 ([.string (str am.t0), .string (str am.t1), .string (str am.t2), .string (str am.t3), .string (str am.t4), .string (str am.t5)])
 generalize w.alloc (.cells (List.toArray ([.string (str am.t0), .string (str am.t1), .string (str am.t2), .string (str am.t3), .string (str am.t4), .string (str am.t5)])) 32) = w1 at *
 generalize hs_b7 : w.heap.size = b7 at *
 have ht1 : At w1 b7 0 (am.tx.flatMap txC) := a_b7
 have z1 := k_w1.size
 have E1 : CEnv w1 := hE.keep k_w1
 have hb7 := v_b7.lt
 refine KGO ?_
 refine CallS.of (Tryz.call11 _ _) (zlW (w := w1) E1) ?_
 rintro e w2 ⟨rfl, k2⟩
 refine RT ?_
 refine KGO ?_
 refine CallS.of (Tryz.call16 _ _) (zqN (w := w2)) ?_
 rintro e w3 ⟨rfl, hx, k3⟩
 obtain ⟨b, hb⟩ : ∃ b, w2.heap.size = b := ⟨_, rfl⟩
 rw [hb] at hx ⊢
 have K3 := k2.trans0 k3
 have hbw : w1.heap.size ≤ b := by have := k2.size; omega
 refine RT ?_
 refine KGO ?_
 refine Loop.intro (ι := Nat) (fun f => [(0, .slice a lx.length cap), (1, .int .i64 doc), (3, .int .i64 field), (4, .string (str word)), (7, .pointer (some ⟨b7, 0, none⟩)), (11, .bool true), (12, .pointer (some ⟨b, 0, none⟩)), (13, .int .i64 (sumT (am.tx.take f) : Nat)), (14, .int .i64 (f : Nat))])
  (fun f wk => Kp w3 wk n_ ∧ f ≤ 6) (fun f => 6 - f) 0 ⟨rfl, rfl, rfl, rfl, rfl, rfl, rfl, rfl, rfl, trivial⟩ ⟨Kp.refl _ _, Nat.zero_le _⟩ ?_
 rintro f gf wk ⟨hKf, hf⟩
 have hsf := zef am.tx f
 refine GW ?_
 by_cases hft : f < 6
 ·have h6 : am.tx.length = 6 := rfl
  have ct : wk.cell? ⟨b7, 0 + f, none⟩ = some (.string (str (am.tx[f]'(by omega)))) := ziH (zai ht1 (K3.trans0 hKf)) (by omega)
  have hz2 : (str (am.tx[f]'(by omega))).size = (am.tx[f]'(by omega)).length := rfl
  have hsf2 := zfA (l := am.tx) (i := f) (by omega)
  have hsf3 := zef am.tx (f + 1)
  refine KGO ?_
  exact ⟨f + 1, ⟨rfl, rfl, rfl, rfl, rfl, rfl, rfl, v_int (by rw [hsf2, hz2]; omega), v_int (by simp), trivial⟩, ⟨hKf, by omega⟩, by dsimp only; omega⟩
 obtain rfl : f = 6 := by omega
 rw [show am.tx.take 6 = am.tx from rfl] at hsf ⊢
 have Kk := K3.trans0 hKf
 have hxk := hx.keep0 hKf
 refine KGO ?_
 refine CallS.of (Tryz.call17 _ _) (zpC (w := wk) lx (hA.keep (k_w1.trans0 Kk)) (by omega) hwt) ?_
 rintro e w4 ⟨rfl, k4⟩
 have K4 := Kk.trans0 k4
 have hx4 := hxk.keep0 k4
 refine RT ?_
 by_cases hfw : lx.length ≤ 30 ∧ wAs (lx.map (·.2)) ≤ 1500
 rotate_left
 ·rw [decide_eq_false hfw]
  refine KGO ?_
  exact ⟨rfl, k_w1.trans0 K4⟩
 rw [decide_eq_true hfw]
 obtain ⟨h30, h1500⟩ := hfw
 by_cases h500 : 500 < sumT am.tx
 ·refine KGO ?_
  exact ⟨rfl, k_w1.trans0 K4⟩
 by_cases h100 : 100 < word.length
 ·refine KGO ?_
  exact ⟨rfl, k_w1.trans0 K4⟩
 have B4 : Bs w1 w4 b ⟨none, 0, 0⟩ ⟨none, 0, 0⟩ [] := ⟨K4, fun q e => by have := hx.fp_ge q e; omega, E1⟩
 have hAk : ∀ u, Kp w4 u (fpX b ⟨none, 0, 0⟩ ⟨none, 0, 0⟩ []) → RowA u (.slice a lx.length cap) lx := fun u hu => hA.keep ((k_w1.trans0 K4).trans hu fun q hq e => by have := B4.lo q e; omega)
 clear k2 k3 K3 hx hxk hKf Kk k4
 refine KGO ?_
 refine CallS.of (Tryz.call18 _ _) (zoS (w := w4) lx hx4 B4 hAk hd h30 h1500) ?_
 rintro e w5 ⟨v5, LV, sv5, dv5, l5, rfl, oL, hLV, h5, M5⟩
 have B5 := B4.mut M5
 have hI5 := znO h1500 lx.length (Nat.le_refl _)
 have hwf := zfs (lx.map (·.2)) lx.length
 rw [← zkJ] at h5
 obtain ⟨aL, cL, rfl⟩ := zab oL
 clear hLV oL M5 B4 hAk hx4
 generalize runA lx lx.length = p0 at *
 obtain ⟨x0, DL⟩ := p0
 dsimp only at h5 hI5
 have hI : Iw x0 150 16000 15000 := hI5.mono (by omega) (by omega) (by omega)
 clear hI5 hwf K4
 have hlt5 : ∀ q, fpX b sv5 dv5 l5 q → q < w5.heap.size := h5.fp_lt
 have lx0 := zdR hI.ok hI.wt field (eqW word)
 have hdl0 := (zli hI.ok hI.wt).2.2.2
 refine RT ?_
 refine KGO ?_
 refine CallS.of (Tryz.call19 _ _) (zem (w := w5) h5 (hI.b (by omega) (by omega)) B5.env field word) ?_
 rintro e w6 ⟨v6, rfl, o6, k6⟩
 obtain ⟨lb, hlb, ob⟩ := o6
 have hbl : lb.length ≤ 150 := by have := congrArg List.length hlb; rw [List.length_map] at this; omega
 have h6 := h5.keep0 k6
 have B6 := B5.keep k6
 have hP : ∀ x ∈ lb, ∀ q, x.h.v.ownBlock = some q → w5.heap.size ≤ q ∧ q < w6.heap.size := fun x hx q hq => (ob.pl x hx).lt q hq
 obtain ⟨a6, c6, rfl⟩ := zab ob.row
 refine RT ?_
 refine KGO ?_
 refine CallS.of (Tryz.call21 _ _) (zjd (w := w6) h6 (hI.b (by omega) (by omega))) ?_
 rintro e w7 ⟨v7, rfl, o7, k7⟩
 have h7 := h6.keep0 k7
 have B7 := B6.keep k7
 obtain ⟨a7, c7, rfl⟩ := zab o7
 refine RT ?_
 refine KGO ?_
 refine CallS.of (Tryz.call20 _ _) (zhA (w := w7) (docsX x0) doc (zao o7) (by omega)) ?_
 rintro e w8 ⟨rfl, k8⟩
 have h8 := h7.keep0 k8
 have B8 := B7.keep k8
 have ob := (ob.keep k7).keep k8
 have z8 := (k7.trans0 k8).size
 clear o7 h5 B5 h6 B6 h7 B7 k6 k7 k8
 rw [← zhg hI.ok doc]
 refine RT ?_
 refine KGO ?_
 refine CallS.of (Tryz.call22 _ _) (zfD (w := w8) h8 (hI.b (by omega) (by omega)) doc) ?_
 rintro e w9 ⟨rfl, sv9, dv9, l9, h9, M9⟩
 have B9 := B8.mut M9
 have hI9 := hI.drop doc
 have hno := zgQ hI.ok doc
 have hlk := zlE hI.ok doc field (eqW word)
 have hdn := zim hI9.ok doc
 generalize (dropX x0 doc).1 = was at *
 generalize (dropX x0 doc).2 = x9 at *
 refine RT ?_
 refine KGO ?_
 refine CallS.of (Tryz.call22 _ _) (zfD (w := w9) h9 (hI9.b (by omega) (by omega)) doc) ?_
 rintro e w10 ⟨rfl, sv, dv, l, hx, M10⟩
 rw [hno]
 have B10 := B9.mut M10
 have MM := M9.trans M10
 have Ix := hI9.drop doc
 have ob := ob.keepF MM.k hlt5
 generalize (dropX x9 doc).2 = x at *
 clear h8 B8 h9 B9 M9 M10 hno hI9
 refine RT ?_
 refine KGO ?_
 have hlen : (lb.filter fun p => !decide (p.p.doc = doc)).length ≤ lb.length := List.length_filter_le _ _
 have hzx := B10.K.size
 have hfx : ∀ q, fpX b sv dv l q → q < w10.heap.size := hx.fp_lt
 obtain ⟨a6', c6', e6, hr6⟩ := zao ob.row
 injection e6 with e61 _ e63
 subst e61; subst e63
 refine Loop.intro (ι := Nat × Value) (fun i => [(1, .int .i64 doc), (3, .int .i64 field), (4, .string (str word)), (7, .pointer (some ⟨b7, 0, none⟩)), (11, .bool true), (12, .pointer (some ⟨b, 0, none⟩)), (15, .slice a6 lb.length c6), (17, i.2), (18, .int .i64 (i.1 : Nat))])
  (fun i wr => Kp w10 wr n_ ∧ i.1 ≤ lb.length ∧ OwnR 44 prC 2 wr w10.heap.size i.2 ((lb.take i.1).filter fun x => !decide (x.p.doc = doc))) (fun i => lb.length - i.1) (0, .slice none 0 0) ⟨rfl, rfl, rfl, rfl, rfl, rfl, rfl, rfl, rfl, trivial⟩ ⟨Kp.refl _ _, Nat.zero_le _, World.ownsRow_nil _ _ _ _⟩ ?_
 rintro ⟨i, vo⟩ gg wr ⟨hK, hi, ho⟩
 dsimp only at hi ho ⊢
 have hfl : ((lb.take i).filter fun x => !decide (x.p.doc = doc)).length ≤ i := Nat.le_trans (List.length_filter_le _ _) (by rw [List.length_take]; exact Nat.min_le_left _ _)
 obtain ⟨ao, co, rfl⟩ := zab ho
 have hzr := hK.size
 refine GW ?_
 by_cases hlt : i < lb.length
 ·have hts : (lb.take (i + 1)).filter (fun x => !decide (x.p.doc = doc)) = (lb.take i).filter (fun x => !decide (x.p.doc = doc)) ++ if lb[i].p.doc = doc then [] else [lb[i]] := by
   rw [List.take_succ_eq_append_getElem hlt, List.filter_append, List.filter_cons]
   by_cases h : lb[i].p.doc = doc <;> simp [h]
  obtain ⟨ga, oa, rfl, hga, hata⟩ := hr6 (by omega)
  generalize (lb.take i).filter (fun x => !decide (x.p.doc = doc)) = FL at *
  by_cases hin : lb[i].p.doc = doc
  ·rw [if_pos hin, List.append_nil] at hts
   refine KGO ?_
   exact ⟨(i + 1, .slice ao FL.length co), ⟨rfl, rfl, rfl, rfl, rfl, rfl, rfl, rfl, v_int (by simp), trivial⟩, ⟨hK, by dsimp only; omega, by dsimp only; rw [hts]; exact ho⟩, by dsimp only; omega⟩
  ·rw [if_neg hin] at hts
   refine KGO ?_
   refine RunV.of (bs1P lb[i] _) ?_
   obtain ⟨a_b4, v_b4, k_w4, z_w4, r_w4⟩ := new5 wr 44 (prC lb[i])
   generalize wr.alloc (.cells (List.toArray (prC lb[i])) 44) = w4 at *
   generalize hs_b4 : wr.heap.size = b4 at *
   have ho4 := zac ho k_w4
   refine KGO ?_
   refine tyP.app1 lb[i] ho4 (by omega) a_b4 (by omega) (by omega) fun v5 w5 o5 k5 => ?_
   have K5 := zaA ho4 k5 (hK.trans0 k_w4) (Nat.le_refl _)
   obtain ⟨a5, c5, rfl⟩ := zab o5
   refine KGO ?_
   exact ⟨(i + 1, .slice a5 (FL ++ [lb[i]]).length c5), ⟨rfl, rfl, rfl, rfl, rfl, rfl, rfl, rfl, v_int (by simp), trivial⟩, ⟨K5, by dsimp only; omega, by dsimp only; rw [hts]; exact o5⟩, by dsimp only; omega⟩
 obtain rfl : i = lb.length := by omega
 rw [List.take_length] at ho hfl ⊢
 have hFp : (lb.filter fun x => !decide (x.p.doc = doc)).map (·.p) = lookX x field (eqW word) := by rw [hlk, ← hlb, List.filter_map]; rfl
 have hrF : ∀ u, Kp wr u (fpX b sv dv l) → RowP u (.slice ao (lb.filter fun x => !decide (x.p.doc = doc)).length co) (lookX x field (eqW word)) := fun u hu =>
  ⟨_, hFp, zao (zaj ho hu fun q hq e => by have := hfx q e; have := (ho.lt q hq).1; omega), fun y hy => by
   have hm := (List.mem_filter.1 hy).1
   exact zao (zaj (zac (ob.pl y hm) hK) hu fun q hq e => MM.out (fun e2 => by have := hlt5 q e2; have := hP y hm q hq; omega) (by have := hP y hm q hq; omega) e), zbP ho, fun y hy => zbP (ob.pl y (List.mem_filter.1 hy).1)⟩
 have hlF : (lb.filter fun x => !decide (x.p.doc = doc)).length = (lookX x field (eqW word)).length := by rw [← hFp, List.length_map]
 generalize (lb.filter fun x => !decide (x.p.doc = doc)).length = nF at *
 have Hx := hx.keep0 hK
 have Bx := B10.keep hK
 clear ob hP hr6 MM ho hx B10 hFp hlk hlt5
 refine KGO ?_
 refine CallS.of (Tryz.call19 _ _) (zem (w := wr) Hx (Ix.b (by omega) (by omega)) Bx.env field word) ?_
 rintro e w11 ⟨v11, rfl, o11, k11⟩
 obtain ⟨a11, c11, rfl⟩ := o11.shape
 have lx1 := zdR Ix.ok Ix.wt field (eqW word)
 obtain ⟨q1, q2⟩ := lx1
 refine RT ?_
 refine KGO ?_
 refine CallS.of (Tryz.call23 _ _) (ziK (w := w11) (lookX x field (eqW word)) (lookX x field (eqW word)) o11.row (hrF w11 k11.of_none) (by omega) (by omega) (fun p hp => by have := q2 p hp; omega) (fun p hp => by have := q2 p hp; omega)) ?_
 rintro e w12 ⟨rfl, k12⟩
 rw [decide_eq_true rfl]
 have K12 := k11.trans0 k12
 have h12 := Hx.keep0 K12
 have B12 := Bx.keep K12
 clear o11
 refine RT ?_
 refine KGO ?_
 refine CallS.of (Tryz.call21 _ _) (zjd (w := w12) h12 (Ix.b (by omega) (by omega))) ?_
 rintro e w13 ⟨v13, rfl, o13, k13⟩
 have h13 := h12.keep0 k13
 have B13 := B12.keep k13
 have hdl := (zli Ix.ok Ix.wt).2.2.2
 obtain ⟨a13, c13, rfl⟩ := zab o13
 refine RT ?_
 refine KGO ?_
 refine CallS.of (Tryz.call20 _ _) (zhA (w := w13) (docsX x) doc (zao o13) (by omega)) ?_
 rintro e w14 ⟨rfl, k14⟩
 rw [decide_eq_false hdn]
 have h14 := h13.keep0 k14
 have B14 := B13.keep k14
 have K14 := (K12.trans0 k13).trans0 k14
 clear o13 k13 k14 h13 B13 h12 B12 k11 k12 K12 Hx Bx
 have hT14 := zai ht1 B14.K
 have hT14' : At w14 b7 0 [.string (str am.t0), .string (str am.t1), .string (str am.t2), .string (str am.t3), .string (str am.t4), .string (str am.t5)] := hT14
 have q14 := Kp.refl w14 n_
 refine RT ?_
 refine KGO ?_
 have hL : lenX am.tx ≤ 1500 := by rw [zcE]; omega
 refine CallS.of (Tryz.call24 _ _) (zgN (w := w14) h14 (Ix.b (by omega) (by omega)) B14 doc am.t0 am.t1 am.t2 am.t3 am.t4 am.t5 (Nat.le_trans hL (by omega)) hdoc) ?_
 rintro e w15 ⟨rfl, sv', dv', l', h15, M15⟩
 rw [show ([am.t0, am.t1, am.t2, am.t3, am.t4, am.t5] : List (List UInt8)) = am.tx from rfl] at h15 ⊢
 have B15 := B14.mut M15
 have hrF := hrF w15 ((K14.of_none).trans' M15.k)
 clear h14 B14 hT14' q14 K14 M15
 have hIA := Ix.add1 (doc := doc) (tx := am.tx) rfl hL
 have hTl : ∀ t ∈ am.tx, t.length ≤ 1000000000 := fun t ht => by have := zdj (tx := am.tx) rfl t ht; omega
 by_cases h0 : (addX x doc am.tx).1 = 0
 rotate_left
 ·have hbad := zrB Ix.ok hdn am.tx h0
  generalize (addX x doc am.tx).1 = rc at *
  refine RT ?_
  by_cases hlo : doc < 1
  ·refine KGO ?_
   exact ⟨rfl, k_w1.trans0 B15.K⟩
  ·have hhi : 1099511627776 < doc := by omega
   refine KGO ?_
   exact ⟨zak (decide_eq_true hhi), k_w1.trans0 B15.K⟩
 have hal := (zjQ Ix.ok hTl h0 field (eqW word)).1
 have hah := zsm Ix.ok hTl h0 field word
 rw [h0]
 clear hdn h0
 generalize (addX x doc am.tx).2 = y at *
 refine RT ?_
 refine KGO ?_
 refine CallS.of (Tryz.call19 _ _) (zem (w := w15) h15 (hIA.b (by omega) (by omega)) B15.env field word) ?_
 rintro e w16 ⟨v16, rfl, o16, k16⟩
 have lx2 := zdR hIA.ok hIA.wt field (eqW word)
 obtain ⟨q3, q4⟩ := lx2
 have B16 := B15.keep k16
 have hrF := hrF.keep k16
 have hE16 := B16.env
 have hT16 := zai ht1 B16.K
 obtain ⟨a16, c16, rfl⟩ := o16.shape
 generalize lookX y field (eqW word) = ly at *
 generalize lookX x field (eqW word) = lX at *
 clear h15 B15 k16 hT14 ht1
 refine RT ?_
 refine KGO ?_
 refine Loop.intro (ι := Nat) (fun i => [(1, .int .i64 doc), (3, .int .i64 field), (4, .string (str word)), (7, .pointer (some ⟨b7, 0, none⟩)), (11, .bool true), (17, .slice ao nF co), (19, .slice a16 ly.length c16), (20, .bool (hwF am.tx field word i)), (21, .int .i64 ((i + 1 : Nat) : Int))])
  (fun i wk => Kp w16 wk n_ ∧ i ≤ 5) (fun i => 5 - i) 0 ⟨rfl, rfl, rfl, rfl, rfl, rfl, rfl, rfl, rfl, trivial⟩ ⟨Kp.refl _ _, Nat.zero_le _⟩ ?_
 rintro i gi wk ⟨hKi, hi5⟩
 refine GW ?_
 by_cases hft : i < 5
 ·by_cases hff : field = 0 ∨ field = ((i + 1 : Nat) : Int)
  rotate_left
  ·have hf0 : ¬ field = 0 := fun e => hff (.inl e)
   have hf1 : ¬ field = ((i + 1 : Nat) : Int) := fun e => hff (.inr e)
   have hnx : hwF am.tx field word (i + 1) = hwF am.tx field word i := by rw [hwF, decide_eq_false hf0, decide_eq_false hf1]; simp
   refine KGO ?_
   exact ⟨i + 1, ⟨rfl, rfl, rfl, rfl, rfl, rfl, rfl, by show _ = Value.bool (hwF am.tx field word (i + 1)); rw [hnx]; rfl, v_int (by simp), trivial⟩, ⟨hKi, by omega⟩, by dsimp only; omega⟩
  have h6 : am.tx.length = 6 := rfl
  have ct : wk.cell? ⟨b7, 0 + (i + 1), none⟩ = some (.string (str (am.tx[i + 1]'(by omega)))) := ziH (zai hT16 hKi) (by omega)
  have hnx : hwF am.tx field word (i + 1) = (hwF am.tx field word i || decide (word ∈ wordsOf (am.tx[i + 1]'(by omega)))) := by
   rw [hwF, show am.tx.getD (i + 1) [] = am.tx[i + 1]'(by omega) by simp [List.getD, show i + 1 < am.tx.length by omega]]
   rcases hff with h | h <;> simp [h]
  have htl := hTl (am.tx[i + 1]'(by omega)) (List.getElem_mem _)
  have hz2 : (str (am.tx[i + 1]'(by omega))).size = (am.tx[i + 1]'(by omega)).length := rfl
  have hz3 := zdj (tx := am.tx) rfl (am.tx[i + 1]'(by omega)) (List.getElem_mem _)
  have qk := Kp.refl wk n_
  generalize hT : am.tx[i + 1]'(by omega) = T at *
  have hmm : ∀ u, Kp w16 u n_ → CEnv u := fun u hu => hE16.keep hu
  by_cases hf0 : field = 0
  all_goals
   refine KGO ?_
   refine CallS.of (Tryz.call25 _ _) (zeJ (w := wk) (str T) ((hE16.keep hKi).c) ((hE16.keep hKi).f) (by omega)) ?_
   rintro e w17 ⟨v17, rfl, o17, k17⟩
   rw [show listL (L (str T)) = wordsOf T from rfl] at o17
   have o17 := zho o17
   have K17 := hKi.trans0 k17
   have hwl := zaG T
   generalize wordsOf T = W at *
   have hWl := o17
   obtain ⟨a17, c17, rfl⟩ := zab o17
   obtain ⟨a17', c17', e17, hr17⟩ := zao o17
   injection e17 with e171 _ e173
   subst e171; subst e173
   have hWn : W.length ≤ 3000000000 := by omega
   refine RT ?_
   refine KGO ?_
   refine Loop.intro (ι := Nat × Bool) (fun q => [(1, .int .i64 doc), (3, .int .i64 field), (4, .string (str word)), (7, .pointer (some ⟨b7, 0, none⟩)), (11, .bool true), (17, .slice ao nF co), (19, .slice a16 ly.length c16), (20, .bool q.2), (21, .int .i64 ((i + 1 : Nat) : Int)), (22, .slice a17 W.length c17), (23, .int .i64 (q.1 : Nat))])
    (fun q wj => Kp w17 wj n_ ∧ q.1 ≤ W.length ∧ q.2 = (hwF am.tx field word i || decide (word ∈ W.take q.1))) (fun q => W.length - q.1) (0, hwF am.tx field word i) ⟨rfl, rfl, rfl, rfl, rfl, rfl, rfl, rfl, rfl, rfl, rfl, trivial⟩ ⟨Kp.refl _ _, Nat.zero_le _, by simp⟩ ?_
   rintro ⟨j, hs⟩ gj wj ⟨hKj, hj, hhs⟩
   dsimp only at hj hhs ⊢
   refine GW ?_
   by_cases hjt : j < W.length
   ·obtain ⟨g2, o2, rfl, hg2, hat2⟩ := hr17 (by omega)
    have cj := ziH (zai hat2 hKj) hjt
    have hnj : (hwF am.tx field word i || decide (word ∈ W.take (j + 1))) = (hs || decide (W[j] = word)) := by
     rw [hhs, List.take_succ_eq_append_getElem hjt, Bool.or_assoc, znU]
    cases hs with
    | true =>
     refine KGO ?_
     exact ⟨(j + 1, true), ⟨rfl, rfl, rfl, rfl, rfl, rfl, rfl, rfl, rfl, rfl, v_int (by simp), trivial⟩, ⟨hKj, by dsimp only; omega, by dsimp only; rw [hnj]; rfl⟩, by dsimp only; omega⟩
    | false =>
     refine KGO ?_
     exact ⟨(j + 1, decide (W[j] = word)), ⟨rfl, rfl, rfl, rfl, rfl, rfl, rfl, congrArg Value.bool (decide_eq_decide.2 zcD), rfl, rfl, v_int (by simp), trivial⟩, ⟨hKj, by dsimp only; omega, by dsimp only; rw [hnj]; simp⟩, by dsimp only; omega⟩
   obtain rfl : j = W.length := by omega
   rw [List.take_length, ← hnx] at hhs
   subst hhs
   refine KGO ?_
   exact ⟨i + 1, ⟨rfl, rfl, rfl, rfl, rfl, rfl, rfl, rfl, v_int (by simp), trivial⟩, ⟨K17.trans0 hKj, by omega⟩, by dsimp only; omega⟩
 obtain rfl : i = 5 := by omega
 rw [← hah]
 have BK := B16.keep hKi
 have K16 := BK.K
 have o16k := o16.keep hKi
 have hrk := hrF.keep hKi
 clear hE16 hT16 hah B16 hrF hTl hz
 obtain ⟨lz, hlz, oz⟩ := o16k
 have hlz2 : lz.length = ly.length := by rw [← hlz, List.length_map]
 have hmap : lz.map (·.p.doc) = ly.map (·.doc) := by rw [← hlz, List.map_map]; rfl
 have rz := oz.rd
 rw [← hlz2] at rz ⊢
 refine KGO ?_
 refine CallS.of (Tryz.call26 _ _) (zmU (w := wk) lz rz (by omega)) ?_
 rintro e w17 ⟨v17, rfl, o17, k17⟩
 rw [hmap] at o17
 obtain ⟨a17, c17, rfl⟩ := zab o17
 refine RT ?_
 refine KGO ?_
 refine CallS.of (Tryz.call20 _ _) (zhA (w := w17) (ly.map (·.doc)) doc (zao o17) (by rw [List.length_map]; omega)) ?_
 rintro e w18 ⟨rfl, k18⟩
 have K18 := k17.trans0 k18
 generalize decide (doc ∈ ly.map (·.doc)) = hb at *
 refine RT ?_
 refine KGO ?_
 refine RunV.of (bs1I 0 _) ?_
 obtain ⟨a_b19, v_b19, k_w19, z_w19, r_w19⟩ := new5 w18 3 (inC 0)
 generalize w18.alloc (.cells (List.toArray (inC 0)) 3) = w19 at *
 generalize hs_b19 : w18.heap.size = b19 at *
 refine KGO ?_
 refine RunV.of (zoN _ _ _ _ _) ?_
 refine KGO ?_
 refine RunV.of (bs1P ⟨⟨doc, [0]⟩, ⟨some ⟨b19, 0, none⟩, 1, 1⟩⟩ _) ?_
 obtain ⟨a_b20, v_b20, k_w20, z_w20, r_w20⟩ := new5 w19 44 (prC ⟨⟨doc, [0]⟩, ⟨some ⟨b19, 0, none⟩, 1, 1⟩⟩)
 generalize w19.alloc (.cells (List.toArray (prC ⟨⟨doc, [0]⟩, ⟨some ⟨b19, 0, none⟩, 1, 1⟩⟩)) 44) = w20 at *
 generalize hs_b20 : w19.heap.size = b20 at *
 have K20 := (K18.trans0 k_w19).trans0 k_w20
 have hone := zsS (zai a_b19 k_w20) (by omega) a_b20 (by omega)
 have rz20 : RowP w20 (.slice a16 lz.length c16) ly := ⟨lz, hlz, rz.keep K20⟩
 refine KGO ?_
 refine CallS.of (Tryz.call27 _ _) (znh (w := w20) ly [⟨doc, [0]⟩] rz20 hone (by omega) (by simp)) ?_
 rintro e w21 ⟨v21, rfl, r21, k21⟩
 rw [zqi, hal] at r21
 obtain ⟨a21, c21, rfl⟩ := r21.shape
 refine RT ?_
 refine KGO ?_
 refine CallS.of (Tryz.call23 _ _) (ziK (w := w21) lX lX r21 ((hrk.keep K20).keep k21) (by omega) (by omega) (fun p hp => by have := q2 p hp; omega) (fun p hp => by have := q2 p hp; omega)) ?_
 rintro e w22 ⟨rfl, k22⟩
 rw [decide_eq_true rfl]
 refine RT ?_
 refine KGO ?_
 exact ⟨rfl, k_w1.trans0 (((K16.trans0 K20).trans0 k21).trans0 k22)⟩
end
end Go.Proofs.YtennokckmjcefaaGreatDoor
namespace Go.Proofs.YtennokckmjcefaaGreatDoor
open Go.Shelf Go.RowKit Go.Pw Go.Vc Go.Cs Go.Lib Go.Mg
instance : Inhabited Ent := ⟨⟨0, 0, []⟩⟩
def slM : Value → Sl
 | .slice a n c => ⟨a, n, c⟩
 | _ => ⟨none, 0, 0⟩
theorem zqy {α : Type} {W : World} {v : Value} {c : α → List Value} {l : List α} (h : RowO W v c l) : v = (slM v).v := by
 obtain ⟨a, cap, rfl, _⟩ := h
 rfl
instance : Inhabited (Sv × Sgm) := ⟨(default, ⟨[], []⟩)⟩
section
end
end Go.Proofs.YtennokckmjcefaaGreatDoor
namespace Go.Proofs.YtennokckmjcefaaGreatDoor
open Go.Shelf Go.RowKit Go.Pw Go.Vc Go.Cs Go.Lib Go.Mg Go.ChangeShapes Go.WideShapes Go.ChangeAt
def OpensB (W : World) (T : TypeId) {α : Type} (cells : α → List Value) (p : α → Prop) (wt : α → Nat) : Prop :=
 ∀ {H : Type} {enc : TypeId × Value → H} {fuel : Nat} {cs : List Value} {x : DataW H × List MemPlace}, DataW.trod enc Tryz.prog W 0 (fun _ => true) true fuel T cs = some x → ∃ y, cs = cells y ∧ p y ∧ wt y ≤ Rows.uptoBulk x.1
section
variable {W : World} {T : TypeId}
theorem zku {H : Type} (d : DataW H) : 1 ≤ Rows.uptoBulk d := by
 cases d with
 | lit l => cases l <;> simp [Rows.uptoBulk]
 | nil => simp [Rows.uptoBulk]
 | ptr d => simp [Rows.uptoBulk]
 | slice elems spare => simp [Rows.uptoBulk]
 | agg parts => simp [Rows.uptoBulk]
 | iface t d => simp [Rows.uptoBulk]
 | map entries => simp [Rows.uptoBulk]
 | held h => simp [Rows.uptoBulk]
theorem zhq {H α : Type} (g : α → Nat) : ∀ (ys : List α) (ds : List (DataW H)), ys.length = ds.length → (∀ (i : Nat) (h : i < ys.length) (h2 : i < ds.length), g ys[i] ≤ Rows.uptoBulk ds[i]) → (ys.map g).sum ≤ Rows.uptoBulkAll ds
 | [], _, _, _ => Nat.zero_le _
 | y :: ys, [], h, _ => by simp at h
 | y :: ys, d :: ds, h, hg => by
  have ih := zhq g ys ds (by simpa using h) fun i h1 h2 => by
   have := hg (i + 1) (by simpa using h1) (by simpa using h2)
   simpa using this
  have h0 := hg 0 (by simp) (by simp)
  simp only [List.getElem_cons_zero] at h0
  simp only [List.map_cons, List.sum_cons, Rows.uptoBulkAll]
  omega
theorem zft (hT : Tryz.prog.underlying T = some (.int .i64)) : OpensB W T (fun z : Int => [.int .i64 z]) (fun z => -9223372036854775808 ≤ z ∧ z ≤ 9223372036854775807) (fun _ => 1) := fun {H enc fuel cs x} h => by
 obtain ⟨z, e, hx, w⟩ := DataW.trod_int hT h
 obtain ⟨y, e2, hy⟩ := znM (P := Tryz.prog) (W := W) hT h (fun n hn => by rw [hx] at hn; simp [DataW.weights] at hn)
 exact ⟨y, e2, hy, zku _⟩
theorem zfO (hT : Tryz.prog.underlying T = some .string) : OpensB W T (fun s : List UInt8 => [.string (str s)]) (fun _ => True) (fun s => s.length + 1) := fun {H enc fuel cs x} h => by
 obtain ⟨s, e, g, _⟩ := DataW.trod_string hT h
 refine ⟨L s, ?_, trivial, ?_⟩
 ·rw [e]; show [Value.string s] = [Value.string (str (L s))]; rw [str_L]
 ·have e2 : x = (.lit (.string s.data.toList), []) := g
  rw [e2]
  simp only [Rows.uptoBulk]
  rw [show (L s).length = s.size from by rw [← zpy, str_L]]
  have : s.data.toList.length = s.size := by rw [Array.length_toList]; rfl
  omega
theorem zic {α β : Type} {cells : α → List Value} {p : α → Prop} {wt : α → Nat} {cells' : β → List Value} {p' : β → Prop} {wt' : β → Nat} (h : OpensB W T cells p wt) (f : α → β) (hc : ∀ y, p y → cells y = cells' (f y)) (hp : ∀ y, p y → p' (f y)) (hw : ∀ y, p y → wt' (f y) ≤ wt y) : OpensB W T cells' p' wt' := fun {H enc fuel cs x} hf => by
 obtain ⟨y, rfl, h2, h3⟩ := h hf
 exact ⟨f y, hc y h2, hp y h2, Nat.le_trans (hw y h2) h3⟩
theorem zfY {E : TypeId} {α : Type} [Inhabited α] {cells : α → List Value} {p : α → Prop} {wt : α → Nat} {k : Nat} (hT : Tryz.prog.underlying T = some (.slice E)) (hE : OpensB W E cells p wt) (hk : ∀ y, (cells y).length = k) (hk0 : 0 < k) (hc : Tryz.prog.cellsOf E = k) :
  OpensB W T (fun y : Value × List α => [y.1]) (fun y => RowO W y.1 cells y.2 ∧ CapK y.1 ∧ ∀ z ∈ y.2, p z) (fun y => (y.2.map wt).sum + 1) := fun {H enc fuel cs x} hf => by
 rcases DataW.trod_slice hT hf with ⟨hcs, hx⟩ | ⟨x0, len, cap, elems, rest, n, _, hcs, hx, hb2, hl, hm, hel, hat, hsp, _⟩
 ·exact ⟨(.slice none 0 0, []), hcs, ⟨⟨none, 0, rfl, fun h => by simp at h⟩, zfx (Nat.le_refl _), by simp⟩, zku _⟩
 ·subst hx
  rw [hc] at hat
  have each : ∀ i, i < len → ∃ y : α, (p y ∧ ∀ d, elems[i]? = some d → wt y ≤ Rows.uptoBulk d.1) ∧ ∃ lb lo, some x0 = some ⟨lb, lo, none⟩ ∧ lb < W.heap.size ∧ At W lb (lo + i * k) (cells y) := fun i hi => by
   have hy : elems[i]? = some (elems[i]'(by omega)) := List.getElem?_eq_getElem (by omega)
   have hbi := hat i hi
   rw [hy, Option.bind_eq_some_iff] at hbi
   obtain ⟨cs, hcs, ht⟩ := hbi
   obtain ⟨y, rfl, hok, hwt⟩ := hE ht
   obtain ⟨_, hcl, hcat⟩ := World.cells?_some hcs
   refine ⟨y, ⟨hok, fun d hd => by rw [hy] at hd; injection hd with hd; rw [← hd]; exact hwt⟩, ?_⟩
   obtain ⟨b, off, spot⟩ := x0
   have hyk := hk y
   have h0 := hcat 0 (by omega)
   obtain ⟨v0, hv0⟩ : ∃ v0, (cells y)[0]? = some v0 := ⟨_, List.getElem?_eq_getElem (by omega)⟩
   rw [hv0] at h0
   have hspot : spot = none := by
    have := World.cell?_spot h0
    by_cases hi0 : i = 0
    ·subst hi0; simpa [Addr.add] using this
    ·exact Classical.byContradiction fun hne => by
      have hh := hat 0 (by omega)
      have hy0 : elems[0]? = some (elems[0]'(by omega)) := List.getElem?_eq_getElem (by omega)
      rw [hy0, Option.bind_eq_some_iff] at hh
      obtain ⟨cs0, hcs0, ht0⟩ := hh
      obtain ⟨_, hcl0, hcat0⟩ := World.cells?_some hcs0
      have h00 := hcat0 0 (by omega)
      have hcs0l : 0 < cs0.length := by omega
      rw [List.getElem?_eq_getElem hcs0l] at h00
      have := World.cell?_spot h00
      exact hne (by simpa [Addr.add] using this)
   subst hspot
   have hlt := Pw.cell_lt h0
   rw [Go.Vc.add_none, Go.Vc.add_none] at hlt
   refine ⟨b, off, rfl, hlt, fun j v hj => ?_⟩
   have hjk : j < k := by
    have := (List.getElem?_eq_some_iff.1 hj).1; omega
   have := hcat j (by omega)
   rw [Go.Vc.add_none, Go.Vc.add_none, hj] at this
   exact this
  obtain ⟨f, hfx⟩ := Go.Deep.choose_lt each
  have hlen : ((List.range len).map f).length = len := by simp
  refine ⟨(.slice (some x0) len cap, (List.range len).map f), hcs, ⟨⟨some x0, cap, by rw [hlen], fun h0 => ?_⟩, zfx hl, fun z hz => ?_⟩, ?_⟩
  ·rw [hlen] at h0
   obtain ⟨_, lb, lo, he, hlb, _⟩ := hfx 0 h0
   refine ⟨lb, lo, he, hlb, fun i v hv => ?_⟩
   have hgen : ∀ (l : List α) (o : Nat), (∀ j, (hj : j < l.length) → At W lb (o + j * k) (cells l[j])) → At W lb o (l.flatMap cells) := by
    intro l
    induction l with
    | nil => intro o _ i v hi; simp at hi
    | cons a r ih =>
     intro o h i v hi
     rw [List.flatMap_cons] at hi
     by_cases hik : i < k
     ·rw [List.getElem?_append_left (by rw [hk]; exact hik)] at hi
      have := h 0 (by simp) i v hi
      simpa using this
     ·rw [List.getElem?_append_right (by rw [hk]; omega), hk] at hi
      have h2 := ih (o + k) (fun j hj m u hu => by
       have := h (j + 1) (by simpa using hj) m u hu
       rw [Nat.succ_mul] at this
       rw [show o + k + j * k + m = o + (j * k + k) + m by omega]
       exact this) (i - k) v hi
      rwa [show o + k + (i - k) = o + i by omega] at h2
   refine hgen ((List.range len).map f) lo (fun j hj => ?_) i v hv
   have hj : j < len := by simpa using hj
   obtain ⟨_, lb2, lo2, he2, _, hc2⟩ := hfx j hj
   rw [he] at he2
   injection he2 with he2
   injection he2 with e1 e2
   subst e1; subst e2
   rw [List.getElem_map, List.getElem_range]
   exact hc2
  ·obtain ⟨i, hi, rfl⟩ := List.mem_map.1 hz
   exact (hfx i (by simpa using hi)).1.1
  ·dsimp only
   simp only [Rows.uptoBulk]
   have := zhq (H := H) wt ((List.range len).map f) (elems.map (·.1)) (by rw [hlen, List.length_map]; omega) fun i h1 h2 => by
    rw [hlen] at h1
    rw [List.getElem_map, List.getElem_map, List.getElem_range]
    exact (hfx i h1).1.2 _ (List.getElem?_eq_getElem (by omega))
   omega
def OpensF (W : World) (fs : List Field) (off total : Nat) {α : Type} (cells : α → List Value) (p : α → Prop) (wt : α → Nat) : Prop :=
 ∀ {H : Type} {enc : TypeId × Value → H} {n : Nat} {cs : List Value} {xs : List (DataW H × List MemPlace)}, cs.length = total → xs.length = fs.length →
  (∀ (i : Nat) (f : Field), fs[i]? = some f → DataW.trod enc Tryz.prog W 0 (fun _ => true) true n f.type ((cs.drop f.offset).take (Tryz.prog.cellsOf f.type)) = xs[i]?) → ∃ y, cs.drop off = cells y ∧ p y ∧ wt y ≤ Rows.uptoBulkAll (xs.map (·.1))
theorem zmM {off : Nat} : OpensF W [] off off (fun _ : Unit => []) (fun _ => True) (fun _ => 0) := fun {H enc n cs xs} hl _ _ => ⟨(), List.drop_eq_nil_of_le (by omega), trivial, Nat.zero_le _⟩
theorem zbV {f : Field} {fs : List Field} {off total k : Nat} {α β : Type} {c1 : α → List Value} {p1 : α → Prop} {w1 : α → Nat} {c2 : β → List Value} {p2 : β → Prop} {w2 : β → Nat} (ho : f.offset = off) (hk : Tryz.prog.cellsOf f.type = k) (h1 : OpensB W f.type c1 p1 w1) (h2 : OpensF W fs (off + k) total c2 p2 w2) :
  OpensF W (f :: fs) off total (fun y : α × β => c1 y.1 ++ c2 y.2) (fun y => p1 y.1 ∧ p2 y.2) (fun y => w1 y.1 + w2 y.2) := fun {H enc n cs xs} hl hx hf => by
 cases xs with
 | nil => simp at hx
 | cons x xs =>
  have f0 := hf 0 f rfl
  rw [ho, hk] at f0
  obtain ⟨y1, e1, q1, s1⟩ := h1 f0
  obtain ⟨y2, e2, q2, s2⟩ := h2 (n := n) (cs := cs) (xs := xs) hl (by simpa using hx) (fun i g hg => hf (i + 1) g (by simpa using hg))
  refine ⟨(y1, y2), ?_, ⟨q1, q2⟩, ?_⟩
  ·dsimp only
   rw [← e1, ← e2, ← List.drop_drop, List.take_append_drop]
  ·dsimp only
   simp only [List.map_cons, Rows.uptoBulkAll]
   omega
theorem zis {fs : Array Field} {total : Nat} {α : Type} {cells : α → List Value} {p : α → Prop} {wt : α → Nat} (hT : Tryz.prog.underlying T = some (.struct fs)) (hc : Tryz.prog.cellsOf T = total) (h : OpensF W fs.toList 0 total cells p wt) : OpensB W T cells p wt := fun {H enc fuel cs x} hf => by
 obtain ⟨xs, n, _, hx, hlen, hxl, hfld⟩ := DataW.trod_struct hT hf
 rw [hc] at hlen
 obtain ⟨y, e, q, s⟩ := h (n := n) (cs := cs) (xs := xs) hlen (by simpa using hxl) (fun i f hi => hfld i f (by rw [← Array.getElem?_toList]; exact hi))
 refine ⟨y, by simpa using e, q, ?_⟩
 rw [hx]
 simp only [Rows.uptoBulk]
 omega
theorem ziZ {n : Nat} {e : TypeId} (hT : Tryz.prog.underlying T = some (.array n e)) (he : Tryz.prog.underlying e = some .string) (hc : Tryz.prog.cellsOf e = 1) (hcT : Tryz.prog.cellsOf T = n) : OpensB W T (fun l : List (List UInt8) => l.map fun s => .string (str s)) (fun l => l.length = n) (fun l => (l.map List.length).sum + 1) := fun {H enc fuel cs x} hf => by
 obtain ⟨xs, m, _, hx, hl, hxl, hd⟩ := DataW.trod_array hT hf
 rw [hcT] at hl
 have each : ∀ i, i < n → ∃ s : List UInt8, (∀ d, xs[i]? = some d → s.length ≤ Rows.uptoBulk d.1) ∧ cs[i]? = some (.string (str s)) := fun i hi => by
  have h := hd i hi
  rw [hc, List.getElem?_eq_getElem (by omega : i < xs.length)] at h
  obtain ⟨s, e1, _, hw⟩ := zfO (W := W) he h
  refine ⟨s, fun d hd => ?_, ?_⟩
  ·rw [List.getElem?_eq_getElem (by omega : i < xs.length)] at hd
   injection hd with hd
   have hw : s.length + 1 ≤ _ := hw
   rw [← hd]; omega
  ·have e2 : cs[i]? = ((cs.drop (i * 1)).take 1)[0]? := by simp
   rw [e2, e1]; rfl
 obtain ⟨f, hf⟩ := Go.Deep.choose_lt each
 refine ⟨(List.range n).map f, ?_, by simp, ?_⟩
 ·refine List.ext_getElem? fun i => ?_
  by_cases hi : i < n
  ·rw [(hf i hi).2]; simp [hi]
  ·rw [List.getElem?_eq_none (by omega), List.getElem?_eq_none (by simp; omega)]
 ·rw [hx]
  simp only [Rows.uptoBulk]
  have := zhq (H := H) List.length ((List.range n).map f) (xs.map (·.1)) (by simp; omega) fun i h1 h2 => by
   have h1 : i < n := by simpa using h1
   rw [List.getElem_map, List.getElem_map, List.getElem_range]
   exact (hf i h1).1 _ (List.getElem?_eq_getElem (by omega))
  omega
end
section
variable {W : World}
theorem zrn : OpensB W 48 (fun y : Value × List (List UInt8) => [y.1]) (fun y => RowO W y.1 txC y.2 ∧ CapK y.1 ∧ ∀ z ∈ y.2, True) (fun y => (y.2.map fun s => s.length + 1).sum + 1) :=
 zfY (k := 1) Tryz.underlying48 (zfO Tryz.underlying9) (fun _ => rfl) (by decide) (by kernel_rfl)
def amT (l : List (List UInt8)) : Am := ⟨0, 0, l.getD 0 [], l.getD 1 [], l.getD 2 [], l.getD 3 [], l.getD 4 [], l.getD 5 [], 0, [], []⟩
theorem oB_t6 : OpensB W 32 t6C (fun _ => True) (fun a => lenX a.tx + 1) :=
 zic (ziZ Tryz.underlying32 Tryz.underlying9 (by kernel_rfl) (by kernel_rfl)) amT (fun l h => by
  match l, h with
  | [a, b, c, d, e, f], _ => rfl) (fun _ _ => trivial) (fun l h => by
  match l, h with
  | [a, b, c, d, e, f], _ =>
   rw [zcE]
   exact Nat.le_refl _)
def bulkA (a : Am) : Nat := sumT a.tx + a.word.length + a.words.length + sumT a.words
def mkA (y : Int × Int × Am × Int × List UInt8 × (Value × List (List UInt8)) × Unit) : Sl × Am := (slM y.2.2.2.2.2.1.1, ⟨y.1, y.2.1, y.2.2.1.t0, y.2.2.1.t1, y.2.2.1.t2, y.2.2.1.t3, y.2.2.1.t4, y.2.2.1.t5, y.2.2.2.1, y.2.2.2.2.1, y.2.2.2.2.2.1.2⟩)
instance : Inhabited (Sl × Am) := ⟨(⟨none, 0, 0⟩, default)⟩
theorem zsp (l : List (List UInt8)) : (l.map fun s => s.length + 1).sum = sumT l + l.length := by
 unfold sumT
 induction l with
 | nil => rfl
 | cons a l ih => simp only [List.map_cons, List.sum_cons, List.length_cons, ih]; omega
def ActR (W : World) (p : Sl × Am) : Prop := RowO W p.1.v txC p.2.words ∧ CapK p.1.v ∧ -9223372036854775808 ≤ p.2.doc ∧ p.2.doc ≤ 9223372036854775807
theorem zsR : OpensB W 54 actC (ActR W) (fun p => bulkA p.2 + 1) := by
 have hS : OpensB W 54 _ _ _ := zis (W := W) Tryz.underlying54 (total := 11) (by kernel_rfl) (zbV (k := 1) rfl (by kernel_rfl) (zft Tryz.underlying3) (zbV (k := 1) rfl (by kernel_rfl) (zft Tryz.underlying3) (zbV (k := 6) rfl (by kernel_rfl) oB_t6 (zbV (k := 1) rfl (by kernel_rfl) (zft Tryz.underlying3) (zbV (k := 1) rfl (by kernel_rfl) (zfO Tryz.underlying9) (zbV (k := 1) rfl (by kernel_rfl) zrn (zmM (off := 11))))))))
 refine @zic W _ _ _ _ _ _ _ _ _ (@hS) mkA (fun y h => ?_) (fun y h => ?_) (fun y h => ?_)
 ·have e := zqy h.2.2.2.2.2.1.1
  show [Value.int .i64 y.1] ++ ([Value.int .i64 y.2.1] ++ (t6C y.2.2.1 ++ ([Value.int .i64 y.2.2.2.1] ++ ([Value.string (str y.2.2.2.2.1)] ++ ([y.2.2.2.2.2.1.1] ++ []))))) = _
  rw [e]; rfl
 ·have e := zqy h.2.2.2.2.2.1.1
  have h1 := h.2.2.2.2.2.1.1
  have h2 := h.2.2.2.2.2.1.2.1
  rw [e] at h1 h2
  exact ⟨h1, h2, h.2.1.1, h.2.1.2⟩
 ·have h1 := zsp y.2.2.2.2.2.1.2
  have h2 := zcE y.2.2.1
  show sumT y.2.2.1.tx + y.2.2.2.2.1.length + y.2.2.2.2.2.1.2.length + sumT y.2.2.2.2.2.1.2 + 1 ≤ _
  omega
theorem zrx : OpensB W 31 (fun y : Value × List (Sl × Am) => [y.1]) (fun y => RowO W y.1 actC y.2 ∧ CapK y.1 ∧ ∀ z ∈ y.2, ActR W z) (fun y => (y.2.map fun p => bulkA p.2 + 1).sum + 1) :=
 zfY (k := 11) Tryz.underlying31 zsR lenAct (by decide) (by kernel_rfl)
variable {H : Type} {enc : TypeId × Value → H} {v : Value} {d : DataW H} {ps : List MemPlace}
theorem zfd {T : TypeId} {α : Type} {cells : α → List Value} {p : α → Prop} {wt : α → Nat} (h : OpensB W T cells p wt) (ht : DataW.Trod enc Tryz.prog W 0 (fun _ => true) true T v d ps) : ∃ y, v.cells.toList = cells y ∧ p y ∧ wt y ≤ Rows.uptoBulk d := by
 obtain ⟨fuel, hf⟩ := ht
 exact h hf
theorem zpO {a : Option Addr} {n c : Nat} {v : Value} (h : (Value.slice a n c).cells.toList = [v]) : v = .slice a n c := by
 have : [Value.slice a n c] = [v] := h
 injection this with h
 exact h.symm
theorem zsf {α : Type} (f : α → Nat) (l : List α) : (l.map fun a => f a + 1).sum = (l.map f).sum + l.length := by
 induction l with
 | nil => rfl
 | cons a l ih => simp only [List.map_cons, List.sum_cons, List.length_cons, ih]; omega
theorem zrU {a : Option Addr} {n c : Nat} (ht : DataW.Trod enc Tryz.prog W 0 (fun _ => true) true 31 (.slice a n c) d ps) : ∃ lx : List (Sl × Am), RowA W (.slice a n c) lx ∧ (∀ p ∈ lx, -9223372036854775808 ≤ p.2.doc ∧ p.2.doc ≤ 9223372036854775807) ∧ lx.length ≤ Rows.uptoBulk d ∧ wAs (lx.map (·.2)) ≤ 10 * Rows.uptoBulk d := by
 obtain ⟨⟨v, l⟩, h1, ⟨h2, h3, h5⟩, h4⟩ := zfd zrx ht
 obtain rfl := zpO h1
 dsimp only at h4 h5
 rw [zsf] at h4
 refine ⟨l, ⟨h2, fun p hp => (h5 p hp).1, fun p hp => (h5 p hp).2.1⟩, fun p hp => (h5 p hp).2.2, by omega, ?_⟩
 have key : ∀ l : List (Sl × Am), wAs (l.map (·.2)) ≤ 10 * (l.map fun p => bulkA p.2).sum := fun l => by
  unfold wAs
  induction l with
  | nil => exact Nat.le_refl _
  | cons a l ih =>
   simp only [List.map_cons, List.sum_cons]
   have : wA a.2 ≤ 10 * bulkA a.2 := by unfold wA bulkA; omega
   omega
 have := key l
 omega
theorem t6_of (ht : DataW.Trod enc Tryz.prog W 0 (fun _ => true) true 32 v d ps) (hs : ∃ a : Array Value, v = .agg a) : ∃ a : Am, v = .agg (t6C a).toArray ∧ lenX a.tx ≤ Rows.uptoBulk d := by
 obtain ⟨c, rfl⟩ := hs
 obtain ⟨a, h1, _, h2⟩ := zfd (@oB_t6 W) ht
 exact ⟨a, by rw [← h1]; simp [Value.cells], by omega⟩
end
end Go.Proofs.YtennokckmjcefaaGreatDoor
