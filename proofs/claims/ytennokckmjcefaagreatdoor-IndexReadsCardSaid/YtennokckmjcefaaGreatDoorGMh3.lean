/- Helper lemmas; no conditions of their own. -/
import Derived.Test.YtennokckmjcefaaGreatDoorMh2
set_option linter.unusedVariables false
set_option maxHeartbeats 16000000
set_option maxRecDepth 100000
namespace Go.Proofs.YtennokckmjcefaaGreatDoor
open Go.Shelf Go.RowKit Go.Pw Go.Vc Go.Cs Go.Lib Go.Cd Go.Mg
structure Gone (w : World) (b mb : Nat) (dead : List Int) : Prop where
 v : VarK w b 212 [.map (some mb)]
 m : ∃ m, GMap (Value.int .i64) w mb m ∧ ∀ d, (m.get d).getD (.int .i64 0) = .int .i64 (dead.count d : Nat)
theorem Gone.keep {w w' : World} {c : Nat → Prop} {b mb : Nat} {dead : List Int} (g : Gone w b mb dead) (k : Kp w w' c) (h1 : ¬ c b) (h2 : ¬ c mb) : Gone w' b mb dead :=
 ⟨g.v.keep k h1, let ⟨m, a, e⟩ := g.m; ⟨m, a.keep k h2, e⟩⟩
theorem Gone.keep0 {w w' : World} {b mb : Nat} {dead : List Int} (g : Gone w b mb dead) (k : Kp w w' n_) : Gone w' b mb dead := g.keep k id id
theorem ziR {s : Sgm} (h : SmS s) : SmS (validS s) := by
 unfold validS
 split
 ·exact h
 exact ⟨yal _, yal _, fun t h => by cases h⟩
theorem bs2S (a b : Option Addr) (n m c d : Nat) (w : World) : (Instr.buildSlice 242 2 [(0, .slice a n c), (1, .slice b m d)].toArray).run Tryz.prog w = .ok (.slice (some ⟨w.heap.size, 0, none⟩) 2 2) (w.alloc (.cells (List.toArray [.slice a n c, .slice b m d]) 40)) := by
 simp [Instr.buildSlice, go_sem, Tryz.runUnderlying242]
theorem zig (a : Int) (b c : ByteArray) (w : World) : (Instr.build 141 [(0, .int .i64 a), (1, .string b), (2, .string c)].toArray).run Tryz.prog w = .ok (.agg #[.int .i64 a, .string b, .string c]) w := by
 simp [Instr.build, go_sem, Tryz.runUnderlying141]
theorem bs1Tm (t : Trm) (w : World) : (Instr.buildSlice 63 1 [(0, .agg #[.int .i64 t.field, .string (str t.word), .string (str t.list)])].toArray).run Tryz.prog w = .ok (.slice (some ⟨w.heap.size, 0, none⟩) 1 1) (w.alloc (.cells (List.toArray (tmC t)) 141)) := by
 simp [Instr.buildSlice, go_sem, Tryz.runUnderlying63, tmC]
theorem zmo (a b : List Trm) : (zaE a b).length ≤ a.length + b.length := by
 unfold zaE; rw [List.length_map]; exact (zaN cmpT a b).2
structure OwS (w : World) (B : Nat) (h : Sv) (s : Sgm) : Prop where
 t : OwnR 141 tmC 3 w B h.t.v s.terms
 d : OwnI w B h.d.v s.docs
def DS : List TypeId := [141, 3]
theorem OwS.rd {w : World} {B : Nat} {h : Sv} {s : Sgm} (o : OwS w B h s) : RdS w h s := ⟨own_rowO o.t, own_rowO o.d, own_capK o.t, own_capK o.d⟩
theorem OwS.keepT {w w' : World} {c : Nat → Prop} {B : Nat} {h : Sv} {s : Sgm} (o : OwS w B h s) (k : Kp w w' c) (hc : ∀ q, q < w.heap.size → c q → notD DS w q) : OwS w' B h s := ⟨zad o.t k hc (by decide), zad o.d k hc (by decide)⟩
theorem OwS.keep {w w' : World} {B : Nat} {h : Sv} {s : Sgm} (o : OwS w B h s) (k : Kp w w' n_) : OwS w' B h s := o.keepT k zfR
theorem OwS.base {w : World} {B B' : Nat} {h : Sv} {s : Sgm} (o : OwS w B h s) (hB : B' ≤ B) : OwS w B' h s := ⟨own_base o.t hB, own_base o.d hB⟩
theorem okKI : KeyOk Tryz.prog 3 (Value.int .i64) := znW Tryz.underlying3
section
variable {w : World}
theorem tw_1 {b mb : Nat} (dead : List Int) (x : Pr) (g : Gone w b mb dead) : Calls Tryz.prog 198 #[.agg (prC x).toArray, .pointer (some ⟨b, 0, none⟩)] w fun e w' => e = .returned (.bool (decide (x.p.doc ∈ dead))) ∧ Kp w w' n_ := by
 refine zaa (args := [.agg (prC x).toArray, .pointer (some ⟨b, 0, none⟩)]) Tryz.func198 rfl NL ?_; refine GW ?_
 obtain ⟨a_b1, v_b1, k_w1, z_w1, r_w1⟩ := new5 w 44 (prC x)
 generalize w.alloc (.cells (List.toArray (prC x)) 44) = w1 at *
 generalize hs_b1 : w.heap.size = b1 at *
 have g1 := g.keep0 k_w1
 have ag := g1.v.at
 obtain ⟨m, hm, he⟩ := g1.m
 refine KGO ?_
 refine Yn okKI Tryz.underlying212 (by rfl) hm x.p.doc rfl ?_
 rw [he]
 refine KGO ?_
 refine ⟨ret_bool ?_, k_w1⟩
 rw [decide_eq_decide]
 exact ⟨fun h => List.count_pos_iff.1 OM, fun h => by have := List.count_pos_iff.2 h; omega⟩
theorem ztD {vd : Value} (ha hb : Sv) (a b : Sgm) (dead : List Int) (ra : RdS w ha a) (rb : RdS w hb b) (sa : SmS a) (sb : SmS b) (rd : RowI w vd dead) (hd : dead.length ≤ 1000000) (hE : CEnv w) :
  Calls Tryz.prog 137 #[.agg (sgC ha).toArray, .agg (sgC hb).toArray, vd] w fun e w' => ∃ h', e = .returned (.agg (sgC h').toArray) ∧ OwS w' w.heap.size h' (twoS a b dead) ∧ Kp w w' n_ := by
 have rd0 := rd
 obtain ⟨ad, cd, rfl, hrd⟩ := rd
 refine zaa (args := [.agg (sgC ha).toArray, .agg (sgC hb).toArray, .slice ad dead.length cd]) Tryz.func137 rfl NL ?_; refine GW ?_
 obtain ⟨a_b3, v_b3, k_w1, z_w1, r_w1⟩ := new5 w 65 (sgC ha)
 generalize w.alloc (.cells (List.toArray (sgC ha)) 65) = w1 at *
 generalize hs_b3 : w.heap.size = b3 at *
 obtain ⟨a_b4, v_b4, k_w2, z_w2, r_w2⟩ := new5 w1 65 (sgC hb)
 generalize w1.alloc (.cells (List.toArray (sgC hb)) 65) = w2 at *
 generalize hs_b4 : w1.heap.size = b4 at *
 obtain ⟨a_b6, v_b6, k_w3, z_w3, r_w3⟩ := new5 w2 65 ([.slice none 0 0, .slice none 0 0])
 generalize w2.alloc (.cells (List.toArray ([.slice none 0 0, .slice none 0 0])) 65) = w3 at *
 generalize hs_b6 : w2.heap.size = b6 at *
 have K3 : Kp w w3 n_ := (k_w1.trans0 k_w2).trans0 k_w3
 have v3 := (v_b3.keep0 k_w2).keep0 k_w3
 have v4 := v_b4.keep0 k_w3
 have v6 := v_b6
 have a3 := v3.at
 have a4 := v4.at
 clear a_b3 v_b3 a_b4 v_b4 a_b6 v_b6
 refine KGO ?_
 have kd3 := (Yb w3 n_).drew
 refine Yh (fun u => Kp w3 u (one_ b3)) (fun t => t != some 15) (by simp) (by decide +kernel) (by decide +kernel) kd3.of_none ?_
 refine GW ?_
 refine KGO ?_
 refine ⟨kd3.of_none, ?_⟩
 refine KGO ?_
 refine Ya (Tryz.call195 _ _) (zkp (w := w3.drew) ha a (ra.keep (K3.trans0 kd3)) sa (hE.keep (K3.trans0 kd3))) ?_
 rintro e w4 ⟨h4, rfl, r4, k4⟩
 have r4 := r4 w ra
 have k34 : Kp w3 w4 n_ := kd3.trans0 k4
 refine RT ?_
 refine ⟨k34.of_none, ?_⟩
 refine KGO ?_
 refine HeldG (sgC hb) (by rfl) (by rfl) (fun u hu => (v4.keep hu (show ¬ b4 = b3 by omega)).at) (by rfl) ?_
 refine KGO ?_
 refine Ya (Tryz.call195 _ _) (zkp (w := w4) hb b (rb.keep (K3.trans0 k34)) sb (hE.keep (K3.trans0 k34))) ?_
 rintro e w5 ⟨h5, rfl, r5, k5⟩
 have r5 := r5 w rb
 have k35 : Kp w3 w5 n_ := k34.trans0 k5
 refine RT ?_
 refine ⟨k35.of_none, ?_⟩
 refine KGO ?_
 refine Yi (sgC h4) (v3.keep0 k35) (by rfl) rfl (zak (by rfl)) fun w6 v36 k6 => ?_
 refine ⟨(k35.of_none).trans' k6, ?_⟩
 refine KGO ?_
 refine Yi (sgC h5) ((v4.keep0 k35).keep k6 (show ¬ b4 = b3 by omega)) (by rfl) rfl (zak (by rfl)) fun w7 v47 k7 => ?_
 have v37 := v36.keep k7 (show ¬ b3 = b4 by omega)
 have v67 := ((v6.keep0 k35).keep k6 (show ¬ b6 = b3 by omega)).keep k7 (show ¬ b6 = b4 by omega)
 have K7 : Kp w w7 n_ := keeps_new (keeps_new (K3.trans0 k35) k6 OM) k7 OM
 have k57 : Kp w5 w7 (two2 b3 b4) := (k6.mono fun q _ e => .inl e).trans' (k7.mono fun q _ e => .inr e)
 have sva := ziR sa
 have svb := ziR sb
 unfold twoS
 generalize validS a = A at *
 generalize validS b = B at *
 have z3 := K3.size
 clear v36 v3 v4 a3 a4 k6 k7 k57 k35 k34 k4 k5 kd3 v6 ra rb sa sb
 refine GW ?_
 refine KGO ?_
 refine RunV.makeMap rfl ?_
 have km : Kp w7 (w7.alloc (.map #[] 0)) n_ := (Yb _ _).alloc _
 have hm0 : GMap (Value.int .i64) (w7.alloc (.map #[] 0)) w7.heap.size ([] : GM Int) := GMap.new w7
 have hml : w7.heap.size < (w7.alloc (.map #[] 0)).heap.size := hm0.lt
 generalize w7.alloc (.map #[] 0) = w8 at *
 generalize hmb : w7.heap.size = mb at *
 have K8 := K7.trans0 km
 have v38 := v37.keep0 km
 have v48 := v47.keep0 km
 have v68 := v67.keep0 km
 have l38 := v38.lt
 have l48 := v48.lt
 have l68 := v68.lt
 refine KGO ?_
 obtain ⟨a_b7, v_b7, k_w9, z_w9, r_w9⟩ := new5 w8 212 ([.map none])
 generalize w8.alloc (.cells (List.toArray ([.map none])) 212) = w9 at *
 generalize hs_b7 : w8.heap.size = b7 at *
 refine Yd (i := 0) v_b7 (by simp) (by rfl) ⟨rfl, by simp, by simp⟩ fun w10 v7 k10 => ?_
 have k8x : Kp w8 w10 n_ := keeps_new k_w9 k10 OM
 have v310 := v38.keep0 k8x
 have v410 := v48.keep0 k8x
 have v610 := v68.keep0 k8x
 have hm10 := hm0.keep k8x id
 have K10 := K8.trans0 k8x
 have z10 := K10.size
 have ag := v7.at
 have g0 : Gone w10 b7 mb [] := ⟨v7, [], hm10, fun d => rfl⟩
 have hmb7 : mb < b7 := OM
 have hb36 : b3 < b4 ∧ b4 < b6 ∧ b6 < mb := by have := v67.lt; omega
 clear v38 v48 v68 hm0 hm10 k8x k10 v_b7 k_w9 a_b7 v7 l38 l48 l68 hml km K8 K7 v37 v47 v67 K3
 refine KGO ?_
 refine Yc (ι := Nat) (fun i => [(3, .pointer (some ⟨b3, 0, none⟩)), (4, .pointer (some ⟨b4, 0, none⟩)), (6, .pointer (some ⟨b6, 0, none⟩)), (7, .pointer (some ⟨b7, 0, none⟩)), (20, .slice ad dead.length cd), (21, .int .i64 (dead.length : Nat)), (22, .int .i64 (i : Nat))])
  (fun i wr => Kp w10 wr (one_ mb) ∧ i ≤ dead.length ∧ Gone wr b7 mb (dead.take i)) (fun i => dead.length - i) 0 FR ⟨Yb _ _, yal _, g0⟩ ?_
 clear g0 ag
 rintro i gg wr ⟨hK, hi, g⟩
 have ag := g.v.at
 have q0 := Yb wr n_
 have Kw : Kp w wr n_ := keeps_new K10 hK OM
 refine GW ?_
 by_cases hlt : i < dead.length
 ·obtain ⟨gd, od, rfl, hgd, hatd⟩ := hrd OM
  have cdd := zaJ hatd hlt
  obtain ⟨m, hm, he⟩ := g.m
  refine KGO ?_
  refine Yn okKI Tryz.underlying212 (by rfl) hm dead[i] rfl ?_
  rw [he]
  have hcl := @List.count_le_length Int _ dead[i] (dead.take i)
  rw [yar] at hcl
  refine KGO ?_
  refine RunU.updG okKI Tryz.underlying212 hm dead[i] rfl _ fun wu gu ku => ?_
  refine KGO ?_
  refine ⟨i + 1, FR, ⟨hK.trans' ku, OM, ⟨g.v.keep ku (show ¬ b7 = mb by omega), _, gu, fun d => ?_⟩⟩, DO⟩
  rw [yad hlt, List.count_append, GM.get_put]
  by_cases hd : d = dead[i]
  ·rw [if_pos hd, hd]
   simp
  rw [if_neg hd, he]
  simp [Ne.symm hd]
 rw [yaz OM] at g
 refine KGO ?_
 obtain ⟨a_b10, v_b10, k_w11, z_w11, r_w11⟩ := new5 wr 65 ([.slice none 0 0, .slice none 0 0])
 generalize wr.alloc (.cells (List.toArray ([.slice none 0 0, .slice none 0 0])) 65) = w11 at *
 generalize hs_b10 : wr.heap.size = b10 at *
 have kr11 : Kp w10 w11 (one_ mb) := hK.trans' k_w11.of_none
 have v311 := v310.keep kr11 (show ¬ b3 = mb by omega)
 have v411 := v410.keep kr11 (show ¬ b4 = mb by omega)
 have v611 := v610.keep kr11 (show ¬ b6 = mb by omega)
 have g11 := g.keep0 k_w11
 have K11 := Kw.trans0 k_w11
 have hb10 : b7 < b10 := by have := g.v.lt; omega
 have a3 := v311.at
 have a4 := v411.at
 refine KGO ?_
 refine Ye (bs2S _ _ _ _ _ _ _) ?_
 obtain ⟨a_bq, v_bq, k_w12, z_w12, r_w12⟩ := new5 w11 40 ([.slice h4.d.a h4.d.n h4.d.c, .slice h5.d.a h5.d.n h5.d.c])
 generalize w11.alloc (.cells (List.toArray ([.slice h4.d.a h4.d.n h4.d.c, .slice h5.d.a h5.d.n h5.d.c])) 40) = w12 at *
 generalize hs_bq : w11.heap.size = bq at *
 have K12 := K11.trans0 k_w12
 have hrow : RowO w12 (.slice (some ⟨bq, 0, none⟩) 2 2) slCI [(h4.d, A.docs), (h5.d, B.docs)] := ⟨_, 2, rfl, fun _ => ⟨bq, 0, rfl, OM, a_bq⟩⟩
 refine KGO ?_
 have hcc := cat_I (w := w12) [(h4.d, A.docs), (h5.d, B.docs)] hrow (fun p hp => by
  simp only [yah, yaS, or_false] at hp
  rcases hp with rfl | rfl
  ·exact r4.d.keep K12
  exact r5.d.keep K12) (by simp) (by have := sva.d; have := svb.d; simp; omega)
 rw [show ([(h4.d, A.docs), (h5.d, B.docs)] : List (Sl × List Int)).flatMap (·.2) = A.docs ++ B.docs by simp] at hcc
 refine Ya (Tryz.call196 _ _) hcc ?_
 rintro e w13 ⟨vc, rfl, oc, k13⟩
 have hcl : (A.docs ++ B.docs).length ≤ 2000000000 := by have := sva.d; have := svb.d; rw [yaa]; omega
 generalize A.docs ++ B.docs = CD at *
 obtain ⟨ac, cc, rfl⟩ := zab oc
 have k1113 := k_w12.trans0 k13
 have K13 := K12.trans0 k13
 have g13 := g11.keep0 k1113
 have v310 := v311.keep0 k1113
 have v410 := v411.keep0 k1113
 have v610 := v611.keep0 k1113
 have v1013 := v_b10.keep0 k1113
 obtain ⟨_, _, ec, hrc⟩ := own_rowO oc
 injection ec with ec1 ec2 ec3
 subst ec1 ec3
 have z13 := K13.size
 have z1013 := v1013.lt
 clear hcc hrow a_bq v_bq k_w12 k13 k1113 K12 K11 kr11 v311 v411 v611 g11 k_w11 v_b10 a_b10 a3 a4 g hK ag q0 hrd hlt hi hrc
 refine RT ?_
 refine KGO ?_
 refine Yc (ι := Nat × Value) (fun i => [(3, .pointer (some ⟨b3, 0, none⟩)), (4, .pointer (some ⟨b4, 0, none⟩)), (6, .pointer (some ⟨b6, 0, none⟩)), (7, .pointer (some ⟨b7, 0, none⟩)), (10, .pointer (some ⟨b10, 0, none⟩)), (36, .slice ac CD.length cc), (37, .int .i64 (CD.length : Nat)), (38, .int .i64 (i.1 : Nat))])
  (fun i wr => Kp w13 wr (one_ b10) ∧ i.1 ≤ CD.length ∧ VarK wr b10 65 [.slice none 0 0, i.2] ∧ OwnI wr w13.heap.size i.2 ((CD.take i.1).filter fun d => !decide (d ∈ dead))) (fun i => CD.length - i.1) (0, .slice none 0 0) FR ⟨Yb _ _, yal _, v1013, World.ownsRow_nil _ _ _ _⟩ ?_
 rintro ⟨i, vo⟩ gg wr ⟨hK, hi, v10, ho⟩
 dsimp only at hi v10 ho ⊢
 have g := g13.keep hK (show ¬ b7 = b10 by omega) (show ¬ mb = b10 by omega)
 have ag := g.v.at
 have a10 := v10.at
 have q0 := Yb wr n_
 have zr := hK.size
 obtain ⟨ao, co, rfl⟩ := zab ho
 have hfl : ((CD.take i).filter fun d => !decide (d ∈ dead)).length ≤ i := yaw (yaK _ _) (by rw [yar]; omega)
 refine GW ?_
 by_cases hlt : i < CD.length
 ·have ocr := zad (D := [3]) oc hK (zag v1013 (by decide)) (by decide)
  obtain ⟨gc, egc, _, _, hatc⟩ := zdY ocr OM
  obtain rfl := egc
  have cdd := zaJ hatc hlt
  obtain ⟨m, hm, he⟩ := g.m
  have hst : (CD.take (i + 1)).filter (fun d => !decide (d ∈ dead)) = (CD.take i).filter (fun d => !decide (d ∈ dead)) ++ (if CD[i] ∈ dead then [] else [CD[i]]) := by
   rw [yad hlt, ybf]
   by_cases h : CD[i] ∈ dead <;> simp [h]
  refine KGO ?_
  refine Yn okKI Tryz.underlying212 (by rfl) hm CD[i] rfl ?_
  rw [he]
  by_cases hin : CD[i] ∈ dead
  ·have hcp := List.count_pos_iff.2 hin
   rw [if_pos hin, yaA] at hst
   refine KGO ?_
   exact ⟨(i + 1, _), FR, ⟨hK, DO, v10, by dsimp only; rw [hst]; exact ho⟩, DO⟩
  have hcp := List.count_eq_zero.2 hin
  rw [if_neg hin] at hst
  refine KGO ?_
  refine Ye (bs1I CD[i] _) ?_
  obtain ⟨a_b14, v_b14, k_w14, z_w14, r_w14⟩ := new5 wr 3 (inC CD[i])
  generalize wr.alloc (.cells (List.toArray (inC CD[i])) 3) = w14 at *
  generalize hs_b14 : wr.heap.size = b14 at *
  have v14 := v10.keep0 k_w14
  have o14 := own_keep0 ho k_w14
  refine KGO ?_
  refine tyI.app1 CD[i] o14 OM a_b14 OM OM fun v15 w15 o15 k15 => ?_
  have v15' := v14.keep k15 (zac o14 v14 (by decide))
  have K15 : Kp w13 w15 (one_ b10) := zav o14 k15 (hK.trans' k_w14.of_none) (yag _)
  obtain ⟨a15, c15, rfl⟩ := zab o15
  refine KGO ?_
  refine Yd (i := 1) v15' (by simp) (by rfl) ⟨rfl, by simp, by simp⟩ fun w16 v16 k16 => ?_
  have o16 := zad (D := [3]) o15 k16 (zag v15' (by decide)) (by decide)
  refine KGO ?_
  exact ⟨(i + 1, _), FR, ⟨K15.trans' k16, DO, v16, by dsimp only; rw [hst]; exact o16⟩, DO⟩
 obtain rfl : i = CD.length := OM
 rw [yaD] at ho v10 hfl a10
 have hw3 : w13.heap.size ≤ wr.heap.size := zr
 have K14 : Kp w wr n_ := keeps_new K13 hK OM
 have vr3 := v310.keep hK (show ¬ b3 = b10 by omega)
 have vr4 := v410.keep hK (show ¬ b4 = b10 by omega)
 have vr6 := v610.keep hK (show ¬ b6 = b10 by omega)
 clear oc v1013 v310 v410 v610 g13 hK ag
 generalize hF : CD.filter (fun d => !decide (d ∈ dead)) = F at *
 have hFl : F.length ≤ 2000000000 := OM
 refine KGO ?_
 refine Ya (Tryz.call79 _ _) (srt_I (w := wr) F ho OM) ?_
 rintro e w14 ⟨rfl, o14, k14⟩
 rw [show F.length = (F.mergeSort fun x y => decide (x ≤ y)).length from (yba _).symm] at *
 have v14 := v10.keep k14 (zac ho v10 (by decide))
 have vr3 := vr3.keep k14 (zac ho vr3 (by decide))
 have vr4 := vr4.keep k14 (zac ho vr4 (by decide))
 have vr6 := vr6.keep k14 (zac ho vr6 (by decide))
 have g := g.keep k14 (zac ho g.v (by decide)) (fun e => by
  obtain ⟨cs, z, hh, _⟩ := zat ho e
  obtain ⟨m, ⟨es, ck, h1, _⟩, _⟩ := g.m
  rw [hh] at h1; cases h1)
 have K15 := zav ho k14 K14 OM
 have a10 := v14.at
 have q1 := Yb w14 n_
 generalize hFs : (F.mergeSort fun x y => decide (x ≤ y)) = S at *
 have hSl : S.length ≤ 2000000000 := hFl
 refine RT ?_
 refine KGO ?_
 refine Ya (Tryz.call106 _ _) (cmp_I (w := w14) S o14 OM) ?_
 rintro e w15 ⟨vd5, rfl, o15, k15, _⟩
 have hD : compact S = sortI F := by rw [← hFs]; exact zfW F
 rw [hD] at o15
 obtain ⟨aD, cD, rfl⟩ := zab o15
 have v15 := v14.keep k15 (zac o14 v14 (by decide))
 have vr3 := vr3.keep k15 (zac o14 vr3 (by decide))
 have vr4 := vr4.keep k15 (zac o14 vr4 (by decide))
 have vr6 := vr6.keep k15 (zac o14 vr6 (by decide))
 have g := g.keep k15 (zac o14 g.v (by decide)) (fun e => by
  obtain ⟨cs, z, hh, _⟩ := zat o14 e
  obtain ⟨m, ⟨es, ck, h1, _⟩, _⟩ := g.m
  rw [hh] at h1; cases h1)
 have K16 := zav o14 k15 K15 OM
 refine RT ?_
 refine KGO ?_
 refine Yd (i := 1) v15 (by simp) (by rfl) ⟨rfl, by simp, by simp⟩ fun w17 v17 k17 => ?_
 have o17 := zad (D := [3]) o15 k17 (zag v15 (by decide)) (by decide)
 have vr3 := vr3.keep k17 (show ¬ b3 = b10 by omega)
 have vr4 := vr4.keep k17 (show ¬ b4 = b10 by omega)
 have vr6 := vr6.keep k17 (show ¬ b6 = b10 by omega)
 have g := g.keep k17 (show ¬ b7 = b10 by omega) (show ¬ mb = b10 by omega)
 have K17 := keeps_new K16 k17 OM
 have a3 := vr3.at
 have a4 := vr4.at
 have q1 := Yb w17 n_
 have hDl : (sortI F).length ≤ 2000000000 := yaw (zix F) (by rw [← hFs, yba] at hFl; exact hFl)
 clear hD hFs o14 v14 v15 k15 K15 k14 K14 ho v10 a10 o15 K16
 generalize sortI F = DD at *
 refine KGO ?_
 refine Ya (Tryz.call197 _ _) (zti (w := w17) h4.t.a h5.t.a h4.t.n h5.t.n h4.t.c h5.t.c) ?_
 rintro e w18 ⟨c1, c2, rfl, u1, u2, hc1, hc12, k18⟩
 refine RT ?_
 refine KGO ?_
 have z17 := K17.size
 have z18 := k18.size
 have hc2l := u2.lt
 have hc1l := u1.lt
 have hbc : b10 < c1 := by have := v17.lt; omega
 have K18 := K17.trans0 k18
 clear a3 a4 q1
 obtain ⟨D, hD⟩ : ∃ D, w18.heap.size = D := ⟨_, rfl⟩
 refine Range.introW (α := MI) miE (by rfl) (fun _ _ => rfl) rfl rfl (by decide) (fun _ => rfl) (two2 c1 c2) (fun b hb => by rcases hb with hb | hb <;> omega)
  (fun pre W => Kp w17 W (one_ b10) ∧ ∃ vt, VarK W b10 65 [vt, .slice aD DD.length cD] ∧ OwnR 141 tmC 3 W (D + 2) vt ((pre.map miF).filterMap (termOf dead))) (fun _ _ _ => False)
  (fun xs => xs.map miF = zaE A.terms B.terms) (fun pre x W => (∃ rest, pre.map miF ++ miF x :: rest = zaE A.terms B.terms) ∧ OwnP W (D + 2) x.2.1 x.2.2) ?_ ?_ ?_ ?_ ?_ ?_ ?_
 ·rintro pre W W' ⟨i1, vt, i2, i3⟩ hsz hk
  refine ⟨i1.trans hk fun q hq e => by rcases e with (e | e) | e <;> omega, vt, i2.keep hk (by rintro ((e | e) | e) <;> omega), own_keep i3 hk fun q hq e => ?_⟩
  obtain ⟨_, _, _, hBq, _⟩ := zat i3 hq
  rcases e with (e | e) | e <;> omega
 ·rintro c pre W W' h; exact h.elim
 ·intro W hk hz
  exact ⟨(k18.trans0 hk).of_none, .slice none 0 0, v17.keep0 (k18.trans0 hk), World.ownsRow_nil _ _ _ _⟩
 ·intro J Jx hJ1 hJk hJxk hY W hkW hJ0
  have hWs := (hJ1 _ _ hJ0).2
  exact zsJ (w := W) (w0 := w) (B := D + 2) (va := .slice h4.t.a h4.t.n h4.t.c) (vb := .slice h5.t.a h5.t.n h5.t.c) A.terms B.terms r4.t r5.t r4.tc r5.tc sva.t svb.t sva.x svb.x OM hc12 OM J Jx
   (fun pre W h => ⟨keeps_new K17 (hJ1 pre W h).1.1 OM, by have := (hJ1 pre W h).2; omega⟩) hJk (fun pre x rest W h he ho => hY pre x W h ⟨⟨rest, he⟩, ho⟩) (u1.keep0 hkW) (u2.keep0 hkW) hJ0
 ·rintro pre ⟨xt, xv, xl⟩ W ⟨i1, vt, i2, i3⟩ ⟨⟨rest, hrest⟩, hxo⟩ hsz
  dsimp only at hxo
  obtain ⟨ax, cx, rfl⟩ := hxo.shape
  refine GW ?_
  obtain ⟨a_b13, v_b13, k_W1, z_W1, r_W1⟩ := new5 W 141 ([.int .i64 0, .string ⟨#[]⟩, .string ⟨#[]⟩])
  generalize W.alloc (.cells (List.toArray ([.int .i64 0, .string ⟨#[]⟩, .string ⟨#[]⟩])) 141) = W1 at *
  generalize hs_b13 : W.heap.size = b13 at *
  refine SVK (tmC xt) v_b13 fun W2 v2 k2 => ?_
  have kW2 : Kp W W2 n_ := keeps_new k_W1 k2 OM
  have hvb : ¬ own_ vt b13 := fun e => by
   obtain ⟨_, _, _, _, hlt⟩ := zat i3 e; omega
  refine GW ?_
  refine KGO ?_
  refine ⟨⟨Rec2.of kW2 OM id id, fun W3 k3 z3 => ?_⟩⟩
  have kW3 : Kp W W3 (one_ (D + 1)) := by have := (kW2.of_none (c := one_ (w18.heap.size + 1))).trans' k3; rw [hD] at this; exact this
  have zW3 := kW3.size
  have i2 := i2.keep kW3 (show ¬ b10 = D + 1 by omega)
  have i3 := own_keep i3 kW3 fun q hq e => by
   obtain ⟨_, _, _, hBq, _⟩ := zat i3 hq
   have e : q = D + 1 := e
   omega
  have v13 := v2.keep k3 (show ¬ b13 = w18.heap.size + 1 by omega)
  have hxo := hxo.keepB kW3 (fun q e => by have e : q = D + 1 := e; omega)
  have gW := (g.keep (i1.trans kW3 (c' := one_ (D + 1)) fun q hq e => by have e : q = D + 1 := e; omega) (show ¬ b7 = b10 by omega) (show ¬ mb = b10 by omega))
  have hci := (zpZ (b := 10000000) (fun t ht => yaw (zhp t) (sva.x t ht).l) (fun t ht => yaw (zhp t) (svb.x t ht).l) (xt, xl) (by rw [← hrest]; simp [miF])).1
  dsimp only at hci
  obtain ⟨lx, hlx, hxo⟩ := hxo
  have hlxl : lx.length = xl.length := by rw [← hlx, yaf]
  have hge := zaZ xl
  have hci2 : 2 * xl.length ≤ 20000000 := by unfold cntP at hci; omega
  have hdl := zrt (w := W3) lx 198 (.pointer (some ⟨b7, 0, none⟩)) (fun y => decide (y.p.doc ∈ dead)) hxo.row OM (fun _ _ => rfl) (fun y hy w' k => tw_1 dead y (gW.keep k (zac hxo.row gW.v (by decide)) (fun e => by
   obtain ⟨_, _, _, hBq, _⟩ := zat hxo.row e; omega)))
  have hfl : (lx.filter fun y => !decide (y.p.doc ∈ dead)).map (·.p) = liveP dead xl := by
   rw [← hlx]; unfold liveP; rw [List.filter_map]; rfl
  have hfle : (lx.filter fun y => !decide (y.p.doc ∈ dead)).length ≤ lx.length := yaK _ _
  refine GW ?_
  refine Ya (Tryz.call126 _ _) hdl ?_
  rintro e W4 ⟨v4, rfl, o4, k4, hob⟩
  obtain ⟨a4, c4, rfl⟩ := zab o4
  have i2 := i2.keep k4 (zac hxo.row i2 (by decide))
  have i3 := zad (D := [141]) i3 k4 (zaC hxo.row (by decide)) (by decide)
  have v13 := v13.keep k4 (zac hxo.row v13 (by decide))
  have hoB : ∀ q, own_ (.slice ax xl.length cx) q → D + 2 ≤ q := fun q e => by
   obtain ⟨_, _, _, hBq, _⟩ := zat hxo.row e; exact hBq
  have op4 : OwP W4 (D + 2) (.slice a4 (lx.filter fun y => !decide (y.p.doc ∈ dead)).length c4) (lx.filter fun y => !decide (y.p.doc ∈ dead)) := ⟨o4, fun y hy => zad (D := [3]) (hxo.pl y ((yav.1 hy).1)) k4 (zaC hxo.row (by decide)) (by decide)⟩
  have kA : Kp W W4 (fun q => D + 1 ≤ q) := (kW3.mono fun q _ e => by have e : q = D + 1 := e; omega).trans' (k4.mono fun q _ e => by have := hoB q e; omega)
  have kB : Kp W3 W4 (fun q => D + 2 ≤ q) := k4.mono fun q _ e => hoB q e
  have z4 := kA.size
  have hm1 : (pre ++ [(xt, Value.slice ax xl.length cx, xl)]).map miF = pre.map miF ++ [(xt, xl)] := by rw [yaL]; rfl
  clear hdl hxo o4 k4 hob
  generalize hFL : (lx.filter fun y => !decide (y.p.doc ∈ dead)) = FL at *
  have a10 := i2.at
  have a13 := v13.at
  have q4 := Yb W4 n_
  refine RT ?_
  by_cases h0 : FL.length = 0
  ·have hnil : liveP dead xl = [] := by rw [← hfl, yan h0]; rfl
   refine KGO ?_
   refine ⟨⟨Rec2.of kB OM (show ¬ D + 2 ≤ w18.heap.size by omega) (show ¬ D + 2 ≤ w18.heap.size + 1 by omega), ⟨i1.trans kA fun q hq e => (by exfalso; have e : D + 1 ≤ q := e; omega), vt, i2, ?_⟩, fun q hq => kA.block q (by rcases hq with e | e <;> omega) (by rcases hq with e | e <;> omega)⟩⟩
   rw [hm1, List.filterMap_append]
   rw [show [(xt, xl)].filterMap (termOf dead) = [] by simp [termOf, hnil], yaA]
   exact i3
  have hne : liveP dead xl ≠ [] := by rw [← hfl]; intro e; have := congrArg List.length e; rw [yaf] at this; exact h0 this
  have htm : [(xt, xl)].filterMap (termOf dead) = [⟨xt.field, xt.word, encP (liveP dead xl)⟩] := by simp [termOf, hne]
  obtain ⟨av, cv, rfl⟩ := zab i3
  generalize hTL : (pre.map miF).filterMap (termOf dead) = TL at *
  have hTLl : TL.length ≤ 2000000000 := by
   have h1 := congrArg List.length hrest
   rw [yaa] at h1
   have h2 := zmo A.terms B.terms
   have h3 : TL.length ≤ (pre.map miF).length := by rw [← hTL]; exact ybI _ _
   have := sva.t
   have := svb.t
   omega
  have hcl : cntP (liveP dead xl) ≤ 20000000 := yaw (zdq _ xl) hci
  have hFLl : FL.length ≤ 1000000000 := OM
  clear hrest hge hE
  refine KGO ?_
  have kd4 := (Yb W4 n_).drew
  refine Yh (fun u => Kp W4 u (own_ (.slice av TL.length cv))) (fun _ => true) (by simp) (by decide +kernel) (by decide +kernel) kd4.of_none ?_
  refine GW ?_
  refine KGO ?_
  refine Yf (by rfl) (fun u hu => (i2.keep hu (zac i3 i2 (by decide))).at 0 _ rfl) ?_
  refine KGO ?_
  refine Yf (by rfl) (fun u hu => (v13.keep hu hvb).at 0 _ rfl) ?_
  refine KGO ?_
  refine Yf (by rfl) (fun u hu => (v13.keep hu hvb).at 1 _ rfl) ?_
  refine KGO ?_
  have hen := zdZ (w := W4.drew) (FL.map (·.p)) ⟨FL, rfl, (op4.keep kd4).rd⟩ (by rw [List.length_map]; omega) (fun p hp => by have := zbj _ p hp; rw [hfl] at this; unfold cntP at hcl; omega) (by rw [hfl]; unfold cntP at hcl; omega)
  rw [hfl] at hen
  refine Ya (Tryz.call142 _ _) hen ?_
  rintro e W5 ⟨rfl, k5⟩
  have k45 : Kp W4 W5 n_ := kd4.trans0 k5
  refine RT ?_
  refine ⟨k45.of_none, ?_⟩
  refine KGO ?_
  refine Ye (zig _ _ _ _) ?_
  refine KGO ?_
  refine Ye (bs1Tm ⟨xt.field, xt.word, encP (liveP dead xl)⟩ _) ?_
  obtain ⟨a_b14, v_b14, k_W6, z_W6, r_W6⟩ := new5 W5 141 (tmC ⟨xt.field, xt.word, encP (liveP dead xl)⟩)
  generalize W5.alloc (.cells (List.toArray (tmC ⟨xt.field, xt.word, encP (liveP dead xl)⟩)) 141) = W6 at *
  generalize hs_b14 : W5.heap.size = b14 at *
  have k46 := k45.trans0 k_W6
  have i36 := own_keep0 i3 k46
  have i26 := i2.keep0 k46
  have z6 := k46.size
  refine ⟨k46.of_none, ?_⟩
  refine KGO ?_
  refine tyTm.app1 (⟨xt.field, xt.word, encP (liveP dead xl)⟩ : Trm) i36 OM a_b14 OM OM fun v7 W7 o7 k7 => ?_
  have i27 := i26.keep k7 (zac i36 i26 (by decide))
  obtain ⟨a7, c7, rfl⟩ := zab o7
  refine ⟨(k46.of_none).trans' k7, ?_⟩
  refine KGO ?_
  refine Yd (i := 0) i27 (by simp) (by rfl) ⟨rfl, by simp, by simp⟩ fun W8 v8 k8 => ?_
  have o8 := zad (D := [141]) o7 k8 (zag i27 (by decide)) (by decide)
  have hoV : ∀ q, own_ (.slice av TL.length cv) q → D + 2 ≤ q := fun q e => by
   obtain ⟨_, _, _, hBq, _⟩ := zat i36 e; exact hBq
  have k48 : Kp W4 W8 (fun q => D + 2 ≤ q ∨ q = b10) := ((k46.of_none).trans' (k7.mono fun q _ e => .inl (hoV q e))).trans' (k8.mono fun q _ e => .inr e)
  refine KGO ?_
  refine ⟨⟨Rec2.of ((kB.mono fun q _ e => .inl e).trans' k48) OM (by rintro (e | e) <;> omega) (by rintro (e | e) <;> omega), ⟨?_, _, v8, ?_⟩, fun q hq => ?_⟩⟩
  ·exact (i1.trans (c := one_ b10) kA fun q hq e => (by exfalso; have e : D + 1 ≤ q := e; omega)).trans k48 fun q hq e => by
    rcases e with e | e
    ·exfalso; omega
    exact e
  ·rw [hm1, List.filterMap_append, htm, hTL]
   exact o8
  have h1 := kA.block q (by rcases hq with e | e <;> omega) (by rcases hq with e | e <;> omega)
  have h2 := k48.block q (by rcases hq with e | e <;> omega) (by rcases hq with e | e <;> rintro (f | f) <;> omega)
  exact h2.trans h1
 ·rintro xs W hS ⟨i1, vt, i2, i3⟩ hsz hdf
  have hfin : (xs.map miF).filterMap (termOf dead) = (zaE A.terms B.terms).filterMap (termOf dead) := by rw [hS]
  rw [hfin] at i3
  obtain ⟨av, cv, rfl⟩ := zab i3
  generalize (zaE A.terms B.terms).filterMap (termOf dead) = TL at *
  have a10 := i2.at
  have q4 := Yb W n_
  have v6W := vr6.keep i1 (show ¬ b6 = b10 by omega)
  have o17W := zad (D := [3]) o17 i1 (zag v17 (by decide)) (by decide)
  have KW : Kp w W n_ := keeps_new K17 i1 OM
  clear hfin hE sva svb rd0 g vr3 vr4 vr6 hS
  refine GW ?_
  refine KGO ?_
  refine SVK (sgC ⟨⟨av, TL.length, cv⟩, ⟨aD, DD.length, cD⟩⟩) v6W fun W2 v2 k2 => ?_
  have KW2 := keeps_new KW k2 OM
  have a2 := v2.at
  have q2 := Yb W2 n_
  refine KGO ?_
  have hdf2 : W2.heap[w18.heap.size]? = some (.deferred (some [])) := (k2.block _ OM (show ¬ w18.heap.size = b6 by omega)).trans hdf
  have hAll : AllD [w18.heap.size] W2 := ⟨by simp, fun q hq => by rw [yac.1 hq]; exact hdf2⟩
  refine ⟨hAll, fun wz kz => ?_⟩
  have hnD : ∀ Ds : List TypeId, ∀ q, q < W2.heap.size → q ∈ [w18.heap.size] → notD Ds W2 q := fun Ds q _ hq cs T z hh => by
   rw [yac.1 hq, hdf2] at hh; cases hh
  have vz := v2.keep kz (fun h => by have h := yac.1 h; omega)
  have az := vz.at
  have qz := Yb wz n_
  have oz := zad (D := [3]) (zad (D := [3]) o17W k2 (zag v6W (by decide)) (by decide)) kz (hnD _) (by decide)
  have iz := zad (D := [141]) (zad (D := [141]) i3 k2 (zag v6W (by decide)) (by decide)) kz (hnD _) (by decide)
  have Kz : Kp w wz n_ := KW2.trans kz fun q hq e => by have e := yac.1 e; omega
  refine GW ?_
  refine KGO ?_
  refine GW ?_
  exact ⟨⟨⟨av, TL.length, cv⟩, ⟨aD, DD.length, cD⟩⟩, rfl, ⟨own_base iz OM, own_base oz OM⟩, Kz⟩
 rintro c pre W h; exact h.elim
end
end Go.Proofs.YtennokckmjcefaaGreatDoor
namespace Go.Mg
open Go.Cs Go.Lib Go.Cd
structure Bd (s : Sgm) (d t c : Nat) : Prop where
 d : s.docs.length ≤ d
 t : s.terms.length ≤ t
 x : ∀ z ∈ s.terms, z.word.length ≤ 10000000 ∧ z.list.length ≤ 9 * c + 9 + c ∧ cntP (plT z) ≤ c
theorem bd_nil (d t c : Nat) : Bd ⟨[], []⟩ d t c := ⟨yal _, yal _, fun z h => by cases h⟩
theorem Bd.mono {s : Sgm} {d t c d' t' c' : Nat} (h : Bd s d t c) (h1 : d ≤ d') (h2 : t ≤ t') (h3 : c ≤ c') : Bd s d' t' c' :=
 ⟨by have := h.d; omega, by have := h.t; omega, fun z hz => by have := h.x z hz; exact ⟨this.1, OM, OM⟩⟩
theorem Bd.valid {s : Sgm} {d t c : Nat} (h : Bd s d t c) : Bd (validS s) d t c := by
 unfold validS
 split
 ·exact h
 exact bd_nil _ _ _
theorem zjZ (f : Int) (wd : List UInt8) (l : List Pst) : cntP (plT ⟨f, wd, encP l⟩) ≤ cntP l := by
 unfold plT
 dsimp only
 cases h : zan l with
 | true => rw [zes h]; exact yag _
 | false =>
  have : encP l = [] := by unfold encP; rw [h]; rfl
  rw [this]
  exact yal _
theorem znF {a b : Nat} {x y : List Trm} (hx : ∀ t ∈ x, cntP (plT t) ≤ a) (hy : ∀ t ∈ y, cntP (plT t) ≤ b) : ∀ z ∈ zaE x y, cntP z.2 ≤ a + b ∧ (z.1 ∈ x ∨ z.1 ∈ y) := by
 intro z hz
 obtain ⟨⟨o1, o2⟩, hm, rfl⟩ := yay.1 hz
 obtain ⟨h1, h2, h3⟩ := (zaN cmpT x y).1 _ hm
 dsimp only at h1 h2 h3
 cases o1 with
 | none =>
  cases o2 with
  | none => simp at h1
  | some t =>
   have a := hy t (h3 t rfl)
   refine ⟨?_, .inr (h3 t rfl)⟩
   show cntP (orP [] (plT t)) ≤ _
   rw [zeG]; omega
 | some s =>
  have a := hx s (h2 s rfl)
  cases o2 with
  | none =>
   refine ⟨?_, .inl (h2 s rfl)⟩
   show cntP (orP (plT s) []) ≤ _
   rw [zeI]; omega
  | some t =>
   have c := hy t (h3 t rfl)
   refine ⟨?_, .inr (h3 t rfl)⟩
   show cntP (orP (plT s) (plT t)) ≤ _
   have := zeQ _ (plT s) (plT t) (yag _)
   omega
theorem zrM {a b : Sgm} {d1 t1 c1 d2 t2 c2 : Nat} (ha : Bd a d1 t1 c1) (hb : Bd b d2 t2 c2) (dead : List Int) : Bd (twoS a b dead) (d1 + d2) (t1 + t2) (c1 + c2) := by
 have ha := ha.valid
 have hb := hb.valid
 unfold twoS
 generalize validS a = A at *
 generalize validS b = B at *
 refine ⟨?_, ?_, fun z hz => ?_⟩
 ·refine yaw (zix _) (yaw (yaK _ _) ?_)
  rw [yaa]
  have := ha.d; have := hb.d; omega
 ·refine yaw (ybI _ _) ?_
  unfold zaE
  rw [yaf]
  have := (zaN cmpT A.terms B.terms).2
  have := ha.t; have := hb.t; omega
 obtain ⟨y, hy, he⟩ := List.mem_filterMap.1 hz
 obtain ⟨h1, h2⟩ := znF (fun t ht => (ha.x t ht).2.2) (fun t ht => (hb.x t ht).2.2) y hy
 unfold termOf at he
 split at he
 ·cases he
 injection he with he
 subst he
 have h3 : cntP (liveP dead y.2) ≤ c1 + c2 := yaw (zdq _ _) h1
 have h4 := zcT (liveP dead y.2)
 refine ⟨?_, ?_, yaw (zjZ _ _ _) h3⟩
 ·rcases h2 with h2 | h2
  ·exact (ha.x _ h2).1
  exact (hb.x _ h2).1
 unfold cntP at h3
 dsimp only; omega
def lookS (s : Sgm) (field : Int) (p : List UInt8 → Bool) : List Pst := if rightS s = true then (s.terms.filter fun t => (decide (field = 0) || decide (field = t.field)) && p t.word).foldl (fun o t => orP o (plT t)) [] else []
theorem zhB {c : Nat} : ∀ (l : List Trm) (o : List Pst) (b : Nat), cntP o ≤ b → (∀ t ∈ l, cntP (plT t) ≤ c) → cntP (l.foldl (fun o t => orP o (plT t)) o) ≤ b + l.length * c
 | [], o, b, h, _ => by simpa using h
 | t :: l, o, b, h, hl => by
  have h1 := zeQ _ o (plT t) (yag _)
  have h2 := hl t yae
  have := zhB l (orP o (plT t)) (b + c) OM fun x hx => hl x (yai _ hx)
  rw [ybC, yab, ybB, Nat.one_mul]
  omega
def szI (n : Int) : Int := min (max n 0) 1099511627776
def sz2 (l : List Int) (i : Nat) : Int := szI (l.getD i 0) + szI (l.getD (i + 1) 0)
def zaU (l : List Int) (best : Option Nat) (i : Nat) : Option Nat :=
 if l.length ≤ 8 ∧ szI (l.getD i 0) > 2 * szI (l.getD (i + 1) 0) then best
 else match best with
  | none => some i
  | some b => if sz2 l i < sz2 l b then some i else some b
def pickL (l : List Int) : Option Nat := (List.range (l.length - 1)).foldl (zaU l) none
def bestI : Option Nat → Int
 | none => -1
 | some i => (i : Nat)
theorem zju (l : List Int) : ∀ n, ∀ b, (List.range n).foldl (zaU l) none = some b → b < n
 | 0, b, h => by cases h
 | n + 1, b, h => by
  rw [List.range_succ, List.foldl_append] at h
  have ih := zju l n
  generalize (List.range n).foldl (zaU l) none = o at *
  have h : zaU l o n = some b := h
  unfold zaU at h
  split at h
  ·have := ih b h; omega
  split at h
  ·injection h with h; omega
  split at h
  ·injection h with h; omega
  have := ih b h; omega
end Go.Mg
namespace Go.Proofs.YtennokckmjcefaaGreatDoor
open Go.Shelf Go.RowKit Go.Pw Go.Vc Go.Cs Go.Lib Go.Cd Go.Mg
abbrev sgP (p : Sv × Sgm) : List Value := sgC p.1
theorem zlv {s : Sgm} {d t c : Nat} (h : Bd s d t c) (h1 : d ≤ 1000000000) (h2 : t ≤ 1000000000) (h3 : c ≤ 900000) : SmS s :=
 ⟨by have := h.d; omega, by have := h.t; omega, fun z hz => by have := h.x z hz; exact ⟨this.1, OM⟩⟩
end Go.Proofs.YtennokckmjcefaaGreatDoor
