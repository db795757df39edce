/- Helper text of this claim: lemmas and contracts that the proved statement rests on; no conditions of its own. -/
import Derived.Test.YtcplagfblmemhaaGreatDoorGCz8
namespace Go.Proofs.YtcplagfblmemhaaGreatDoor
set_option linter.unusedVariables false
set_option maxHeartbeats 16000000
open Go.Shelf Go.RowKit Go.Pw Go.Vc Go.Cs Go.Lib Go.Cd Go.Cx
set_option linter.unusedVariables false
set_option maxRecDepth 100000
theorem zmF (x y : Sc) (a b : Operand) {K : Value → World → Prop} {w : World} (k : K (.bool (decide (x = y))) w) :
  RunV Tryz.prog (do eqGuard .eql 49 a b (.agg (srcC x).toArray) (.agg (srcC y).toArray); binOp .eql 49 (.agg (srcC x).toArray) (.agg (srcC y).toArray)) w K := by
 refine RunV.of ?_ k
 rw [Sem.run_bind, run_eqGuard_agg w .eql 49 a b _ _ (by kernel_rfl), Result.andThen_ok, run_eql_struct]
 rw [show (10000 : Nat) = 9999 + 1 from rfl, eqlSrc x y w]
 simp only [Result.andThen_ok]
section
variable {w : World}
theorem zkt {v : Value} (l : List Opr) (at_ : Int) (hv : RowOp w v l) (hl : l.length ≤ 1000000000000) (hf : ∀ o ∈ l, FitO o) (hat : -9223372036854775808 ≤ at_ ∧ at_ ≤ 9223372036854775807) (hE : BEnv w) :
  Calls Tryz.prog 3 #[v, .int .i64 at_] w fun e w' => e = .returned (.bool true) ∧ Kp w w' n_ := by
 obtain ⟨hat1, hat2⟩ := hat
 have hv0 := hv
 obtain ⟨lv, hlv, hr, hop⟩ := hv
 have hlen : lv.length = l.length := by rw [← hlv, List.length_map]
 obtain ⟨a, cap, rfl, hr⟩ := hr
 refine zab (args := [.slice a lv.length cap, .int .i64 at_]) Tryz.func3 rfl NL ?_; refine GW ?_
 refine CallS.of (Tryz.call6 _ _) (zde (w := w)) ?_
 rintro e w1 ⟨rfl, k1⟩
 refine RT ?_
 refine KGO ?_
 refine CallS.of (Tryz.call7 _ _) (zed (w := w1) l (zbb hv0 k1) hl) ?_
 rintro e w2 ⟨⟨q, rfl, hq⟩, k2⟩
 have K2 := k1.trans0 k2
 refine RT ?_
 cases q with
 | false =>
  refine KGO ?_
  exact ⟨rfl, K2⟩
 | true =>
 have h40 : l.length ≤ 40 := hq rfl
 clear hq
 refine KGO ?_
 refine CallS.of (Tryz.call8 _ _) (zcY (w := w2) l 256 (zbb hv0 K2) h40 hf (by omega) (by omega) (hE.keep K2)) ?_
 rintro e w3 ⟨s, nb, H, rfl, hH, hacc, hnb1, hnb2, hHl, k3⟩
 have K3 := K2.trans0 k3
 have hH0 : 0 < H.length := by have := hH.chain.ne; rwa [List.length_map] at this
 clear hr hop hv0
 obtain ⟨sa, sn, sc⟩ := s
 obtain rfl : sn = H.length := zbj hH.own
 clear hacc
 refine RT ?_
 refine KGO ?_
 refine Store.fresh (vs := [.slice sa H.length sc, .pointer (some ⟨nb, 0, none⟩)]) (by rfl) rfl (zam (by rfl)) ?_
 obtain ⟨a_b8, k_w4, z_w4⟩ := new3 w3 28 ([.slice sa H.length sc, .pointer (some ⟨nb, 0, none⟩)])
 generalize w3.alloc (.cells (List.toArray ([.slice sa H.length sc, .pointer (some ⟨nb, 0, none⟩)])) 28) = w4 at *
 generalize hs_b8 : w3.heap.size = b8 at *
 have hH := hH.keep0 k_w4
 have K4 := K3.trans0 k_w4
 refine KGO ?_
 by_cases c3 : at_ < 0
 ·refine KGO ?_
  exact ⟨rfl, K4⟩
 obtain ⟨p, rfl⟩ := Int.eq_ofNat_of_zero_le (show 0 ≤ at_ by omega)
 by_cases c4 : H.length ≤ p
 ·refine KGO ?_
  exact ⟨rfl, K4⟩
 obtain ⟨hg, rfl, hgB, hgl, hrow⟩ := zcg hH.own hH0
 have hold : At w4 hg (0 + p * 8) (accCp H[p]) := zbm (enc := accCp) hrow (fun _ => rfl) (by omega)
 have hnow : At w4 hg (0 + (H.length - 1) * 8) (accCp H[H.length - 1]) := zbm (enc := accCp) hrow (fun _ => rfl) (by omega)
 have kr4 := Kp.refl w4 n_
 clear hrow
 obtain ⟨net, hP⟩ := hH.pick (by omega) hHl (show p < H.length by omega)
 generalize H[H.length - 1] = N at *
 generalize H[p] = O at *
 obtain ⟨oh, O⟩ := O
 obtain ⟨nh, N⟩ := N
 dsimp only [accCp] at hP hold hnow
 refine KGO ?_
 refine Store.fresh (vs := accC oh O) (by rfl) rfl (zam (by rfl)) ?_
 obtain ⟨a_b10, k_w5, z_w5⟩ := new3 w4 36 (accC oh O)
 generalize w4.alloc (.cells (List.toArray (accC oh O)) 36) = w5 at *
 generalize hs_b10 : w4.heap.size = b10 at *
 have hnow := zad hnow k_w5
 refine KGO ?_
 have e1 : ((H.length : Int) - 1).toNat = H.length - 1 := by omega
 rw [e1]
 refine KGO ?_
 refine Store.fresh (vs := accC nh N) (by rfl) rfl (zam (by rfl)) ?_
 obtain ⟨a_b11, k_w6, z_w6⟩ := new3 w5 36 (accC nh N)
 generalize w5.alloc (.cells (List.toArray (accC nh N)) 36) = w6 at *
 generalize hs_b11 : w5.heap.size = b11 at *
 have K6 := (K4.trans0 k_w5).trans0 k_w6
 have hP := hP.keep0 (k_w5.trans0 k_w6)
 have a_b8 := zad a_b8 (k_w5.trans0 k_w6)
 have a_b10 := zad a_b10 k_w6
 have zh := hH.own.lt
 clear hold hnow hH e1 kr4
 have gO := hP.go
 have hOst := gO.top
 have hO0 := gO.st
 unfold M40 at hOst
 refine KGO ?_
 obtain ⟨B, vb, hsb, bkk, bk, hsm, hsi⟩ := hP.book
 have hse2 := hsi 2 (by decide) (by decide)
 have hse3 := hsi 3 (by decide) (by decide)
 rw [if_neg (by omega)] at hse2 hse3
 refine CallS.of (Tryz.call9 _ _) (zaJ (w := w6) bk hsm O.st 2 (by omega)) ?_
 rw [hse2]
 rintro e w7 ⟨⟨m, c, g, rfl, om, oc, og⟩, k7⟩
 dsimp only at om oc og ⊢
 have rm := zak om rfl
 have rc := zak oc rfl
 have rg := zak og rfl
 clear om oc og
 refine RT ?_
 refine KGO ?_
 refine Store.fresh (vs := [m.v, c.v, g.v, .int .i64 N.st]) (by rfl) rfl (zam (by rfl)) ?_
 obtain ⟨a_bd, k_w8, z_w8⟩ := new3 w7 39 ([m.v, c.v, g.v, .int .i64 N.st])
 generalize w7.alloc (.cells (List.toArray ([m.v, c.v, g.v, .int .i64 N.st])) 39) = w8 at *
 generalize hs_bd : w7.heap.size = bd at *
 have k68 := k7.trans0 k_w8
 have a_b8 := zad a_b8 k68
 have a_b10 := zad a_b10 k68
 have a_b11 := zad a_b11 k68
 refine KGO ?_
 refine CallS.of (Tryz.call9 _ _) (zaJ (w := w8) (bk.keep0 k68) hsm O.st 3 (by omega)) ?_
 rw [hse3]
 rintro e w9 ⟨⟨m3, c3, g3, rfl, om, oc, og⟩, k9⟩
 dsimp only at om oc og ⊢
 have rm3 := zak om rfl
 have rc3 := zak oc rfl
 have rg3 := zak og rfl
 have nm3 := zbj om
 have nc3 := zbj oc
 have ng3 := zbj og
 have hbx := hP.box
 have stN := hP.sn
 have stO := hP.so
 have gN := hP.gn
 have gO := hP.go
 have lM := hP.len 2 false true
 have lC := hP.len 2 true true
 have lG := hP.len 2 true false
 clear om oc og hse2 hse3 hsi hsm bk
 generalize net 2 false true = M at *
 generalize net 2 true true = C at *
 generalize net 2 true false = G at *
 generalize net 3 false true = M3 at *
 generalize net 3 true true = C3 at *
 generalize net 3 true false = G3 at *
 obtain ⟨m3a, m3n, m3c⟩ := m3
 obtain ⟨c3a, c3n, c3c⟩ := c3
 obtain ⟨g3a, g3n, g3c⟩ := g3
 obtain ⟨ma, mn, mc⟩ := m
 obtain ⟨ca, cn, cc⟩ := c
 obtain ⟨ga, gn, gc⟩ := g
 dsimp only at nm3 nc3 ng3
 have hm3 := hbx.m3
 have hg3 := hbx.g3
 have hc3 := hbx.c3
 have hc0 : C3.length ≤ 1 := by rcases hc3 with ⟨h, _⟩ | h <;> rw [h] <;> simp
 subst hm3 hg3
 dsimp only [List.length_nil] at nm3 ng3
 subst nm3 ng3 nc3
 refine RT ?_
 refine KGO ?_
 refine Store.fresh (vs := [.slice m3a 0 m3c, .slice c3a C3.length c3c, .slice g3a 0 g3c, .int .i64 N.st]) (by rfl) rfl (zam (by rfl)) ?_
 obtain ⟨a_be, k_w10, z_w10⟩ := new3 w9 39 ([.slice m3a 0 m3c, .slice c3a C3.length c3c, .slice g3a 0 g3c, .int .i64 N.st])
 generalize w9.alloc (.cells (List.toArray ([.slice m3a 0 m3c, .slice c3a C3.length c3c, .slice g3a 0 g3c, .int .i64 N.st])) 39) = w10 at *
 generalize hs_be : w9.heap.size = be at *
 have k810 := k9.trans0 k_w10
 have K10 : Kp w w10 n_ := ((K6.trans0 k7).trans0 k_w8).trans0 k810
 have a_bd := zad a_bd k810
 have a_b8 := zad a_b8 k810
 have a_b10 := zad a_b10 k810
 have a_b11 := zad a_b11 k810
 have rm := rm.keep (k_w8.trans0 k810)
 have rc := rc.keep (k_w8.trans0 k810)
 have rg := rg.keep (k_w8.trans0 k810)
 have rc3 := rc3.keep k_w10
 have k610 : Kp w6 w10 n_ := k68.trans0 k810
 have stN := stN.keep k610
 have stO := stO.keep k610
 have rbN := stN.read.b
 have rbO := stO.read.b
 have fO := fitZ gO
 have fN := fitZ gN
 have lbO := fO.bl
 have lbN := fN.bl
 have lsO := fO.sl
 have lsN := fN.sl
 obtain ⟨na, nc, hne, hnr⟩ := stN.read.b
 obtain ⟨oa, oc, hoe, hor⟩ := stO.read.b
 obtain ⟨nsa, nsc, hnse, hnsr⟩ := stN.read.s
 obtain ⟨osa, osc, hose, hosr⟩ := stO.read.s
 clear stN stO hP gN gO fO fN
 obtain ⟨⟨nBa, nBn, nBc⟩, nM, ⟨nSa, nSn, nSc⟩, nN⟩ := nh
 obtain ⟨⟨oBa, oBn, oBc⟩, oM, ⟨oSa, oSn, oSc⟩, oN⟩ := oh
 injection hne with q1 q2 q3
 injection hoe with q4 q5 q6
 injection hnse with q7 q8 q9
 injection hose with q10 q11 q12
 dsimp only at q1 q2 q3 q4 q5 q6 q7 q8 q9 q10 q11 q12
 subst q1 q2 q3 q4 q5 q6 q7 q8 q9 q10 q11 q12
 unfold accC at a_b10 a_b11
 dsimp only at a_b10 a_b11 rbN rbO
 have kr10 := Kp.refl w10 n_
 clear a_b8
 refine KGO ?_
 refine Loop.intro (ι := Nat) (fun i => [(5, .bool true), (8, .pointer (some ⟨b10, 0, none⟩)), (9, .pointer (some ⟨b11, 0, none⟩)), (10, .pointer (some ⟨bd, 0, none⟩)), (12, .pointer (some ⟨be, 0, none⟩)), (14, .int .i64 (i : Nat))])
  (fun i wr => Kp w10 wr n_ ∧ i ≤ N.boxes.length) (fun i => N.boxes.length - i) 0 ⟨rfl, rfl, rfl, rfl, rfl, rfl, trivial⟩ ⟨Kp.refl _ _, Nat.zero_le _⟩ ?_
 rintro i gg wr ⟨hK, hi⟩
 clear kr10
 refine GW ?_
 by_cases hlt : i < N.boxes.length
 ·obtain ⟨gb, o, rfl, hgb, hat⟩ := hnr (by omega)
  have kr := Kp.refl wr n_
  have hmm : N.boxes[i] ∈ N.boxes := List.getElem_mem hlt
  have f1 := hbx.made _ hmm
  have f2 := hbx.same _ hmm
  have hM : decide (N.boxes[i].id ∈ M) = !(findB O.boxes N.boxes[i].id).isSome := by
   cases h : findB O.boxes N.boxes[i].id with
   | none => exact decide_eq_true (f1.2 h)
   | some z => exact decide_eq_false fun hh => by rw [f1.1 hh] at h; cases h
  have rbOr := rbO.keep hK
  clear hnr hor hnsr hosr hc3 hat1 hat2 hl
  refine KGO ?_
  refine Draw.cut (ι := Nat × Bx) (fun q => [(5, .bool true), (8, .pointer (some ⟨b10, 0, none⟩)), (9, .pointer (some ⟨b11, 0, none⟩)), (10, .pointer (some ⟨bd, 0, none⟩)), (12, .pointer (some ⟨be, 0, none⟩)), (14, .int .i64 (i : Nat)), (15, .pointer (some ⟨q.1, 0, none⟩)), (16, .bool (findB O.boxes N.boxes[i].id).isSome)]) (fun q u => Kp wr u n_ ∧ VarK u q.1 44 (boxCells q.2) ∧ ∀ x, findB O.boxes N.boxes[i].id = some x → q.2 = x) ?_ ?_
  ·have kd : Kp wr (wr).drew n_ := (Kp.refl wr n_).drew
   refine Draw.ways (fun u => Kp wr u n_) (fun _ => true) [[0, 1, 2, 3, 4, 5, 6, 7, 8, 9, 10, 11, 12, 13, 14], [0, 1, 2, 3, 4, 5, 6, 7, 12, 8, 9, 10, 11, 13, 14]] (by decide +kernel) kd ?_
   intro L' hL'
   simp only [List.mem_cons, List.not_mem_nil, or_false] at hL'
   rcases hL' with rfl | rfl
   ·refine KGO ?_
    refine CallS.of (Tryz.call10 _ _) (zdH (w := (wr).drew) O.boxes N.boxes[i].id ((rbOr).keep kd) (by omega)) ?_
    rintro e y1 ⟨⟨bx, rfl, hbx⟩, k1⟩
    have J1 : Kp wr y1 n_ := kd.trans0 k1
    refine RT ?_
    refine ⟨J1, ?_⟩
    refine KGO ?_
    obtain ⟨a_bz, v_bz, k_y2, z_y2, r_y2⟩ := new5 y1 44 ([.int .i64 0, .int .i64 0, .string ⟨#[]⟩, .string ⟨#[]⟩])
    generalize y1.alloc (.cells (List.toArray ([.int .i64 0, .int .i64 0, .string ⟨#[]⟩, .string ⟨#[]⟩])) 44) = y2 at *
    generalize hs_bz : y1.heap.size = bz at *
    have J2 := J1.trans0 k_y2
    refine ⟨J2, ?_⟩
    refine KGO ?_
    refine SVK (boxCells bx) v_bz fun y3 v3 k3 => ?_
    have J3 : Kp wr y3 n_ := zan J2 k3 (by have := J1.size; omega)
    refine ⟨J3, ?_⟩
    refine KGO ?_
    exact ⟨(bz, bx), ⟨rfl, rfl, rfl, rfl, rfl, rfl, rfl, rfl, trivial⟩, J3, v3, hbx⟩
   ·refine KGO ?_
    obtain ⟨a_bz, v_bz, k_y2, z_y2, r_y2⟩ := new5 (wr).drew 44 ([.int .i64 0, .int .i64 0, .string ⟨#[]⟩, .string ⟨#[]⟩])
    generalize (wr).drew.alloc (.cells (List.toArray ([.int .i64 0, .int .i64 0, .string ⟨#[]⟩, .string ⟨#[]⟩])) 44) = y2 at *
    generalize hs_bz : (wr).drew.heap.size = bz at *
    have J2 : Kp wr y2 n_ := kd.trans0 k_y2
    refine ⟨J2, ?_⟩
    refine KGO ?_
    refine CallS.of (Tryz.call10 _ _) (zdH (w := y2) O.boxes N.boxes[i].id ((rbOr).keep J2) (by omega)) ?_
    rintro e y1 ⟨⟨bx, rfl, hbx⟩, k1⟩
    have J1 : Kp wr y1 n_ := J2.trans0 k1
    have v_bz := v_bz.keep0 k1
    refine RT ?_
    refine ⟨J1, ?_⟩
    refine KGO ?_
    refine SVK (boxCells bx) v_bz fun y3 v3 k3 => ?_
    have J3 : Kp wr y3 n_ := zan J1 k3 (by have := kd.size; omega)
    refine ⟨J3, ?_⟩
    refine KGO ?_
    exact ⟨(bz, bx), ⟨rfl, rfl, rfl, rfl, rfl, rfl, rfl, rfl, trivial⟩, J3, v3, hbx⟩
  rintro ⟨b15, y⟩ gg2 x3 ⟨kx3, v15, hy⟩
  dsimp only at v15 hy ⊢
  have J3 := hK.trans0 kx3
  have a15 := v15.at
  have kr3 := Kp.refl x3 n_
  have rmr := rm.keep J3
  have rcr := rc.keep J3
  clear kr
  generalize hfg : findB O.boxes N.boxes[i].id = fd at *
  clear hgb
  refine KGO ?_
  refine CallS.of (Tryz.call11 _ _) (zaa (w := x3.drew) M N.boxes[i].id (rmr.keep kr3.drew) (by omega)) ?_
  rintro e x4 ⟨rfl, kk⟩
  rw [hM]
  have k34 : Kp x3 x4 n_ := (kr3.drew).trans0 kk
  have J4 : Kp w10 x4 n_ := J3.trans0 k34
  have a15 := zad a15 k34
  have kr4 := Kp.refl x4 n_
  clear kk kr3
  refine RT ?_
  cases fd with
  | none =>
   refine KGO ?_
   exact ⟨i + 1, ⟨rfl, rfl, rfl, rfl, rfl, v_int (by simp), trivial⟩, ⟨J4, by omega⟩, by dsimp only; omega⟩
  | some z =>
   have hyz : y = z := hy z rfl
   subst hyz
   have hyid : y.id = N.boxes[i].id := by
    have := List.find?_some (p := fun b : Bx => decide (b.id = N.boxes[i].id)) hfg
    exact of_decide_eq_true this
   refine KGO ?_
   refine CallS.of (Tryz.call11 _ _) (zaa (w := x4) C y.id (rcr.keep k34) (by omega)) ?_
   rintro e x5 ⟨rfl, kk⟩
   have J5 : Kp w10 x5 n_ := J4.trans0 kk
   have a15 := zad a15 kk
   have kr5 := Kp.refl x5 n_
   clear kk kr4
   rw [hyid]
   by_cases hc : N.boxes[i].id ∈ C
   ·rw [decide_eq_true hc]
    refine RT ?_
    refine KGO ?_
    exact ⟨i + 1, ⟨rfl, rfl, rfl, rfl, rfl, v_int (by simp), trivial⟩, ⟨J5, by omega⟩, by dsimp only; omega⟩
   ·rw [decide_eq_false hc]
    have hsame : y = N.boxes[i] := f2 y rfl hc
    refine RT ?_
    refine KGO ?_
    refine zpx _ _ _ _ ?_
    rw [decide_eq_true hsame]
    refine KGO ?_
    exact ⟨i + 1, ⟨rfl, rfl, rfl, rfl, rfl, v_int (by simp), trivial⟩, ⟨J5, by omega⟩, by dsimp only; omega⟩
 have kr := Kp.refl wr n_
 have kJ := hK
 clear hnr rbO
 refine KGO ?_
 refine Loop.intro (ι := Nat) (fun i => [(5, .bool true), (8, .pointer (some ⟨b10, 0, none⟩)), (9, .pointer (some ⟨b11, 0, none⟩)), (10, .pointer (some ⟨bd, 0, none⟩)), (12, .pointer (some ⟨be, 0, none⟩)), (17, .int .i64 (i : Nat))])
  (fun i wr => Kp w10 wr n_ ∧ i ≤ O.boxes.length) (fun i => O.boxes.length - i) 0 ⟨rfl, rfl, rfl, rfl, rfl, rfl, trivial⟩ ⟨hK, Nat.zero_le _⟩ ?_
 clear kr kJ hK hlt hi gg wr i
 rintro i gg wr ⟨hK, hi⟩
 refine GW ?_
 by_cases hlt : i < O.boxes.length
 ·obtain ⟨gb, o, rfl, hgb, hat⟩ := hor (by omega)
  have kr := Kp.refl wr n_
  have hmm : O.boxes[i] ∈ O.boxes := List.getElem_mem hlt
  have f1 := hbx.gone _ hmm
  have hG : decide (O.boxes[i].id ∈ G) = !(findB N.boxes O.boxes[i].id).isSome := by
   cases h : findB N.boxes O.boxes[i].id with
   | none => exact decide_eq_true (f1.2 h)
   | some z => exact decide_eq_false fun hh => by rw [f1.1 hh] at h; cases h
  have rbNr := rbN.keep hK
  clear hor hnsr hosr hc3 hat1 hat2 hl
  refine KGO ?_
  refine Draw.cut (ι := Nat × Bx) (fun q => [(5, .bool true), (8, .pointer (some ⟨b10, 0, none⟩)), (9, .pointer (some ⟨b11, 0, none⟩)), (10, .pointer (some ⟨bd, 0, none⟩)), (12, .pointer (some ⟨be, 0, none⟩)), (17, .int .i64 (i : Nat)), (18, .pointer (some ⟨q.1, 0, none⟩)), (19, .bool (findB N.boxes O.boxes[i].id).isSome)]) (fun q u => Kp wr u n_ ∧ VarK u q.1 44 (boxCells q.2) ∧ ∀ x, findB N.boxes O.boxes[i].id = some x → q.2 = x) ?_ ?_
  ·have kd : Kp wr (wr).drew n_ := (Kp.refl wr n_).drew
   refine Draw.ways (fun u => Kp wr u n_) (fun _ => true) [[0, 1, 2, 3, 4, 5, 6, 7, 8, 9, 10, 11, 12, 13, 14], [0, 1, 2, 3, 4, 5, 6, 7, 12, 8, 9, 10, 11, 13, 14]] (by decide +kernel) kd ?_
   intro L' hL'
   simp only [List.mem_cons, List.not_mem_nil, or_false] at hL'
   rcases hL' with rfl | rfl
   ·refine KGO ?_
    refine CallS.of (Tryz.call10 _ _) (zdH (w := (wr).drew) N.boxes O.boxes[i].id ((rbNr).keep kd) (by omega)) ?_
    rintro e y1 ⟨⟨bx, rfl, hbx⟩, k1⟩
    have J1 : Kp wr y1 n_ := kd.trans0 k1
    refine RT ?_
    refine ⟨J1, ?_⟩
    refine KGO ?_
    obtain ⟨a_bz, v_bz, k_y2, z_y2, r_y2⟩ := new5 y1 44 ([.int .i64 0, .int .i64 0, .string ⟨#[]⟩, .string ⟨#[]⟩])
    generalize y1.alloc (.cells (List.toArray ([.int .i64 0, .int .i64 0, .string ⟨#[]⟩, .string ⟨#[]⟩])) 44) = y2 at *
    generalize hs_bz : y1.heap.size = bz at *
    have J2 := J1.trans0 k_y2
    refine ⟨J2, ?_⟩
    refine KGO ?_
    refine SVK (boxCells bx) v_bz fun y3 v3 k3 => ?_
    have J3 : Kp wr y3 n_ := zan J2 k3 (by have := J1.size; omega)
    refine ⟨J3, ?_⟩
    refine KGO ?_
    exact ⟨(bz, bx), ⟨rfl, rfl, rfl, rfl, rfl, rfl, rfl, rfl, trivial⟩, J3, v3, hbx⟩
   ·refine KGO ?_
    obtain ⟨a_bz, v_bz, k_y2, z_y2, r_y2⟩ := new5 (wr).drew 44 ([.int .i64 0, .int .i64 0, .string ⟨#[]⟩, .string ⟨#[]⟩])
    generalize (wr).drew.alloc (.cells (List.toArray ([.int .i64 0, .int .i64 0, .string ⟨#[]⟩, .string ⟨#[]⟩])) 44) = y2 at *
    generalize hs_bz : (wr).drew.heap.size = bz at *
    have J2 : Kp wr y2 n_ := kd.trans0 k_y2
    refine ⟨J2, ?_⟩
    refine KGO ?_
    refine CallS.of (Tryz.call10 _ _) (zdH (w := y2) N.boxes O.boxes[i].id ((rbNr).keep J2) (by omega)) ?_
    rintro e y1 ⟨⟨bx, rfl, hbx⟩, k1⟩
    have J1 : Kp wr y1 n_ := J2.trans0 k1
    have v_bz := v_bz.keep0 k1
    refine RT ?_
    refine ⟨J1, ?_⟩
    refine KGO ?_
    refine SVK (boxCells bx) v_bz fun y3 v3 k3 => ?_
    have J3 : Kp wr y3 n_ := zan J1 k3 (by have := kd.size; omega)
    refine ⟨J3, ?_⟩
    refine KGO ?_
    exact ⟨(bz, bx), ⟨rfl, rfl, rfl, rfl, rfl, rfl, rfl, rfl, trivial⟩, J3, v3, hbx⟩
  rintro ⟨b18, y⟩ gg2 x3 ⟨kx3, v18, hy⟩
  dsimp only at v18 hy ⊢
  have J3 := hK.trans0 kx3
  have kr3 := Kp.refl x3 n_
  have rgr := rg.keep J3
  clear kr hgb
  generalize hfg : findB N.boxes O.boxes[i].id = fd at *
  refine KGO ?_
  refine CallS.of (Tryz.call11 _ _) (zaa (w := x3.drew) G O.boxes[i].id (rgr.keep kr3.drew) (by omega)) ?_
  rintro e x4 ⟨rfl, kk⟩
  rw [hG]
  have J4 : Kp w10 x4 n_ := J3.trans0 ((kr3.drew).trans0 kk)
  clear kk kr3
  refine RT ?_
  cases fd with
  | none =>
   refine KGO ?_
   exact ⟨i + 1, ⟨rfl, rfl, rfl, rfl, rfl, v_int (by simp), trivial⟩, ⟨J4, by omega⟩, by dsimp only; omega⟩
  | some z =>
   refine KGO ?_
   exact ⟨i + 1, ⟨rfl, rfl, rfl, rfl, rfl, v_int (by simp), trivial⟩, ⟨J4, by omega⟩, by dsimp only; omega⟩
 have kr := Kp.refl wr n_
 have hs1 : C3 = [] → O.active = N.active ∧ O.scripts = N.scripts := fun e => by
  rcases hc3 with ⟨_, h⟩ | h
  ·exact h
  ·rw [h] at e; cases e
 clear hor rbN rm rc rg a_bd
 refine KGO ?_
 by_cases hac : str O.active = str N.active
 ·refine Br.dec_yes hac ?_
  refine GW ?_
  refine KGO ?_
  refine Loop.intro (ι := Bool × Nat) (fun i => [(5, .bool true), (8, .pointer (some ⟨b10, 0, none⟩)), (9, .pointer (some ⟨b11, 0, none⟩)), (12, .pointer (some ⟨be, 0, none⟩)), (20, .bool i.1), (21, .int .i64 (i.2 : Nat))])
   (fun i wr => Kp w10 wr n_ ∧ i.2 ≤ O.scripts.length ∧ (i.1 = true → O.scripts.length = N.scripts.length) ∧ (C3 = [] → i.1 = true)) (fun i => O.scripts.length - i.2) ((decide ((O.scripts.length : Int) = (N.scripts.length : Int))), 0) ⟨rfl, rfl, rfl, rfl, rfl, rfl, trivial⟩ ⟨hK, Nat.zero_le _, (fun e => by have e : ((O.scripts.length : Int) = (N.scripts.length : Int)) := of_decide_eq_true e; omega), (fun e => decide_eq_true (by rw [(hs1 e).2]))⟩ ?_
  clear kr hK hlt hi gg wr i
  rintro ⟨q, i⟩ gg wr ⟨hK, hi, hq1, hq2⟩
  dsimp only at hK hi hq1 hq2 ⊢
  have kr := Kp.refl wr n_
  have hend : Kp w wr n_ := K10.trans0 hK
  refine GW ?_
  cases q with
  | true =>
   have hln := hq1 rfl
   by_cases hlt : i < O.scripts.length
   ·obtain ⟨gb, o, rfl, hgb, hat⟩ := hosr (by omega)
    obtain ⟨gb2, o2, rfl, hgb2, hat2⟩ := hnsr (by omega)
    clear hosr hnsr rc3
    refine KGO ?_
    refine zmF _ _ _ _ ?_
    refine KGO ?_
    exact ⟨(_, i + 1), ⟨rfl, rfl, rfl, rfl, rfl, v_int (by simp), trivial⟩, ⟨hK.drew, by dsimp only; omega, fun _ => hln, fun e => decide_eq_true (by
     rcases hc3 with ⟨_, _, h⟩ | h
     ·simp only [h]
     ·rw [h] at e; cases e)⟩, by dsimp only; omega⟩
   ·clear hosr hnsr rc3
    refine KGO ?_
    exact ⟨rfl, hend⟩
  | false =>
   have hC : C3 = [0] := by
    rcases hc3 with ⟨h, _⟩ | h
    ·have := hq2 h; cases this
    ·exact h
   subst hC
   obtain ⟨a3, cp3, e3, hr3⟩ := rc3
   injection e3 with q1 q2 q3
   subst q1
   obtain ⟨ga, oa, rfl, hga, hata⟩ := hr3 (by decide)
   have ca := zcV (i := 0) hata (by decide)
   clear hosr hnsr
   refine KGO ?_
   refine Idx.lit (j := 0) rfl (by decide) ?_
   refine GW ?_
   refine KGO ?_
   exact ⟨rfl, hend⟩
 ·refine Br.dec_no hac ?_
  refine GW ?_
  refine KGO ?_
  refine Loop.intro (ι := Bool × Nat) (fun i => [(5, .bool true), (8, .pointer (some ⟨b10, 0, none⟩)), (9, .pointer (some ⟨b11, 0, none⟩)), (12, .pointer (some ⟨be, 0, none⟩)), (20, .bool i.1), (21, .int .i64 (i.2 : Nat))])
   (fun i wr => Kp w10 wr n_ ∧ i.2 ≤ O.scripts.length ∧ (i.1 = true → O.scripts.length = N.scripts.length) ∧ (C3 = [] → i.1 = true)) (fun i => O.scripts.length - i.2) (false, 0) ⟨rfl, rfl, rfl, rfl, rfl, rfl, trivial⟩ ⟨hK, Nat.zero_le _, (fun e => by cases e), (fun e => absurd (by rw [(hs1 e).1]) hac)⟩ ?_
  clear kr hK hlt hi gg wr i
  rintro ⟨q, i⟩ gg wr ⟨hK, hi, hq1, hq2⟩
  dsimp only at hK hi hq1 hq2 ⊢
  have kr := Kp.refl wr n_
  have hend : Kp w wr n_ := K10.trans0 hK
  refine GW ?_
  cases q with
  | true =>
   have hln := hq1 rfl
   by_cases hlt : i < O.scripts.length
   ·obtain ⟨gb, o, rfl, hgb, hat⟩ := hosr (by omega)
    obtain ⟨gb2, o2, rfl, hgb2, hat2⟩ := hnsr (by omega)
    clear hosr hnsr rc3
    refine KGO ?_
    refine zmF _ _ _ _ ?_
    refine KGO ?_
    exact ⟨(_, i + 1), ⟨rfl, rfl, rfl, rfl, rfl, v_int (by simp), trivial⟩, ⟨hK.drew, by dsimp only; omega, fun _ => hln, fun e => decide_eq_true (by
     rcases hc3 with ⟨_, _, h⟩ | h
     ·simp only [h]
     ·rw [h] at e; cases e)⟩, by dsimp only; omega⟩
   ·clear hosr hnsr rc3
    refine KGO ?_
    exact ⟨rfl, hend⟩
  | false =>
   have hC : C3 = [0] := by
    rcases hc3 with ⟨h, _⟩ | h
    ·have := hq2 h; cases this
    ·exact h
   subst hC
   obtain ⟨a3, cp3, e3, hr3⟩ := rc3
   injection e3 with q1 q2 q3
   subst q1
   obtain ⟨ga, oa, rfl, hga, hata⟩ := hr3 (by decide)
   have ca := zcV (i := 0) hata (by decide)
   clear hosr hnsr
   refine KGO ?_
   refine Idx.lit (j := 0) rfl (by decide) ?_
   refine GW ?_
   refine KGO ?_
   exact ⟨rfl, hend⟩
end
end Go.Proofs.YtcplagfblmemhaaGreatDoor
