/- Helper text of this claim: lemmas and contracts that the proved statement rests on; no conditions of its own. -/
import Derived.Test.YtcdpocffoapbeaaGreatDoorGMk1
namespace Go.Proofs.YtcdpocffoapbeaaGreatDoor
set_option linter.unusedVariables false
set_option maxHeartbeats 16000000
open Go.Shelf Go.RowKit Go.Pw Go.Vc Go.Cs Go.Lib Go.Cd Go.Mg
set_option linter.unusedVariables false
set_option maxRecDepth 100000
theorem build0Sm (w : World) : (Instr.build 31 #[]).run Tryz.prog w = .ok (.agg #[.slice none 0 0, .slice none 0 0]) w := by
 simp [Instr.build, Instr.fill, go_sem, Tryz.runUnderlying31]
theorem zaK (l : List Trm) (k : Int × List UInt8) (c : Nat) (h : ∀ t ∈ l, cntP (plT t) ≤ c) : cntP (postsT l k) ≤ c := by
 by_cases hz : postsT l k = []
 ·rw [hz]; exact Nat.zero_le _
 ·obtain ⟨t, ht, _, e⟩ := zdQ hz
  rw [← e]; exact h t ht
theorem zer {w w' : World} {g i : Nat} {v u : Value} (h : w.cell? ⟨g, i, none⟩ = some u) (k : Kp w w' (own_ v)) (hn : ¬ own_ v g) : w'.cell? ⟨g, i, none⟩ = some u := by
 have hlt := Go.Pw.cell_lt h
 unfold World.cell? at h ⊢
 dsimp only at h ⊢ hlt
 rw [k.block g hlt hn]; exact h
theorem zhi : CapK (.slice none 0 0) := fun a n c e => by injection e with _ e1 e2; omega
section
variable {w : World}
theorem zjQ {vd : Value} (ha hb : Sv) (a b : Sgm) (dead : List Int) (ra : RdS w ha a) (rb : RdS w hb b) (bA0 : Bd a 1000000 1000000 100000) (bB0 : Bd b 1000000 1000000 100000) (rd : RowI w vd dead) (hd : dead.length ≤ 1000000) :
  Calls Tryz.prog 16 #[.agg (sgC ha).toArray, .agg (sgC hb).toArray, vd] w fun e w' => ∃ h', e = .returned (.agg (sgC h').toArray) ∧ OwS w' w.heap.size h' (twoR a b dead) ∧ Kp w w' n_ := by
 have rd0 := rd
 obtain ⟨ad, cd, rfl, _⟩ := rd
 refine zaa (args := [.agg (sgC ha).toArray, .agg (sgC hb).toArray, .slice ad dead.length cd]) Tryz.func16 rfl NL ?_; refine GW ?_
 obtain ⟨a_b3, v_b3, k_w1, z_w1, r_w1⟩ := new5 w 31 (sgC ha)
 generalize w.alloc (.cells (List.toArray (sgC ha)) 31) = w1 at *
 generalize hs_b3 : w.heap.size = b3 at *
 obtain ⟨a_b4, v_b4, k_w2, z_w2, r_w2⟩ := new5 w1 31 (sgC hb)
 generalize w1.alloc (.cells (List.toArray (sgC hb)) 31) = w2 at *
 generalize hs_b4 : w1.heap.size = b4 at *
 obtain ⟨a_b6, v_b6, k_w3, z_w3, r_w3⟩ := new5 w2 31 ([.slice none 0 0, .slice none 0 0])
 generalize w2.alloc (.cells (List.toArray ([.slice none 0 0, .slice none 0 0])) 31) = w3 at *
 generalize hs_b6 : w2.heap.size = b6 at *
 have K3 := (k_w1.trans0 k_w2).trans0 k_w3
 have v3 := (v_b3.keep0 k_w2).keep0 k_w3
 have v4 := v_b4.keep0 k_w3
 have v6 := v_b6
 have hb36 : b3 < b4 ∧ b4 < b6 := by omega
 clear a_b3 a_b4 a_b6 v_b3 v_b4 v_b6 r_w1 r_w2 r_w3
 have a3 := v3.at
 have q3 := Kp.refl w3 n_
 refine KGO ?_
 refine CallS.of (Tryz.call39 _ _) (zfO (w := w3) ha a (ra.keep K3) (zgh bA0 (by decide) (by decide) (by decide)) (by have := bA0.d; omega)) ?_
 rintro e w4 ⟨rfl, k4⟩
 have v4' := v4.keep0 k4
 have a4 := v4'.at
 have q4 := Kp.refl w4 n_
 refine RT ?_
 refine KGO ?_
 refine CallS.of (Tryz.call39 _ _) (zfO (w := w4) hb b (rb.keep (K3.trans0 k4)) (zgh bB0 (by decide) (by decide) (by decide)) (by have := bB0.d; omega)) ?_
 rintro e w5 ⟨rfl, k5⟩
 have K5 := (K3.trans0 k4).trans0 k5
 have J35 := k4.trans0 k5
 have v3 := v3.keep0 J35
 have v4 := v4.keep0 J35
 have v6 := v6.keep0 J35
 have nilS : ∀ u, RdS u ⟨⟨none, 0, 0⟩, ⟨none, 0, 0⟩⟩ ⟨[], []⟩ := fun u => ⟨⟨none, 0, rfl, fun h => absurd h (Nat.lt_irrefl 0)⟩, ⟨none, 0, rfl, fun h => absurd h (Nat.lt_irrefl 0)⟩, zhi, zhi⟩
 clear v4' a3 a4 q3 q4 k4 k5 K3 J35 k_w1 k_w2 k_w3
 refine RT ?_
 unfold twoR
 cases hR : rightS a with
 | true =>
  rw [show validS a = a from if_pos hR]
  cases hS : rightS b with
  | true =>
   rw [show validS b = b from if_pos hS]
   obtain ⟨A, hA⟩ : ∃ A, A = a := ⟨_, rfl⟩
   obtain ⟨B, hB⟩ : ∃ B, B = b := ⟨_, rfl⟩
   have rw3 := ra
   have rw4 := rb
   rw [← hA] at rw3 bA0 ⊢
   rw [← hB] at rw4 bB0 ⊢
   have Kz := K5
   have z3 := v3
   have z4 := v4
   have z6 := v6
   have bA := bA0
   have bB := bB0
   clear bA0 bB0 K5 v3 v4 v6 hR hS hA hB ra rb nilS
   have hF : ∀ t : Trm, cntP (orF (postsT A.terms t.key) (postsT B.terms t.key)) ≤ 200000 := fun t => by
    rw [zeN (zao _ _) (zao _ _)]
    have h1 := zaK A.terms t.key 100000 fun t ht => (bA.x t ht).2.2
    have h2 := zaK B.terms t.key 100000 fun t ht => (bB.x t ht).2.2
    have := zdt _ (postsT A.terms t.key) (postsT B.terms t.key) (Nat.le_refl _)
    omega
   have dA := bA.d
   have dB := bB.d
   have tA := bA.t
   have tB := bB.t
   have z6l := z6.lt
   refine KGO ?_
   obtain ⟨a_b9, v_b9, k_wy, z_wy, r_wy⟩ := new5 w5 31 ([.slice none 0 0, .slice none 0 0])
   generalize w5.alloc (.cells (List.toArray ([.slice none 0 0, .slice none 0 0])) 31) = wy at *
   generalize hs_b9 : w5.heap.size = b9 at *
   have Ky := Kz.trans0 k_wy
   have z3 := z3.keep0 k_wy
   have z4 := z4.keep0 k_wy
   have z6 := z6.keep0 k_wy
   have y3 := z3.at
   have y4 := z4.at
   have qy := Kp.refl wy n_
   have v9 := v_b9
   have hb69 : b6 < b9 := by have := z6l; omega
   clear a_b9 v_b9 r_wy
   refine KGO ?_
   refine CallS.of (Tryz.call40 _ _) (zbN (w := wy) A.docs B.docs (rw3.keep Ky).d (rw4.keep Ky).d (by omega) (by omega)) ?_
   rintro e w10 ⟨v10, rfl, o10, k10⟩
   have K10 := Ky.trans0 k10
   have z3 := z3.keep0 k10
   have z4 := z4.keep0 k10
   have z6 := z6.keep0 k10
   have v9 := v9.keep0 k10
   have hUl := zbI B.docs A.docs
   obtain ⟨UN, hUN⟩ : ∃ UN, B.docs.foldl withL A.docs = UN := ⟨_, rfl⟩
   rw [hUN] at o10 hUl
   obtain ⟨a10, c10, rfl⟩ := zab o10
   clear y3 y4 qy k10 Ky Kz k_wy
   refine RT ?_
   refine KGO ?_
   refine Loop.intro (ι := Nat × Option Addr × Nat × List Int) (fun p => [(2, .slice ad dead.length cd), (3, .pointer (some ⟨b3, 0, none⟩)), (4, .pointer (some ⟨b4, 0, none⟩)), (6, .pointer (some ⟨b6, 0, none⟩)), (9, .pointer (some ⟨b9, 0, none⟩)), (10, .slice a10 UN.length c10), (11, .int .i64 (p.1 : Nat))])
    (fun p wr => Kp w10 wr (one_ b9) ∧ p.1 ≤ UN.length ∧ VarK wr b9 31 [.slice none 0 0, .slice p.2.1 p.2.2.2.length p.2.2.1] ∧ OwnI wr w10.heap.size (.slice p.2.1 p.2.2.2.length p.2.2.1) p.2.2.2 ∧ p.2.2.2 = (UN.take p.1).filter fun d => !decide (d ∈ dead)) (fun p => UN.length - p.1) (0, none, 0, []) ⟨rfl, rfl, rfl, rfl, rfl, rfl, rfl, trivial⟩ ⟨Kp.refl _ _, Nat.zero_le _, v9, World.ownsRow_nil _ _ _ _, rfl⟩ ?_
   rintro ⟨i, ao, co, FL⟩ gg wr ⟨hK, hi, v9r, ho, hFL⟩
   dsimp only at hi v9r ho hFL ⊢
   have hfl : FL.length ≤ i := by rw [hFL]; exact Nat.le_trans (List.length_filter_le _ _) (by rw [List.length_take]; exact Nat.min_le_left _ _)
   have hzr := hK.size
   have Kr : Kp w wr n_ := zah K10 hK (by omega)
   refine GW ?_
   by_cases hlt : i < UN.length
   ·have hts : (UN.take (i + 1)).filter (fun d => !decide (d ∈ dead)) = FL ++ if UN[i] ∈ dead then [] else [UN[i]] := by
     rw [hFL, List.take_succ_eq_append_getElem hlt, List.filter_append, List.filter_cons]
     by_cases h : UN[i] ∈ dead <;> simp [h]
    have o10r := zad (D := [3]) o10 hK (zaf v9 (by decide)) (by decide)
    obtain ⟨ga, ega, _, _, hata⟩ := zbH o10r (by omega)
    obtain rfl := ega
    have ci := zaX hata hlt
    refine KGO ?_
    refine CallS.of (Tryz.call19 _ _) (zdy (w := wr) dead UN[i] (rd0.keep Kr) (by omega)) ?_
    rintro e w11 ⟨rfl, k11⟩
    have K11 := hK.trans' k11.of_none
    have v11 := v9r.keep0 k11
    refine RT ?_
    by_cases hin : UN[i] ∈ dead
    ·rw [decide_eq_true hin]
     rw [if_pos hin, List.append_nil] at hts
     refine KGO ?_
     exact ⟨(i + 1, ao, co, FL), ⟨rfl, rfl, rfl, rfl, rfl, rfl, v_int (by simp), trivial⟩, ⟨K11, by dsimp only; omega, v11, zac ho k11, hts.symm⟩, by dsimp only; omega⟩
    ·rw [decide_eq_false hin]
     rw [if_neg hin] at hts
     have ci := zav ci k11
     have hnga : ¬ own_ (.slice ao FL.length co) ga := fun e => by
      obtain ⟨_, _, _, hB, _⟩ := zak ho e
      obtain ⟨_, _, _, _, hgl⟩ := zak o10 (q := ga) rfl
      omega
     have a11 := v11.at
     have q11 := Kp.refl w11 n_
     have ho11 := zac ho k11
     refine KGO ?_
     have kd := q11.drew
     refine Draw.heldEnd (fun u => Kp w11 u (own_ (.slice ao FL.length co))) (fun _ => true) (by simp) (by decide +kernel) (by decide +kernel) kd.of_none ?_
     refine GW ?_
     refine Held.one (by rfl) (fun u hu => (v11.keep hu (zae ho11 v11 (by decide))).at 1 _ rfl) ?_
     refine KGO ?_
     refine Held.one (by rfl) (fun u hu => zer ci hu hnga) ?_
     refine KGO ?_
     refine RunV.of (bs1I UN[i] _) ?_
     obtain ⟨a_b14, v_b14, k_w12, z_w12, r_w12⟩ := new5 w11.drew 3 (inC UN[i])
     generalize w11.drew.alloc (.cells (List.toArray (inC UN[i])) 3) = w12 at *
     generalize hs_b14 : w11.drew.heap.size = b14 at *
     have k12 := kd.trans0 k_w12
     have ho12 := zac ho11 k12
     have z12 := k12.size
     have z11 := K11.size
     refine ⟨k12.of_none, ?_⟩
     refine GW ?_
     refine tyI.app1 UN[i] ho12 (by omega) a_b14 (by omega) (by omega) fun v5' w13 o13 k13 => ?_
     obtain ⟨a13, c13, rfl⟩ := zab o13
     have K13 : Kp w11 w13 (own_ (.slice ao FL.length co)) := k12.of_none.trans' k13
     have v13 := v11.keep K13 (zae ho11 v11 (by decide))
     refine ⟨K13, ?_⟩
     refine GW ?_
     refine Store.cellK (i := 1) v13 (by simp) (by rfl) ⟨rfl, by simp, by simp⟩ fun w14 v14 k14 => ?_
     have o14 := zad (D := [3]) o13 k14 (zaf v13 (by decide)) (by decide)
     have K14 : Kp w10 w14 (one_ b9) := (K11.trans K13 fun q hq e => (by exfalso; obtain ⟨_, _, _, hB, _⟩ := zak ho11 e; omega)).trans' k14
     refine KGO ?_
     exact ⟨(i + 1, a13, c13, FL ++ [UN[i]]), ⟨rfl, rfl, rfl, rfl, rfl, rfl, v_int (by simp), trivial⟩, ⟨K14, by dsimp only; omega, v14, o14, hts.symm⟩, by dsimp only; omega⟩
   rw [List.take_of_length_le (by omega)] at hFL
   have z3 := z3.keep hK (show ¬ b3 = b9 by omega)
   have z4 := z4.keep hK (show ¬ b4 = b9 by omega)
   have z6 := z6.keep hK (show ¬ b6 = b9 by omega)
   have y3 := z3.at
   have y4 := z4.at
   have qr := Kp.refl wr n_
   have hn3 := RowO.len rw3.t
   have hn4 := RowO.len rw4.t
   clear o10 hK v9
   refine KGO ?_
   refine CallS.of (Tryz.call41 _ _) (zcT (w := wr) A.terms B.terms (rw3.keep Kr).t (rw4.keep Kr).t (by omega) (by omega)) ?_
   rintro e w12 ⟨v12, rfl, o12, k12⟩
   have K12 := Kr.trans0 k12
   have z3 := z3.keep0 k12
   have z4 := z4.keep0 k12
   have z6 := z6.keep0 k12
   have v9 := v9r.keep0 k12
   have ho := zac ho k12
   have hNl : (namesL A.terms B.terms).length ≤ A.terms.length + B.terms.length := by
    rw [zaT _ A.terms B.terms (Nat.le_refl _), List.length_map]; exact zco _ _
   obtain ⟨NL, hNL⟩ : ∃ NL, namesL A.terms B.terms = NL := ⟨_, rfl⟩
   rw [hNL] at o12 hNl
   obtain ⟨a12, c12, rfl⟩ := zab o12
   clear y3 y4 qr k12 Kr v9r
   refine RT ?_
   refine KGO ?_
   refine Loop.intro (ι := Nat × Option Addr × Nat × List Trm) (fun p => [(2, .slice ad dead.length cd), (3, .pointer (some ⟨b3, 0, none⟩)), (4, .pointer (some ⟨b4, 0, none⟩)), (6, .pointer (some ⟨b6, 0, none⟩)), (9, .pointer (some ⟨b9, 0, none⟩)), (12, .slice a12 NL.length c12), (13, .int .i64 (p.1 : Nat))])
    (fun p wq => Kp w12 wq (one_ b9) ∧ p.1 ≤ NL.length ∧ VarK wq b9 31 [.slice p.2.1 p.2.2.2.length p.2.2.1, .slice ao FL.length co] ∧ OwnR 56 tmC 3 wq w12.heap.size (.slice p.2.1 p.2.2.2.length p.2.2.1) p.2.2.2 ∧ OwnI wq w10.heap.size (.slice ao FL.length co) FL ∧ p.2.2.2 = (NL.take p.1).filterMap fun t => termOf dead (t, orF (postsT A.terms t.key) (postsT B.terms t.key))) (fun p => NL.length - p.1) (0, none, 0, []) ⟨rfl, rfl, rfl, rfl, rfl, rfl, rfl, trivial⟩ ⟨Kp.refl _ _, Nat.zero_le _, v9, World.ownsRow_nil _ _ _ _, ho, rfl⟩ ?_
   clear ho
   rintro ⟨j, aT, cT, TL⟩ gg2 wq ⟨hK, hj, v9q, ot, ho, hTL⟩
   dsimp only at hj v9q ot ho hTL ⊢
   have htl : TL.length ≤ j := by rw [hTL]; exact Nat.le_trans (List.length_filterMap_le _ _) (by rw [List.length_take]; exact Nat.min_le_left _ _)
   have hzq := hK.size
   have lt9 := v9.lt
   have Kq : Kp w wq n_ := zah K12 hK (by omega)
   have z3q := z3.keep hK (show ¬ b3 = b9 by omega)
   have z4q := z4.keep hK (show ¬ b4 = b9 by omega)
   refine GW ?_
   by_cases hjt : j < NL.length
   rotate_left
   ·rw [List.take_of_length_le (by omega)] at hTL
    have z6q := z6.keep hK (show ¬ b6 = b9 by omega)
    have a9 := v9q.at
    have qq := Kp.refl wq n_
    clear o12 hF
    refine KGO ?_
    refine Store.varK (P := Tryz.prog) (t := 31) [.slice aT TL.length cT, .slice ao FL.length co] z6q (by rfl) rfl (zaq (by rfl)) fun w15 v15 k15 => ?_
    have a15 := v15.at
    have q15 := Kp.refl w15 n_
    refine KGO ?_
    refine GW ?_
    refine ⟨⟨⟨aT, TL.length, cT⟩, ⟨ao, FL.length, co⟩⟩, rfl, ?_, zah Kq k15 (by omega)⟩
    rw [hUN, hNL, ← hTL, ← hFL]
    have z10 := K10.size
    have z12 := K12.size
    exact ⟨zar (zad (D := [56]) ot k15 (zaf z6q (by decide)) (by decide)) (by omega), zar (zad (D := [3]) ho k15 (zaf z6q (by decide)) (by decide)) (by omega)⟩
   have o12q := zad (D := [56]) o12 hK (zaf v9 (by decide)) (by decide)
   obtain ⟨gN, egN, _, _, hatN⟩ := zbH o12q (by omega)
   obtain rfl := egN
   have qq := Kp.refl wq n_
   refine KGO ?_
   have v14 := VarK.new wq 56 (tmC NL[j])
   refine Store.fresh (vs := tmC NL[j]) (by rfl) rfl (zaq (by rfl)) ?_
   obtain ⟨a_b14, k_w13, z_w13⟩ := new3 wq 56 (tmC NL[j])
   generalize wq.alloc (.cells (List.toArray (tmC NL[j])) 56) = w13 at *
   generalize hs_b14 : wq.heap.size = b14 at *
   have K13 := Kq.trans0 k_w13
   have z3q := z3q.keep0 k_w13
   have z4q := z4q.keep0 k_w13
   have kd := (Kp.refl w13 n_).drew
   clear a_b14 hatN qq
   refine KGO ?_
   refine Draw.held (fun u => Kp w13 u n_) (fun _ => true) (by decide +kernel) kd ?_
   refine GW ?_
   refine HeldG (sgC ha) (by rfl) (by rfl) (fun u hu => (z3q.keep0 hu).at) (by rfl) ?_
   refine GW ?_
   refine Held.one (by rfl) (fun u hu => (v14.keep0 hu).at 0 _ rfl) ?_
   refine GW ?_
   refine Held.one (by rfl) (fun u hu => (v14.keep0 hu).at 1 _ rfl) ?_
   refine GW ?_
   refine CallS.of (Tryz.call43 _ _) (zaQ (w := w13.drew) ha A NL[j].field NL[j].word (rw3.keep (K13.trans0 kd)).t (by omega) (fun t ht => by have := (bA.x t ht).2.1; omega)) ?_
   rintro e u1 ⟨p1, rfl, op1, j1⟩
   obtain ⟨pa1, pc1, rfl⟩ := op1.shape
   have J1 := kd.trans0 j1
   refine RT ?_
   refine ⟨J1, ?_⟩
   refine GW ?_
   refine HeldG (sgC hb) (by rfl) (by rfl) (fun u hu => (z4q.keep0 hu).at) (by rfl) ?_
   refine GW ?_
   refine Held.one (by rfl) (fun u hu => (v14.keep0 hu).at 0 _ rfl) ?_
   refine GW ?_
   refine Held.one (by rfl) (fun u hu => (v14.keep0 hu).at 1 _ rfl) ?_
   refine GW ?_
   refine CallS.of (Tryz.call43 _ _) (zaQ (w := u1) hb B NL[j].field NL[j].word (rw4.keep (K13.trans0 J1)).t (by omega) (fun t ht => by have := (bB.x t ht).2.1; omega)) ?_
   rintro e u2 ⟨p2, rfl, op2, j2⟩
   obtain ⟨pa2, pc2, rfl⟩ := op2.shape
   have J2 := J1.trans0 j2
   refine RT ?_
   refine ⟨J2, ?_⟩
   refine GW ?_
   have e1 := zaK A.terms (NL[j].field, NL[j].word) 100000 fun t ht => (bA.x t ht).2.2
   have e2 := zaK B.terms (NL[j].field, NL[j].word) 100000 fun t ht => (bB.x t ht).2.2
   have e3 : cntP (orF (postsT A.terms (NL[j].field, NL[j].word)) (postsT B.terms (NL[j].field, NL[j].word))) ≤ 200000 := hF NL[j]
   have f1 := zaD (postsT A.terms (NL[j].field, NL[j].word))
   have f2 := zaD (postsT B.terms (NL[j].field, NL[j].word))
   have g1 : ∀ p ∈ postsT A.terms (NL[j].field, NL[j].word), p.places.length ≤ 10000000 := fun p hp => by have := zaF _ p hp; unfold cntP at e1; omega
   have g2 : ∀ p ∈ postsT B.terms (NL[j].field, NL[j].word), p.places.length ≤ 10000000 := fun p hp => by have := zaF _ p hp; unfold cntP at e2; omega
   unfold cntP at e1 e2
   have hcall := zgH (w := u2) (postsT A.terms (NL[j].field, NL[j].word)) (postsT B.terms (NL[j].field, NL[j].word)) (op1.keep j2).row op2.row (by omega) (by omega) g1 g2
   refine CallS.of (Tryz.call42 _ _) hcall ?_
   rintro e u3 ⟨p3, rfl, op3, j3⟩
   obtain ⟨pa3, pc3, rfl⟩ := op3.shape
   have J3 := J2.trans0 j3
   refine RT ?_
   refine ⟨J3, ?_⟩
   have hFt : termOf dead (NL[j], orF (postsT A.terms NL[j].key) (postsT B.terms NL[j].key)) = termOf dead (NL[j], orF (postsT A.terms (NL[j].field, NL[j].word)) (postsT B.terms (NL[j].field, NL[j].word))) := rfl
   obtain ⟨X, hX⟩ : ∃ X, orF (postsT A.terms (NL[j].field, NL[j].word)) (postsT B.terms (NL[j].field, NL[j].word)) = X := ⟨_, rfl⟩
   rw [hX] at op3 e3 hFt ⊢
   have hXl := zaD X
   clear hcall e1 e2 f1 f2 g1 g2 op1 op2 hF j1 j2 j3 J1 J2 kd
   refine KGO ?_
   have e3' : (encN 0 X).length ≤ 200000 := e3
   refine CallS.of (Tryz.call44 _ _) (zcx (w := u3) X dead op3.row (rd0.keep (K13.trans0 J3)) (by omega) (by omega)) ?_
   rintro e u4 ⟨p4, rfl, op4, j4⟩
   obtain ⟨pa4, pc4, rfl⟩ := RowP.shape op4
   have J4 := J3.trans0 j4
   have K4 : Kp w12 u4 (one_ b9) := hK.trans' (k_w13.trans0 J4).of_none
   have kw4 := k_w13.trans0 J4
   have v9u := v9q.keep0 kw4
   have otu := zac ot kw4
   have hou := zac ho kw4
   have v14u := v14.keep0 J4
   have hb914 : b9 < b14 := by have := v9q.lt; omega
   have z4u := kw4.size
   have hts : (NL.take (j + 1)).filterMap (fun t => termOf dead (t, orF (postsT A.terms t.key) (postsT B.terms t.key))) = TL ++ (termOf dead (NL[j], X)).toList := by
    have h1 : ∀ F : Trm → Option Trm, (NL.take (j + 1)).filterMap F = (NL.take j).filterMap F ++ (F NL[j]).toList := fun F => by
     rw [List.take_succ_eq_append_getElem hjt, List.filterMap_append]
     cases h : F NL[j] <;> simp [h]
    rw [h1, ← hTL]
    show TL ++ (termOf dead (NL[j], orF (postsT A.terms NL[j].key) (postsT B.terms NL[j].key))).toList = _
    rw [show orF (postsT A.terms NL[j].key) (postsT B.terms NL[j].key) = X from hX]
   have hZc : (encN 0 (liveP dead X)).length ≤ 200000 := Nat.le_trans (zbu _ X) e3
   have hZl := zaD (liveP dead X)
   have hZp : ∀ p ∈ liveP dead X, p.places.length ≤ 17592186044416 := fun p hp => by have := zaF _ p hp; omega
   refine RT ?_
   by_cases hz : liveP dead X = []
   ·have hz0 : (liveP dead X).length = 0 := by rw [hz]; rfl
    rw [show termOf dead (NL[j], X) = none from if_pos hz] at hts
    have hts2 : (NL.take (j + 1)).filterMap (fun t => termOf dead (t, orF (postsT A.terms t.key) (postsT B.terms t.key))) = TL := hts.trans (List.append_nil _)
    clear hz hts hTL hFt hX hZp
    refine KGO ?_
    exact ⟨(j + 1, aT, cT, TL), ⟨rfl, rfl, rfl, rfl, rfl, rfl, v_int (by simp), trivial⟩, ⟨K4, by dsimp only; omega, v9u, otu, hou, hts2.symm⟩, by dsimp only; omega⟩
   have hz0 : 0 < (liveP dead X).length := List.length_pos_iff.2 hz
   rw [show termOf dead (NL[j], X) = some ⟨NL[j].field, NL[j].word, encP (liveP dead X)⟩ from if_neg hz] at hts
   have hts2 : (NL.take (j + 1)).filterMap (fun t => termOf dead (t, orF (postsT A.terms t.key) (postsT B.terms t.key))) = TL ++ [⟨NL[j].field, NL[j].word, encP (liveP dead X)⟩] := hts
   clear hz hts hTL hFt hX
   obtain ⟨Z, hZ⟩ : ∃ Z, liveP dead X = Z := ⟨_, rfl⟩
   rw [hZ] at op4 hz0 hts2 hZc hZl hZp ⊢
   refine KGO ?_
   refine CallS.of (Tryz.call45 _ _) (zbw (w := u4) Z op4 (by omega) hZp (by omega)) ?_
   rintro e u5 ⟨rfl, j5⟩
   have v14v := v14u.keep0 j5
   have v9v := v9u.keep0 j5
   refine RT ?_
   refine KGO ?_
   refine Store.cellK (i := 2) v14v (by simp [tmC]) (by rfl) ⟨rfl, by simp, by simp⟩ fun u6 v146 k6 => ?_
   have v146 : VarK u6 b14 56 (tmC ⟨NL[j].field, NL[j].word, encP Z⟩) := v146
   have K46 : Kp u4 u6 (one_ b14) := j5.of_none.trans' k6
   have v96 := v9u.keep K46 (show ¬ b9 = b14 by omega)
   have hn14 : ¬ own_ (.slice aT TL.length cT) b14 := fun e => by
    obtain ⟨_, _, _, _, hlt⟩ := zak ot e
    omega
   have ot6 := zay otu K46 (fun q hq e => hn14 (by have e : q = b14 := e; rw [← e]; exact hq))
   have ho6 := zad (D := [3]) hou K46 (fun q hq e => zaf v14u (by decide) q hq e) (by decide)
   have q6 := (Kp.refl u6 n_).drew
   clear v14v v9v K46 hn14
   have hn14 : ¬ own_ (.slice aT TL.length cT) b14 := fun e => by
    obtain ⟨_, _, _, _, hlt⟩ := zak ot e
    omega
   have a96 := v96.at
   have a146 := v146.at
   have q6r := Kp.refl u6 n_
   refine KGO ?_
   refine RunV.of (bs1Tm ⟨NL[j].field, NL[j].word, encP Z⟩ _) ?_
   obtain ⟨a_b15, v_b15, k_u7, z_u7, r_u7⟩ := new5 u6 56 (tmC ⟨NL[j].field, NL[j].word, encP Z⟩)
   generalize u6.alloc (.cells (List.toArray (tmC ⟨NL[j].field, NL[j].word, encP Z⟩)) 56) = u7 at *
   generalize hs_b15 : u6.heap.size = b15 at *
   have k7 := k_u7
   have ot7 := zac ot6 k7
   have z7 := k7.size
   have z6 := k6.size
   have z5 := j5.size
   refine KGO ?_
   refine tyTm.app1 (⟨NL[j].field, NL[j].word, encP Z⟩ : Trm) ot7 (by omega) a_b15 (by omega) (by omega) fun v8 u8 o8 k8 => ?_
   obtain ⟨a8, c8, rfl⟩ := zab o8
   have K78 : Kp u6 u8 (own_ (.slice aT TL.length cT)) := k7.of_none.trans' k8
   have v98 := v96.keep K78 (zae ot6 v96 (by decide))
   have ho8 := zad (D := [3]) ho6 K78 (zaC ot6 (by decide)) (by decide)
   refine KGO ?_
   refine Store.cellK (i := 0) v98 (by simp) (by rfl) ⟨rfl, by simp, by simp⟩ fun u9 v99 k9 => ?_
   have o9 := zad (D := [56]) o8 k9 (zaf v98 (by decide)) (by decide)
   have ho9 := zad (D := [3]) ho8 k9 (zaf v98 (by decide)) (by decide)
   have K49 : Kp w12 u9 (one_ b9) := (((K4.trans' j5.of_none).trans k6 fun q hq e => by
    exfalso
    have e : q = b14 := e
    omega).trans K78 fun q hq e => (by
    exfalso
    obtain ⟨_, _, _, hB, _⟩ := zak ot e
    omega)).trans' k9
   refine KGO ?_
   exact ⟨(j + 1, a8, c8, TL ++ [(⟨NL[j].field, NL[j].word, encP Z⟩ : Trm)]), ⟨rfl, rfl, rfl, rfl, rfl, rfl, v_int (by simp), trivial⟩, ⟨K49, by dsimp only; omega, v99, o9, ho9, hts2.symm⟩, by dsimp only; omega⟩
  | false =>
   rw [show validS b = ⟨[], []⟩ from if_neg (by rw [hS]; exact fun h => by cases h)]
   obtain ⟨A, hA⟩ : ∃ A, A = a := ⟨_, rfl⟩
   obtain ⟨B, hB⟩ : ∃ B : Sgm, B = ⟨[], []⟩ := ⟨_, rfl⟩
   have rw3 := ra
   have rw4 := nilS w
   have bA := bA0
   have bB : Bd (⟨[], []⟩ : Sgm) 1000000 1000000 100000 := zei _ _ _
   rw [← hA] at rw3 bA ⊢
   rw [← hB] at rw4 bB ⊢
   refine KGO ?_
   refine RunV.of (build0Sm _) ?_
   refine KGO ?_
   refine Store.varK [.slice none 0 0, .slice none 0 0] v4 (by rfl) rfl (zaq (by rfl)) fun w6 z4 k6 => ?_
   have Kz := zah K5 k6 (by omega)
   have z3 := v3.keep k6 (show ¬ b3 = b4 by omega)
   have z6 := v6.keep k6 (show ¬ b6 = b4 by omega)
   clear bA0 bB0 K5 v3 v4 v6 hR hS hA hB ra rb nilS k6
   have hF : ∀ t : Trm, cntP (orF (postsT A.terms t.key) (postsT B.terms t.key)) ≤ 200000 := fun t => by
    rw [zeN (zao _ _) (zao _ _)]
    have h1 := zaK A.terms t.key 100000 fun t ht => (bA.x t ht).2.2
    have h2 := zaK B.terms t.key 100000 fun t ht => (bB.x t ht).2.2
    have := zdt _ (postsT A.terms t.key) (postsT B.terms t.key) (Nat.le_refl _)
    omega
   have dA := bA.d
   have dB := bB.d
   have tA := bA.t
   have tB := bB.t
   have z6l := z6.lt
   refine KGO ?_
   obtain ⟨a_b9, v_b9, k_wy, z_wy, r_wy⟩ := new5 w6 31 ([.slice none 0 0, .slice none 0 0])
   generalize w6.alloc (.cells (List.toArray ([.slice none 0 0, .slice none 0 0])) 31) = wy at *
   generalize hs_b9 : w6.heap.size = b9 at *
   have Ky := Kz.trans0 k_wy
   have z3 := z3.keep0 k_wy
   have z4 := z4.keep0 k_wy
   have z6 := z6.keep0 k_wy
   have y3 := z3.at
   have y4 := z4.at
   have qy := Kp.refl wy n_
   have v9 := v_b9
   have hb69 : b6 < b9 := by have := z6l; omega
   clear a_b9 v_b9 r_wy
   refine KGO ?_
   refine CallS.of (Tryz.call40 _ _) (zbN (w := wy) A.docs B.docs (rw3.keep Ky).d (rw4.keep Ky).d (by omega) (by omega)) ?_
   rintro e w10 ⟨v10, rfl, o10, k10⟩
   have K10 := Ky.trans0 k10
   have z3 := z3.keep0 k10
   have z4 := z4.keep0 k10
   have z6 := z6.keep0 k10
   have v9 := v9.keep0 k10
   have hUl := zbI B.docs A.docs
   obtain ⟨UN, hUN⟩ : ∃ UN, B.docs.foldl withL A.docs = UN := ⟨_, rfl⟩
   rw [hUN] at o10 hUl
   obtain ⟨a10, c10, rfl⟩ := zab o10
   clear y3 y4 qy k10 Ky Kz k_wy
   refine RT ?_
   refine KGO ?_
   refine Loop.intro (ι := Nat × Option Addr × Nat × List Int) (fun p => [(2, .slice ad dead.length cd), (3, .pointer (some ⟨b3, 0, none⟩)), (4, .pointer (some ⟨b4, 0, none⟩)), (6, .pointer (some ⟨b6, 0, none⟩)), (9, .pointer (some ⟨b9, 0, none⟩)), (10, .slice a10 UN.length c10), (11, .int .i64 (p.1 : Nat))])
    (fun p wr => Kp w10 wr (one_ b9) ∧ p.1 ≤ UN.length ∧ VarK wr b9 31 [.slice none 0 0, .slice p.2.1 p.2.2.2.length p.2.2.1] ∧ OwnI wr w10.heap.size (.slice p.2.1 p.2.2.2.length p.2.2.1) p.2.2.2 ∧ p.2.2.2 = (UN.take p.1).filter fun d => !decide (d ∈ dead)) (fun p => UN.length - p.1) (0, none, 0, []) ⟨rfl, rfl, rfl, rfl, rfl, rfl, rfl, trivial⟩ ⟨Kp.refl _ _, Nat.zero_le _, v9, World.ownsRow_nil _ _ _ _, rfl⟩ ?_
   rintro ⟨i, ao, co, FL⟩ gg wr ⟨hK, hi, v9r, ho, hFL⟩
   dsimp only at hi v9r ho hFL ⊢
   have hfl : FL.length ≤ i := by rw [hFL]; exact Nat.le_trans (List.length_filter_le _ _) (by rw [List.length_take]; exact Nat.min_le_left _ _)
   have hzr := hK.size
   have Kr : Kp w wr n_ := zah K10 hK (by omega)
   refine GW ?_
   by_cases hlt : i < UN.length
   ·have hts : (UN.take (i + 1)).filter (fun d => !decide (d ∈ dead)) = FL ++ if UN[i] ∈ dead then [] else [UN[i]] := by
     rw [hFL, List.take_succ_eq_append_getElem hlt, List.filter_append, List.filter_cons]
     by_cases h : UN[i] ∈ dead <;> simp [h]
    have o10r := zad (D := [3]) o10 hK (zaf v9 (by decide)) (by decide)
    obtain ⟨ga, ega, _, _, hata⟩ := zbH o10r (by omega)
    obtain rfl := ega
    have ci := zaX hata hlt
    refine KGO ?_
    refine CallS.of (Tryz.call19 _ _) (zdy (w := wr) dead UN[i] (rd0.keep Kr) (by omega)) ?_
    rintro e w11 ⟨rfl, k11⟩
    have K11 := hK.trans' k11.of_none
    have v11 := v9r.keep0 k11
    refine RT ?_
    by_cases hin : UN[i] ∈ dead
    ·rw [decide_eq_true hin]
     rw [if_pos hin, List.append_nil] at hts
     refine KGO ?_
     exact ⟨(i + 1, ao, co, FL), ⟨rfl, rfl, rfl, rfl, rfl, rfl, v_int (by simp), trivial⟩, ⟨K11, by dsimp only; omega, v11, zac ho k11, hts.symm⟩, by dsimp only; omega⟩
    ·rw [decide_eq_false hin]
     rw [if_neg hin] at hts
     have ci := zav ci k11
     have hnga : ¬ own_ (.slice ao FL.length co) ga := fun e => by
      obtain ⟨_, _, _, hB, _⟩ := zak ho e
      obtain ⟨_, _, _, _, hgl⟩ := zak o10 (q := ga) rfl
      omega
     have a11 := v11.at
     have q11 := Kp.refl w11 n_
     have ho11 := zac ho k11
     refine KGO ?_
     have kd := q11.drew
     refine Draw.heldEnd (fun u => Kp w11 u (own_ (.slice ao FL.length co))) (fun _ => true) (by simp) (by decide +kernel) (by decide +kernel) kd.of_none ?_
     refine GW ?_
     refine Held.one (by rfl) (fun u hu => (v11.keep hu (zae ho11 v11 (by decide))).at 1 _ rfl) ?_
     refine KGO ?_
     refine Held.one (by rfl) (fun u hu => zer ci hu hnga) ?_
     refine KGO ?_
     refine RunV.of (bs1I UN[i] _) ?_
     obtain ⟨a_b14, v_b14, k_w12, z_w12, r_w12⟩ := new5 w11.drew 3 (inC UN[i])
     generalize w11.drew.alloc (.cells (List.toArray (inC UN[i])) 3) = w12 at *
     generalize hs_b14 : w11.drew.heap.size = b14 at *
     have k12 := kd.trans0 k_w12
     have ho12 := zac ho11 k12
     have z12 := k12.size
     have z11 := K11.size
     refine ⟨k12.of_none, ?_⟩
     refine GW ?_
     refine tyI.app1 UN[i] ho12 (by omega) a_b14 (by omega) (by omega) fun v5' w13 o13 k13 => ?_
     obtain ⟨a13, c13, rfl⟩ := zab o13
     have K13 : Kp w11 w13 (own_ (.slice ao FL.length co)) := k12.of_none.trans' k13
     have v13 := v11.keep K13 (zae ho11 v11 (by decide))
     refine ⟨K13, ?_⟩
     refine GW ?_
     refine Store.cellK (i := 1) v13 (by simp) (by rfl) ⟨rfl, by simp, by simp⟩ fun w14 v14 k14 => ?_
     have o14 := zad (D := [3]) o13 k14 (zaf v13 (by decide)) (by decide)
     have K14 : Kp w10 w14 (one_ b9) := (K11.trans K13 fun q hq e => (by exfalso; obtain ⟨_, _, _, hB, _⟩ := zak ho11 e; omega)).trans' k14
     refine KGO ?_
     exact ⟨(i + 1, a13, c13, FL ++ [UN[i]]), ⟨rfl, rfl, rfl, rfl, rfl, rfl, v_int (by simp), trivial⟩, ⟨K14, by dsimp only; omega, v14, o14, hts.symm⟩, by dsimp only; omega⟩
   rw [List.take_of_length_le (by omega)] at hFL
   have z3 := z3.keep hK (show ¬ b3 = b9 by omega)
   have z4 := z4.keep hK (show ¬ b4 = b9 by omega)
   have z6 := z6.keep hK (show ¬ b6 = b9 by omega)
   have y3 := z3.at
   have y4 := z4.at
   have qr := Kp.refl wr n_
   have hn3 := RowO.len rw3.t
   have hn4 := RowO.len rw4.t
   clear o10 hK v9
   refine KGO ?_
   refine CallS.of (Tryz.call41 _ _) (zcT (w := wr) A.terms B.terms (rw3.keep Kr).t (rw4.keep Kr).t (by omega) (by omega)) ?_
   rintro e w12 ⟨v12, rfl, o12, k12⟩
   have K12 := Kr.trans0 k12
   have z3 := z3.keep0 k12
   have z4 := z4.keep0 k12
   have z6 := z6.keep0 k12
   have v9 := v9r.keep0 k12
   have ho := zac ho k12
   have hNl : (namesL A.terms B.terms).length ≤ A.terms.length + B.terms.length := by
    rw [zaT _ A.terms B.terms (Nat.le_refl _), List.length_map]; exact zco _ _
   obtain ⟨NL, hNL⟩ : ∃ NL, namesL A.terms B.terms = NL := ⟨_, rfl⟩
   rw [hNL] at o12 hNl
   obtain ⟨a12, c12, rfl⟩ := zab o12
   clear y3 y4 qr k12 Kr v9r
   refine RT ?_
   refine KGO ?_
   refine Loop.intro (ι := Nat × Option Addr × Nat × List Trm) (fun p => [(2, .slice ad dead.length cd), (3, .pointer (some ⟨b3, 0, none⟩)), (4, .pointer (some ⟨b4, 0, none⟩)), (6, .pointer (some ⟨b6, 0, none⟩)), (9, .pointer (some ⟨b9, 0, none⟩)), (12, .slice a12 NL.length c12), (13, .int .i64 (p.1 : Nat))])
    (fun p wq => Kp w12 wq (one_ b9) ∧ p.1 ≤ NL.length ∧ VarK wq b9 31 [.slice p.2.1 p.2.2.2.length p.2.2.1, .slice ao FL.length co] ∧ OwnR 56 tmC 3 wq w12.heap.size (.slice p.2.1 p.2.2.2.length p.2.2.1) p.2.2.2 ∧ OwnI wq w10.heap.size (.slice ao FL.length co) FL ∧ p.2.2.2 = (NL.take p.1).filterMap fun t => termOf dead (t, orF (postsT A.terms t.key) (postsT B.terms t.key))) (fun p => NL.length - p.1) (0, none, 0, []) ⟨rfl, rfl, rfl, rfl, rfl, rfl, rfl, trivial⟩ ⟨Kp.refl _ _, Nat.zero_le _, v9, World.ownsRow_nil _ _ _ _, ho, rfl⟩ ?_
   clear ho
   rintro ⟨j, aT, cT, TL⟩ gg2 wq ⟨hK, hj, v9q, ot, ho, hTL⟩
   dsimp only at hj v9q ot ho hTL ⊢
   have htl : TL.length ≤ j := by rw [hTL]; exact Nat.le_trans (List.length_filterMap_le _ _) (by rw [List.length_take]; exact Nat.min_le_left _ _)
   have hzq := hK.size
   have lt9 := v9.lt
   have Kq : Kp w wq n_ := zah K12 hK (by omega)
   have z3q := z3.keep hK (show ¬ b3 = b9 by omega)
   have z4q := z4.keep hK (show ¬ b4 = b9 by omega)
   refine GW ?_
   by_cases hjt : j < NL.length
   rotate_left
   ·rw [List.take_of_length_le (by omega)] at hTL
    have z6q := z6.keep hK (show ¬ b6 = b9 by omega)
    have a9 := v9q.at
    have qq := Kp.refl wq n_
    clear o12 hF
    refine KGO ?_
    refine Store.varK (P := Tryz.prog) (t := 31) [.slice aT TL.length cT, .slice ao FL.length co] z6q (by rfl) rfl (zaq (by rfl)) fun w15 v15 k15 => ?_
    have a15 := v15.at
    have q15 := Kp.refl w15 n_
    refine KGO ?_
    refine GW ?_
    refine ⟨⟨⟨aT, TL.length, cT⟩, ⟨ao, FL.length, co⟩⟩, rfl, ?_, zah Kq k15 (by omega)⟩
    rw [hUN, hNL, ← hTL, ← hFL]
    have z10 := K10.size
    have z12 := K12.size
    exact ⟨zar (zad (D := [56]) ot k15 (zaf z6q (by decide)) (by decide)) (by omega), zar (zad (D := [3]) ho k15 (zaf z6q (by decide)) (by decide)) (by omega)⟩
   have o12q := zad (D := [56]) o12 hK (zaf v9 (by decide)) (by decide)
   obtain ⟨gN, egN, _, _, hatN⟩ := zbH o12q (by omega)
   obtain rfl := egN
   have qq := Kp.refl wq n_
   refine KGO ?_
   have v14 := VarK.new wq 56 (tmC NL[j])
   refine Store.fresh (vs := tmC NL[j]) (by rfl) rfl (zaq (by rfl)) ?_
   obtain ⟨a_b14, k_w13, z_w13⟩ := new3 wq 56 (tmC NL[j])
   generalize wq.alloc (.cells (List.toArray (tmC NL[j])) 56) = w13 at *
   generalize hs_b14 : wq.heap.size = b14 at *
   have K13 := Kq.trans0 k_w13
   have z3q := z3q.keep0 k_w13
   have z4q := z4q.keep0 k_w13
   have kd := (Kp.refl w13 n_).drew
   clear a_b14 hatN qq
   refine KGO ?_
   refine Draw.held (fun u => Kp w13 u n_) (fun _ => true) (by decide +kernel) kd ?_
   refine GW ?_
   refine HeldG (sgC ha) (by rfl) (by rfl) (fun u hu => (z3q.keep0 hu).at) (by rfl) ?_
   refine GW ?_
   refine Held.one (by rfl) (fun u hu => (v14.keep0 hu).at 0 _ rfl) ?_
   refine GW ?_
   refine Held.one (by rfl) (fun u hu => (v14.keep0 hu).at 1 _ rfl) ?_
   refine GW ?_
   refine CallS.of (Tryz.call43 _ _) (zaQ (w := w13.drew) ha A NL[j].field NL[j].word (rw3.keep (K13.trans0 kd)).t (by omega) (fun t ht => by have := (bA.x t ht).2.1; omega)) ?_
   rintro e u1 ⟨p1, rfl, op1, j1⟩
   obtain ⟨pa1, pc1, rfl⟩ := op1.shape
   have J1 := kd.trans0 j1
   refine RT ?_
   refine ⟨J1, ?_⟩
   refine GW ?_
   refine HeldG (sgC ⟨⟨none, 0, 0⟩, ⟨none, 0, 0⟩⟩) (by rfl) (by rfl) (fun u hu => (z4q.keep0 hu).at) (by rfl) ?_
   refine GW ?_
   refine Held.one (by rfl) (fun u hu => (v14.keep0 hu).at 0 _ rfl) ?_
   refine GW ?_
   refine Held.one (by rfl) (fun u hu => (v14.keep0 hu).at 1 _ rfl) ?_
   refine GW ?_
   refine CallS.of (Tryz.call43 _ _) (zaQ (w := u1) ⟨⟨none, 0, 0⟩, ⟨none, 0, 0⟩⟩ B NL[j].field NL[j].word (rw4.keep (K13.trans0 J1)).t (by omega) (fun t ht => by have := (bB.x t ht).2.1; omega)) ?_
   rintro e u2 ⟨p2, rfl, op2, j2⟩
   obtain ⟨pa2, pc2, rfl⟩ := op2.shape
   have J2 := J1.trans0 j2
   refine RT ?_
   refine ⟨J2, ?_⟩
   refine GW ?_
   have e1 := zaK A.terms (NL[j].field, NL[j].word) 100000 fun t ht => (bA.x t ht).2.2
   have e2 := zaK B.terms (NL[j].field, NL[j].word) 100000 fun t ht => (bB.x t ht).2.2
   have e3 : cntP (orF (postsT A.terms (NL[j].field, NL[j].word)) (postsT B.terms (NL[j].field, NL[j].word))) ≤ 200000 := hF NL[j]
   have f1 := zaD (postsT A.terms (NL[j].field, NL[j].word))
   have f2 := zaD (postsT B.terms (NL[j].field, NL[j].word))
   have g1 : ∀ p ∈ postsT A.terms (NL[j].field, NL[j].word), p.places.length ≤ 10000000 := fun p hp => by have := zaF _ p hp; unfold cntP at e1; omega
   have g2 : ∀ p ∈ postsT B.terms (NL[j].field, NL[j].word), p.places.length ≤ 10000000 := fun p hp => by have := zaF _ p hp; unfold cntP at e2; omega
   unfold cntP at e1 e2
   have hcall := zgH (w := u2) (postsT A.terms (NL[j].field, NL[j].word)) (postsT B.terms (NL[j].field, NL[j].word)) (op1.keep j2).row op2.row (by omega) (by omega) g1 g2
   refine CallS.of (Tryz.call42 _ _) hcall ?_
   rintro e u3 ⟨p3, rfl, op3, j3⟩
   obtain ⟨pa3, pc3, rfl⟩ := op3.shape
   have J3 := J2.trans0 j3
   refine RT ?_
   refine ⟨J3, ?_⟩
   have hFt : termOf dead (NL[j], orF (postsT A.terms NL[j].key) (postsT B.terms NL[j].key)) = termOf dead (NL[j], orF (postsT A.terms (NL[j].field, NL[j].word)) (postsT B.terms (NL[j].field, NL[j].word))) := rfl
   obtain ⟨X, hX⟩ : ∃ X, orF (postsT A.terms (NL[j].field, NL[j].word)) (postsT B.terms (NL[j].field, NL[j].word)) = X := ⟨_, rfl⟩
   rw [hX] at op3 e3 hFt ⊢
   have hXl := zaD X
   clear hcall e1 e2 f1 f2 g1 g2 op1 op2 hF j1 j2 j3 J1 J2 kd
   refine KGO ?_
   have e3' : (encN 0 X).length ≤ 200000 := e3
   refine CallS.of (Tryz.call44 _ _) (zcx (w := u3) X dead op3.row (rd0.keep (K13.trans0 J3)) (by omega) (by omega)) ?_
   rintro e u4 ⟨p4, rfl, op4, j4⟩
   obtain ⟨pa4, pc4, rfl⟩ := RowP.shape op4
   have J4 := J3.trans0 j4
   have K4 : Kp w12 u4 (one_ b9) := hK.trans' (k_w13.trans0 J4).of_none
   have kw4 := k_w13.trans0 J4
   have v9u := v9q.keep0 kw4
   have otu := zac ot kw4
   have hou := zac ho kw4
   have v14u := v14.keep0 J4
   have hb914 : b9 < b14 := by have := v9q.lt; omega
   have z4u := kw4.size
   have hts : (NL.take (j + 1)).filterMap (fun t => termOf dead (t, orF (postsT A.terms t.key) (postsT B.terms t.key))) = TL ++ (termOf dead (NL[j], X)).toList := by
    have h1 : ∀ F : Trm → Option Trm, (NL.take (j + 1)).filterMap F = (NL.take j).filterMap F ++ (F NL[j]).toList := fun F => by
     rw [List.take_succ_eq_append_getElem hjt, List.filterMap_append]
     cases h : F NL[j] <;> simp [h]
    rw [h1, ← hTL]
    show TL ++ (termOf dead (NL[j], orF (postsT A.terms NL[j].key) (postsT B.terms NL[j].key))).toList = _
    rw [show orF (postsT A.terms NL[j].key) (postsT B.terms NL[j].key) = X from hX]
   have hZc : (encN 0 (liveP dead X)).length ≤ 200000 := Nat.le_trans (zbu _ X) e3
   have hZl := zaD (liveP dead X)
   have hZp : ∀ p ∈ liveP dead X, p.places.length ≤ 17592186044416 := fun p hp => by have := zaF _ p hp; omega
   refine RT ?_
   by_cases hz : liveP dead X = []
   ·have hz0 : (liveP dead X).length = 0 := by rw [hz]; rfl
    rw [show termOf dead (NL[j], X) = none from if_pos hz] at hts
    have hts2 : (NL.take (j + 1)).filterMap (fun t => termOf dead (t, orF (postsT A.terms t.key) (postsT B.terms t.key))) = TL := hts.trans (List.append_nil _)
    clear hz hts hTL hFt hX hZp
    refine KGO ?_
    exact ⟨(j + 1, aT, cT, TL), ⟨rfl, rfl, rfl, rfl, rfl, rfl, v_int (by simp), trivial⟩, ⟨K4, by dsimp only; omega, v9u, otu, hou, hts2.symm⟩, by dsimp only; omega⟩
   have hz0 : 0 < (liveP dead X).length := List.length_pos_iff.2 hz
   rw [show termOf dead (NL[j], X) = some ⟨NL[j].field, NL[j].word, encP (liveP dead X)⟩ from if_neg hz] at hts
   have hts2 : (NL.take (j + 1)).filterMap (fun t => termOf dead (t, orF (postsT A.terms t.key) (postsT B.terms t.key))) = TL ++ [⟨NL[j].field, NL[j].word, encP (liveP dead X)⟩] := hts
   clear hz hts hTL hFt hX
   obtain ⟨Z, hZ⟩ : ∃ Z, liveP dead X = Z := ⟨_, rfl⟩
   rw [hZ] at op4 hz0 hts2 hZc hZl hZp ⊢
   refine KGO ?_
   refine CallS.of (Tryz.call45 _ _) (zbw (w := u4) Z op4 (by omega) hZp (by omega)) ?_
   rintro e u5 ⟨rfl, j5⟩
   have v14v := v14u.keep0 j5
   have v9v := v9u.keep0 j5
   refine RT ?_
   refine KGO ?_
   refine Store.cellK (i := 2) v14v (by simp [tmC]) (by rfl) ⟨rfl, by simp, by simp⟩ fun u6 v146 k6 => ?_
   have v146 : VarK u6 b14 56 (tmC ⟨NL[j].field, NL[j].word, encP Z⟩) := v146
   have K46 : Kp u4 u6 (one_ b14) := j5.of_none.trans' k6
   have v96 := v9u.keep K46 (show ¬ b9 = b14 by omega)
   have hn14 : ¬ own_ (.slice aT TL.length cT) b14 := fun e => by
    obtain ⟨_, _, _, _, hlt⟩ := zak ot e
    omega
   have ot6 := zay otu K46 (fun q hq e => hn14 (by have e : q = b14 := e; rw [← e]; exact hq))
   have ho6 := zad (D := [3]) hou K46 (fun q hq e => zaf v14u (by decide) q hq e) (by decide)
   have q6 := (Kp.refl u6 n_).drew
   clear v14v v9v K46 hn14
   have hn14 : ¬ own_ (.slice aT TL.length cT) b14 := fun e => by
    obtain ⟨_, _, _, _, hlt⟩ := zak ot e
    omega
   have a96 := v96.at
   have a146 := v146.at
   have q6r := Kp.refl u6 n_
   refine KGO ?_
   refine RunV.of (bs1Tm ⟨NL[j].field, NL[j].word, encP Z⟩ _) ?_
   obtain ⟨a_b15, v_b15, k_u7, z_u7, r_u7⟩ := new5 u6 56 (tmC ⟨NL[j].field, NL[j].word, encP Z⟩)
   generalize u6.alloc (.cells (List.toArray (tmC ⟨NL[j].field, NL[j].word, encP Z⟩)) 56) = u7 at *
   generalize hs_b15 : u6.heap.size = b15 at *
   have k7 := k_u7
   have ot7 := zac ot6 k7
   have z7 := k7.size
   have z6 := k6.size
   have z5 := j5.size
   refine KGO ?_
   refine tyTm.app1 (⟨NL[j].field, NL[j].word, encP Z⟩ : Trm) ot7 (by omega) a_b15 (by omega) (by omega) fun v8 u8 o8 k8 => ?_
   obtain ⟨a8, c8, rfl⟩ := zab o8
   have K78 : Kp u6 u8 (own_ (.slice aT TL.length cT)) := k7.of_none.trans' k8
   have v98 := v96.keep K78 (zae ot6 v96 (by decide))
   have ho8 := zad (D := [3]) ho6 K78 (zaC ot6 (by decide)) (by decide)
   refine KGO ?_
   refine Store.cellK (i := 0) v98 (by simp) (by rfl) ⟨rfl, by simp, by simp⟩ fun u9 v99 k9 => ?_
   have o9 := zad (D := [56]) o8 k9 (zaf v98 (by decide)) (by decide)
   have ho9 := zad (D := [3]) ho8 k9 (zaf v98 (by decide)) (by decide)
   have K49 : Kp w12 u9 (one_ b9) := (((K4.trans' j5.of_none).trans k6 fun q hq e => by
    exfalso
    have e : q = b14 := e
    omega).trans K78 fun q hq e => (by
    exfalso
    obtain ⟨_, _, _, hB, _⟩ := zak ot e
    omega)).trans' k9
   refine KGO ?_
   exact ⟨(j + 1, a8, c8, TL ++ [(⟨NL[j].field, NL[j].word, encP Z⟩ : Trm)]), ⟨rfl, rfl, rfl, rfl, rfl, rfl, v_int (by simp), trivial⟩, ⟨K49, by dsimp only; omega, v99, o9, ho9, hts2.symm⟩, by dsimp only; omega⟩
 | false =>
  rw [show validS a = ⟨[], []⟩ from if_neg (by rw [hR]; exact fun h => by cases h)]
  refine KGO ?_
  refine RunV.of (build0Sm _) ?_
  refine KGO ?_
  refine Store.varK [.slice none 0 0, .slice none 0 0] v3 (by rfl) rfl (zaq (by rfl)) fun w6 z3 k6 => ?_
  have K6 := zah K5 k6 (by omega)
  have v4 := v4.keep k6 (show ¬ b4 = b3 by omega)
  have v6 := v6.keep k6 (show ¬ b6 = b3 by omega)
  clear v3 K5 k6
  cases hS : rightS b with
  | true =>
   rw [show validS b = b from if_pos hS]
   obtain ⟨A, hA⟩ : ∃ A : Sgm, A = ⟨[], []⟩ := ⟨_, rfl⟩
   obtain ⟨B, hB⟩ : ∃ B, B = b := ⟨_, rfl⟩
   have rw3 := nilS w
   have rw4 := rb
   have bA : Bd (⟨[], []⟩ : Sgm) 1000000 1000000 100000 := zei _ _ _
   have bB := bB0
   rw [← hA] at rw3 bA ⊢
   rw [← hB] at rw4 bB ⊢
   have Kz := K6
   have z4 := v4
   have z6 := v6
   clear bA0 bB0 K6 v4 v6 hR hS hA hB ra rb nilS
   have hF : ∀ t : Trm, cntP (orF (postsT A.terms t.key) (postsT B.terms t.key)) ≤ 200000 := fun t => by
    rw [zeN (zao _ _) (zao _ _)]
    have h1 := zaK A.terms t.key 100000 fun t ht => (bA.x t ht).2.2
    have h2 := zaK B.terms t.key 100000 fun t ht => (bB.x t ht).2.2
    have := zdt _ (postsT A.terms t.key) (postsT B.terms t.key) (Nat.le_refl _)
    omega
   have dA := bA.d
   have dB := bB.d
   have tA := bA.t
   have tB := bB.t
   have z6l := z6.lt
   refine KGO ?_
   obtain ⟨a_b9, v_b9, k_wy, z_wy, r_wy⟩ := new5 w6 31 ([.slice none 0 0, .slice none 0 0])
   generalize w6.alloc (.cells (List.toArray ([.slice none 0 0, .slice none 0 0])) 31) = wy at *
   generalize hs_b9 : w6.heap.size = b9 at *
   have Ky := Kz.trans0 k_wy
   have z3 := z3.keep0 k_wy
   have z4 := z4.keep0 k_wy
   have z6 := z6.keep0 k_wy
   have y3 := z3.at
   have y4 := z4.at
   have qy := Kp.refl wy n_
   have v9 := v_b9
   have hb69 : b6 < b9 := by have := z6l; omega
   clear a_b9 v_b9 r_wy
   refine KGO ?_
   refine CallS.of (Tryz.call40 _ _) (zbN (w := wy) A.docs B.docs (rw3.keep Ky).d (rw4.keep Ky).d (by omega) (by omega)) ?_
   rintro e w10 ⟨v10, rfl, o10, k10⟩
   have K10 := Ky.trans0 k10
   have z3 := z3.keep0 k10
   have z4 := z4.keep0 k10
   have z6 := z6.keep0 k10
   have v9 := v9.keep0 k10
   have hUl := zbI B.docs A.docs
   obtain ⟨UN, hUN⟩ : ∃ UN, B.docs.foldl withL A.docs = UN := ⟨_, rfl⟩
   rw [hUN] at o10 hUl
   obtain ⟨a10, c10, rfl⟩ := zab o10
   clear y3 y4 qy k10 Ky Kz k_wy
   refine RT ?_
   refine KGO ?_
   refine Loop.intro (ι := Nat × Option Addr × Nat × List Int) (fun p => [(2, .slice ad dead.length cd), (3, .pointer (some ⟨b3, 0, none⟩)), (4, .pointer (some ⟨b4, 0, none⟩)), (6, .pointer (some ⟨b6, 0, none⟩)), (9, .pointer (some ⟨b9, 0, none⟩)), (10, .slice a10 UN.length c10), (11, .int .i64 (p.1 : Nat))])
    (fun p wr => Kp w10 wr (one_ b9) ∧ p.1 ≤ UN.length ∧ VarK wr b9 31 [.slice none 0 0, .slice p.2.1 p.2.2.2.length p.2.2.1] ∧ OwnI wr w10.heap.size (.slice p.2.1 p.2.2.2.length p.2.2.1) p.2.2.2 ∧ p.2.2.2 = (UN.take p.1).filter fun d => !decide (d ∈ dead)) (fun p => UN.length - p.1) (0, none, 0, []) ⟨rfl, rfl, rfl, rfl, rfl, rfl, rfl, trivial⟩ ⟨Kp.refl _ _, Nat.zero_le _, v9, World.ownsRow_nil _ _ _ _, rfl⟩ ?_
   rintro ⟨i, ao, co, FL⟩ gg wr ⟨hK, hi, v9r, ho, hFL⟩
   dsimp only at hi v9r ho hFL ⊢
   have hfl : FL.length ≤ i := by rw [hFL]; exact Nat.le_trans (List.length_filter_le _ _) (by rw [List.length_take]; exact Nat.min_le_left _ _)
   have hzr := hK.size
   have Kr : Kp w wr n_ := zah K10 hK (by omega)
   refine GW ?_
   by_cases hlt : i < UN.length
   ·have hts : (UN.take (i + 1)).filter (fun d => !decide (d ∈ dead)) = FL ++ if UN[i] ∈ dead then [] else [UN[i]] := by
     rw [hFL, List.take_succ_eq_append_getElem hlt, List.filter_append, List.filter_cons]
     by_cases h : UN[i] ∈ dead <;> simp [h]
    have o10r := zad (D := [3]) o10 hK (zaf v9 (by decide)) (by decide)
    obtain ⟨ga, ega, _, _, hata⟩ := zbH o10r (by omega)
    obtain rfl := ega
    have ci := zaX hata hlt
    refine KGO ?_
    refine CallS.of (Tryz.call19 _ _) (zdy (w := wr) dead UN[i] (rd0.keep Kr) (by omega)) ?_
    rintro e w11 ⟨rfl, k11⟩
    have K11 := hK.trans' k11.of_none
    have v11 := v9r.keep0 k11
    refine RT ?_
    by_cases hin : UN[i] ∈ dead
    ·rw [decide_eq_true hin]
     rw [if_pos hin, List.append_nil] at hts
     refine KGO ?_
     exact ⟨(i + 1, ao, co, FL), ⟨rfl, rfl, rfl, rfl, rfl, rfl, v_int (by simp), trivial⟩, ⟨K11, by dsimp only; omega, v11, zac ho k11, hts.symm⟩, by dsimp only; omega⟩
    ·rw [decide_eq_false hin]
     rw [if_neg hin] at hts
     have ci := zav ci k11
     have hnga : ¬ own_ (.slice ao FL.length co) ga := fun e => by
      obtain ⟨_, _, _, hB, _⟩ := zak ho e
      obtain ⟨_, _, _, _, hgl⟩ := zak o10 (q := ga) rfl
      omega
     have a11 := v11.at
     have q11 := Kp.refl w11 n_
     have ho11 := zac ho k11
     refine KGO ?_
     have kd := q11.drew
     refine Draw.heldEnd (fun u => Kp w11 u (own_ (.slice ao FL.length co))) (fun _ => true) (by simp) (by decide +kernel) (by decide +kernel) kd.of_none ?_
     refine GW ?_
     refine Held.one (by rfl) (fun u hu => (v11.keep hu (zae ho11 v11 (by decide))).at 1 _ rfl) ?_
     refine KGO ?_
     refine Held.one (by rfl) (fun u hu => zer ci hu hnga) ?_
     refine KGO ?_
     refine RunV.of (bs1I UN[i] _) ?_
     obtain ⟨a_b14, v_b14, k_w12, z_w12, r_w12⟩ := new5 w11.drew 3 (inC UN[i])
     generalize w11.drew.alloc (.cells (List.toArray (inC UN[i])) 3) = w12 at *
     generalize hs_b14 : w11.drew.heap.size = b14 at *
     have k12 := kd.trans0 k_w12
     have ho12 := zac ho11 k12
     have z12 := k12.size
     have z11 := K11.size
     refine ⟨k12.of_none, ?_⟩
     refine GW ?_
     refine tyI.app1 UN[i] ho12 (by omega) a_b14 (by omega) (by omega) fun v5' w13 o13 k13 => ?_
     obtain ⟨a13, c13, rfl⟩ := zab o13
     have K13 : Kp w11 w13 (own_ (.slice ao FL.length co)) := k12.of_none.trans' k13
     have v13 := v11.keep K13 (zae ho11 v11 (by decide))
     refine ⟨K13, ?_⟩
     refine GW ?_
     refine Store.cellK (i := 1) v13 (by simp) (by rfl) ⟨rfl, by simp, by simp⟩ fun w14 v14 k14 => ?_
     have o14 := zad (D := [3]) o13 k14 (zaf v13 (by decide)) (by decide)
     have K14 : Kp w10 w14 (one_ b9) := (K11.trans K13 fun q hq e => (by exfalso; obtain ⟨_, _, _, hB, _⟩ := zak ho11 e; omega)).trans' k14
     refine KGO ?_
     exact ⟨(i + 1, a13, c13, FL ++ [UN[i]]), ⟨rfl, rfl, rfl, rfl, rfl, rfl, v_int (by simp), trivial⟩, ⟨K14, by dsimp only; omega, v14, o14, hts.symm⟩, by dsimp only; omega⟩
   rw [List.take_of_length_le (by omega)] at hFL
   have z3 := z3.keep hK (show ¬ b3 = b9 by omega)
   have z4 := z4.keep hK (show ¬ b4 = b9 by omega)
   have z6 := z6.keep hK (show ¬ b6 = b9 by omega)
   have y3 := z3.at
   have y4 := z4.at
   have qr := Kp.refl wr n_
   have hn3 := RowO.len rw3.t
   have hn4 := RowO.len rw4.t
   clear o10 hK v9
   refine KGO ?_
   refine CallS.of (Tryz.call41 _ _) (zcT (w := wr) A.terms B.terms (rw3.keep Kr).t (rw4.keep Kr).t (by omega) (by omega)) ?_
   rintro e w12 ⟨v12, rfl, o12, k12⟩
   have K12 := Kr.trans0 k12
   have z3 := z3.keep0 k12
   have z4 := z4.keep0 k12
   have z6 := z6.keep0 k12
   have v9 := v9r.keep0 k12
   have ho := zac ho k12
   have hNl : (namesL A.terms B.terms).length ≤ A.terms.length + B.terms.length := by
    rw [zaT _ A.terms B.terms (Nat.le_refl _), List.length_map]; exact zco _ _
   obtain ⟨NL, hNL⟩ : ∃ NL, namesL A.terms B.terms = NL := ⟨_, rfl⟩
   rw [hNL] at o12 hNl
   obtain ⟨a12, c12, rfl⟩ := zab o12
   clear y3 y4 qr k12 Kr v9r
   refine RT ?_
   refine KGO ?_
   refine Loop.intro (ι := Nat × Option Addr × Nat × List Trm) (fun p => [(2, .slice ad dead.length cd), (3, .pointer (some ⟨b3, 0, none⟩)), (4, .pointer (some ⟨b4, 0, none⟩)), (6, .pointer (some ⟨b6, 0, none⟩)), (9, .pointer (some ⟨b9, 0, none⟩)), (12, .slice a12 NL.length c12), (13, .int .i64 (p.1 : Nat))])
    (fun p wq => Kp w12 wq (one_ b9) ∧ p.1 ≤ NL.length ∧ VarK wq b9 31 [.slice p.2.1 p.2.2.2.length p.2.2.1, .slice ao FL.length co] ∧ OwnR 56 tmC 3 wq w12.heap.size (.slice p.2.1 p.2.2.2.length p.2.2.1) p.2.2.2 ∧ OwnI wq w10.heap.size (.slice ao FL.length co) FL ∧ p.2.2.2 = (NL.take p.1).filterMap fun t => termOf dead (t, orF (postsT A.terms t.key) (postsT B.terms t.key))) (fun p => NL.length - p.1) (0, none, 0, []) ⟨rfl, rfl, rfl, rfl, rfl, rfl, rfl, trivial⟩ ⟨Kp.refl _ _, Nat.zero_le _, v9, World.ownsRow_nil _ _ _ _, ho, rfl⟩ ?_
   clear ho
   rintro ⟨j, aT, cT, TL⟩ gg2 wq ⟨hK, hj, v9q, ot, ho, hTL⟩
   dsimp only at hj v9q ot ho hTL ⊢
   have htl : TL.length ≤ j := by rw [hTL]; exact Nat.le_trans (List.length_filterMap_le _ _) (by rw [List.length_take]; exact Nat.min_le_left _ _)
   have hzq := hK.size
   have lt9 := v9.lt
   have Kq : Kp w wq n_ := zah K12 hK (by omega)
   have z3q := z3.keep hK (show ¬ b3 = b9 by omega)
   have z4q := z4.keep hK (show ¬ b4 = b9 by omega)
   refine GW ?_
   by_cases hjt : j < NL.length
   rotate_left
   ·rw [List.take_of_length_le (by omega)] at hTL
    have z6q := z6.keep hK (show ¬ b6 = b9 by omega)
    have a9 := v9q.at
    have qq := Kp.refl wq n_
    clear o12 hF
    refine KGO ?_
    refine Store.varK (P := Tryz.prog) (t := 31) [.slice aT TL.length cT, .slice ao FL.length co] z6q (by rfl) rfl (zaq (by rfl)) fun w15 v15 k15 => ?_
    have a15 := v15.at
    have q15 := Kp.refl w15 n_
    refine KGO ?_
    refine GW ?_
    refine ⟨⟨⟨aT, TL.length, cT⟩, ⟨ao, FL.length, co⟩⟩, rfl, ?_, zah Kq k15 (by omega)⟩
    rw [hUN, hNL, ← hTL, ← hFL]
    have z10 := K10.size
    have z12 := K12.size
    exact ⟨zar (zad (D := [56]) ot k15 (zaf z6q (by decide)) (by decide)) (by omega), zar (zad (D := [3]) ho k15 (zaf z6q (by decide)) (by decide)) (by omega)⟩
   have o12q := zad (D := [56]) o12 hK (zaf v9 (by decide)) (by decide)
   obtain ⟨gN, egN, _, _, hatN⟩ := zbH o12q (by omega)
   obtain rfl := egN
   have qq := Kp.refl wq n_
   refine KGO ?_
   have v14 := VarK.new wq 56 (tmC NL[j])
   refine Store.fresh (vs := tmC NL[j]) (by rfl) rfl (zaq (by rfl)) ?_
   obtain ⟨a_b14, k_w13, z_w13⟩ := new3 wq 56 (tmC NL[j])
   generalize wq.alloc (.cells (List.toArray (tmC NL[j])) 56) = w13 at *
   generalize hs_b14 : wq.heap.size = b14 at *
   have K13 := Kq.trans0 k_w13
   have z3q := z3q.keep0 k_w13
   have z4q := z4q.keep0 k_w13
   have kd := (Kp.refl w13 n_).drew
   clear a_b14 hatN qq
   refine KGO ?_
   refine Draw.held (fun u => Kp w13 u n_) (fun _ => true) (by decide +kernel) kd ?_
   refine GW ?_
   refine HeldG (sgC ⟨⟨none, 0, 0⟩, ⟨none, 0, 0⟩⟩) (by rfl) (by rfl) (fun u hu => (z3q.keep0 hu).at) (by rfl) ?_
   refine GW ?_
   refine Held.one (by rfl) (fun u hu => (v14.keep0 hu).at 0 _ rfl) ?_
   refine GW ?_
   refine Held.one (by rfl) (fun u hu => (v14.keep0 hu).at 1 _ rfl) ?_
   refine GW ?_
   refine CallS.of (Tryz.call43 _ _) (zaQ (w := w13.drew) ⟨⟨none, 0, 0⟩, ⟨none, 0, 0⟩⟩ A NL[j].field NL[j].word (rw3.keep (K13.trans0 kd)).t (by omega) (fun t ht => by have := (bA.x t ht).2.1; omega)) ?_
   rintro e u1 ⟨p1, rfl, op1, j1⟩
   obtain ⟨pa1, pc1, rfl⟩ := op1.shape
   have J1 := kd.trans0 j1
   refine RT ?_
   refine ⟨J1, ?_⟩
   refine GW ?_
   refine HeldG (sgC hb) (by rfl) (by rfl) (fun u hu => (z4q.keep0 hu).at) (by rfl) ?_
   refine GW ?_
   refine Held.one (by rfl) (fun u hu => (v14.keep0 hu).at 0 _ rfl) ?_
   refine GW ?_
   refine Held.one (by rfl) (fun u hu => (v14.keep0 hu).at 1 _ rfl) ?_
   refine GW ?_
   refine CallS.of (Tryz.call43 _ _) (zaQ (w := u1) hb B NL[j].field NL[j].word (rw4.keep (K13.trans0 J1)).t (by omega) (fun t ht => by have := (bB.x t ht).2.1; omega)) ?_
   rintro e u2 ⟨p2, rfl, op2, j2⟩
   obtain ⟨pa2, pc2, rfl⟩ := op2.shape
   have J2 := J1.trans0 j2
   refine RT ?_
   refine ⟨J2, ?_⟩
   refine GW ?_
   have e1 := zaK A.terms (NL[j].field, NL[j].word) 100000 fun t ht => (bA.x t ht).2.2
   have e2 := zaK B.terms (NL[j].field, NL[j].word) 100000 fun t ht => (bB.x t ht).2.2
   have e3 : cntP (orF (postsT A.terms (NL[j].field, NL[j].word)) (postsT B.terms (NL[j].field, NL[j].word))) ≤ 200000 := hF NL[j]
   have f1 := zaD (postsT A.terms (NL[j].field, NL[j].word))
   have f2 := zaD (postsT B.terms (NL[j].field, NL[j].word))
   have g1 : ∀ p ∈ postsT A.terms (NL[j].field, NL[j].word), p.places.length ≤ 10000000 := fun p hp => by have := zaF _ p hp; unfold cntP at e1; omega
   have g2 : ∀ p ∈ postsT B.terms (NL[j].field, NL[j].word), p.places.length ≤ 10000000 := fun p hp => by have := zaF _ p hp; unfold cntP at e2; omega
   unfold cntP at e1 e2
   have hcall := zgH (w := u2) (postsT A.terms (NL[j].field, NL[j].word)) (postsT B.terms (NL[j].field, NL[j].word)) (op1.keep j2).row op2.row (by omega) (by omega) g1 g2
   refine CallS.of (Tryz.call42 _ _) hcall ?_
   rintro e u3 ⟨p3, rfl, op3, j3⟩
   obtain ⟨pa3, pc3, rfl⟩ := op3.shape
   have J3 := J2.trans0 j3
   refine RT ?_
   refine ⟨J3, ?_⟩
   have hFt : termOf dead (NL[j], orF (postsT A.terms NL[j].key) (postsT B.terms NL[j].key)) = termOf dead (NL[j], orF (postsT A.terms (NL[j].field, NL[j].word)) (postsT B.terms (NL[j].field, NL[j].word))) := rfl
   obtain ⟨X, hX⟩ : ∃ X, orF (postsT A.terms (NL[j].field, NL[j].word)) (postsT B.terms (NL[j].field, NL[j].word)) = X := ⟨_, rfl⟩
   rw [hX] at op3 e3 hFt ⊢
   have hXl := zaD X
   clear hcall e1 e2 f1 f2 g1 g2 op1 op2 hF j1 j2 j3 J1 J2 kd
   refine KGO ?_
   have e3' : (encN 0 X).length ≤ 200000 := e3
   refine CallS.of (Tryz.call44 _ _) (zcx (w := u3) X dead op3.row (rd0.keep (K13.trans0 J3)) (by omega) (by omega)) ?_
   rintro e u4 ⟨p4, rfl, op4, j4⟩
   obtain ⟨pa4, pc4, rfl⟩ := RowP.shape op4
   have J4 := J3.trans0 j4
   have K4 : Kp w12 u4 (one_ b9) := hK.trans' (k_w13.trans0 J4).of_none
   have kw4 := k_w13.trans0 J4
   have v9u := v9q.keep0 kw4
   have otu := zac ot kw4
   have hou := zac ho kw4
   have v14u := v14.keep0 J4
   have hb914 : b9 < b14 := by have := v9q.lt; omega
   have z4u := kw4.size
   have hts : (NL.take (j + 1)).filterMap (fun t => termOf dead (t, orF (postsT A.terms t.key) (postsT B.terms t.key))) = TL ++ (termOf dead (NL[j], X)).toList := by
    have h1 : ∀ F : Trm → Option Trm, (NL.take (j + 1)).filterMap F = (NL.take j).filterMap F ++ (F NL[j]).toList := fun F => by
     rw [List.take_succ_eq_append_getElem hjt, List.filterMap_append]
     cases h : F NL[j] <;> simp [h]
    rw [h1, ← hTL]
    show TL ++ (termOf dead (NL[j], orF (postsT A.terms NL[j].key) (postsT B.terms NL[j].key))).toList = _
    rw [show orF (postsT A.terms NL[j].key) (postsT B.terms NL[j].key) = X from hX]
   have hZc : (encN 0 (liveP dead X)).length ≤ 200000 := Nat.le_trans (zbu _ X) e3
   have hZl := zaD (liveP dead X)
   have hZp : ∀ p ∈ liveP dead X, p.places.length ≤ 17592186044416 := fun p hp => by have := zaF _ p hp; omega
   refine RT ?_
   by_cases hz : liveP dead X = []
   ·have hz0 : (liveP dead X).length = 0 := by rw [hz]; rfl
    rw [show termOf dead (NL[j], X) = none from if_pos hz] at hts
    have hts2 : (NL.take (j + 1)).filterMap (fun t => termOf dead (t, orF (postsT A.terms t.key) (postsT B.terms t.key))) = TL := hts.trans (List.append_nil _)
    clear hz hts hTL hFt hX hZp
    refine KGO ?_
    exact ⟨(j + 1, aT, cT, TL), ⟨rfl, rfl, rfl, rfl, rfl, rfl, v_int (by simp), trivial⟩, ⟨K4, by dsimp only; omega, v9u, otu, hou, hts2.symm⟩, by dsimp only; omega⟩
   have hz0 : 0 < (liveP dead X).length := List.length_pos_iff.2 hz
   rw [show termOf dead (NL[j], X) = some ⟨NL[j].field, NL[j].word, encP (liveP dead X)⟩ from if_neg hz] at hts
   have hts2 : (NL.take (j + 1)).filterMap (fun t => termOf dead (t, orF (postsT A.terms t.key) (postsT B.terms t.key))) = TL ++ [⟨NL[j].field, NL[j].word, encP (liveP dead X)⟩] := hts
   clear hz hts hTL hFt hX
   obtain ⟨Z, hZ⟩ : ∃ Z, liveP dead X = Z := ⟨_, rfl⟩
   rw [hZ] at op4 hz0 hts2 hZc hZl hZp ⊢
   refine KGO ?_
   refine CallS.of (Tryz.call45 _ _) (zbw (w := u4) Z op4 (by omega) hZp (by omega)) ?_
   rintro e u5 ⟨rfl, j5⟩
   have v14v := v14u.keep0 j5
   have v9v := v9u.keep0 j5
   refine RT ?_
   refine KGO ?_
   refine Store.cellK (i := 2) v14v (by simp [tmC]) (by rfl) ⟨rfl, by simp, by simp⟩ fun u6 v146 k6 => ?_
   have v146 : VarK u6 b14 56 (tmC ⟨NL[j].field, NL[j].word, encP Z⟩) := v146
   have K46 : Kp u4 u6 (one_ b14) := j5.of_none.trans' k6
   have v96 := v9u.keep K46 (show ¬ b9 = b14 by omega)
   have hn14 : ¬ own_ (.slice aT TL.length cT) b14 := fun e => by
    obtain ⟨_, _, _, _, hlt⟩ := zak ot e
    omega
   have ot6 := zay otu K46 (fun q hq e => hn14 (by have e : q = b14 := e; rw [← e]; exact hq))
   have ho6 := zad (D := [3]) hou K46 (fun q hq e => zaf v14u (by decide) q hq e) (by decide)
   have q6 := (Kp.refl u6 n_).drew
   clear v14v v9v K46 hn14
   have hn14 : ¬ own_ (.slice aT TL.length cT) b14 := fun e => by
    obtain ⟨_, _, _, _, hlt⟩ := zak ot e
    omega
   have a96 := v96.at
   have a146 := v146.at
   have q6r := Kp.refl u6 n_
   refine KGO ?_
   refine RunV.of (bs1Tm ⟨NL[j].field, NL[j].word, encP Z⟩ _) ?_
   obtain ⟨a_b15, v_b15, k_u7, z_u7, r_u7⟩ := new5 u6 56 (tmC ⟨NL[j].field, NL[j].word, encP Z⟩)
   generalize u6.alloc (.cells (List.toArray (tmC ⟨NL[j].field, NL[j].word, encP Z⟩)) 56) = u7 at *
   generalize hs_b15 : u6.heap.size = b15 at *
   have k7 := k_u7
   have ot7 := zac ot6 k7
   have z7 := k7.size
   have z6 := k6.size
   have z5 := j5.size
   refine KGO ?_
   refine tyTm.app1 (⟨NL[j].field, NL[j].word, encP Z⟩ : Trm) ot7 (by omega) a_b15 (by omega) (by omega) fun v8 u8 o8 k8 => ?_
   obtain ⟨a8, c8, rfl⟩ := zab o8
   have K78 : Kp u6 u8 (own_ (.slice aT TL.length cT)) := k7.of_none.trans' k8
   have v98 := v96.keep K78 (zae ot6 v96 (by decide))
   have ho8 := zad (D := [3]) ho6 K78 (zaC ot6 (by decide)) (by decide)
   refine KGO ?_
   refine Store.cellK (i := 0) v98 (by simp) (by rfl) ⟨rfl, by simp, by simp⟩ fun u9 v99 k9 => ?_
   have o9 := zad (D := [56]) o8 k9 (zaf v98 (by decide)) (by decide)
   have ho9 := zad (D := [3]) ho8 k9 (zaf v98 (by decide)) (by decide)
   have K49 : Kp w12 u9 (one_ b9) := (((K4.trans' j5.of_none).trans k6 fun q hq e => by
    exfalso
    have e : q = b14 := e
    omega).trans K78 fun q hq e => (by
    exfalso
    obtain ⟨_, _, _, hB, _⟩ := zak ot e
    omega)).trans' k9
   refine KGO ?_
   exact ⟨(j + 1, a8, c8, TL ++ [(⟨NL[j].field, NL[j].word, encP Z⟩ : Trm)]), ⟨rfl, rfl, rfl, rfl, rfl, rfl, v_int (by simp), trivial⟩, ⟨K49, by dsimp only; omega, v99, o9, ho9, hts2.symm⟩, by dsimp only; omega⟩
  | false =>
   obtain ⟨A, hA⟩ : ∃ A : Sgm, A = ⟨[], []⟩ := ⟨_, rfl⟩
   have rw3 := nilS w
   have bA : Bd (⟨[], []⟩ : Sgm) 1000000 1000000 100000 := zei _ _ _
   rw [← hA] at rw3 bA ⊢
   rw [show validS b = ⟨[], []⟩ from if_neg (by rw [hS]; exact fun h => by cases h)]
   obtain ⟨B, hB⟩ : ∃ B : Sgm, B = ⟨[], []⟩ := ⟨_, rfl⟩
   have rw4 := nilS w
   have bB : Bd (⟨[], []⟩ : Sgm) 1000000 1000000 100000 := zei _ _ _
   rw [← hB] at rw4 bB ⊢
   refine KGO ?_
   refine RunV.of (build0Sm _) ?_
   refine KGO ?_
   refine Store.varK [.slice none 0 0, .slice none 0 0] v4 (by rfl) rfl (zaq (by rfl)) fun w7 z4 k7 => ?_
   have Kz := zah K6 k7 (by omega)
   have z3 := z3.keep k7 (show ¬ b3 = b4 by omega)
   have z6 := v6.keep k7 (show ¬ b6 = b4 by omega)
   clear bA0 bB0 K6 v4 v6 hR hS hA hB ra rb nilS k7
   have hF : ∀ t : Trm, cntP (orF (postsT A.terms t.key) (postsT B.terms t.key)) ≤ 200000 := fun t => by
    rw [zeN (zao _ _) (zao _ _)]
    have h1 := zaK A.terms t.key 100000 fun t ht => (bA.x t ht).2.2
    have h2 := zaK B.terms t.key 100000 fun t ht => (bB.x t ht).2.2
    have := zdt _ (postsT A.terms t.key) (postsT B.terms t.key) (Nat.le_refl _)
    omega
   have dA := bA.d
   have dB := bB.d
   have tA := bA.t
   have tB := bB.t
   have z6l := z6.lt
   refine KGO ?_
   obtain ⟨a_b9, v_b9, k_wy, z_wy, r_wy⟩ := new5 w7 31 ([.slice none 0 0, .slice none 0 0])
   generalize w7.alloc (.cells (List.toArray ([.slice none 0 0, .slice none 0 0])) 31) = wy at *
   generalize hs_b9 : w7.heap.size = b9 at *
   have Ky := Kz.trans0 k_wy
   have z3 := z3.keep0 k_wy
   have z4 := z4.keep0 k_wy
   have z6 := z6.keep0 k_wy
   have y3 := z3.at
   have y4 := z4.at
   have qy := Kp.refl wy n_
   have v9 := v_b9
   have hb69 : b6 < b9 := by have := z6l; omega
   clear a_b9 v_b9 r_wy
   refine KGO ?_
   refine CallS.of (Tryz.call40 _ _) (zbN (w := wy) A.docs B.docs (rw3.keep Ky).d (rw4.keep Ky).d (by omega) (by omega)) ?_
   rintro e w10 ⟨v10, rfl, o10, k10⟩
   have K10 := Ky.trans0 k10
   have z3 := z3.keep0 k10
   have z4 := z4.keep0 k10
   have z6 := z6.keep0 k10
   have v9 := v9.keep0 k10
   have hUl := zbI B.docs A.docs
   obtain ⟨UN, hUN⟩ : ∃ UN, B.docs.foldl withL A.docs = UN := ⟨_, rfl⟩
   rw [hUN] at o10 hUl
   obtain ⟨a10, c10, rfl⟩ := zab o10
   clear y3 y4 qy k10 Ky Kz k_wy
   refine RT ?_
   refine KGO ?_
   refine Loop.intro (ι := Nat × Option Addr × Nat × List Int) (fun p => [(2, .slice ad dead.length cd), (3, .pointer (some ⟨b3, 0, none⟩)), (4, .pointer (some ⟨b4, 0, none⟩)), (6, .pointer (some ⟨b6, 0, none⟩)), (9, .pointer (some ⟨b9, 0, none⟩)), (10, .slice a10 UN.length c10), (11, .int .i64 (p.1 : Nat))])
    (fun p wr => Kp w10 wr (one_ b9) ∧ p.1 ≤ UN.length ∧ VarK wr b9 31 [.slice none 0 0, .slice p.2.1 p.2.2.2.length p.2.2.1] ∧ OwnI wr w10.heap.size (.slice p.2.1 p.2.2.2.length p.2.2.1) p.2.2.2 ∧ p.2.2.2 = (UN.take p.1).filter fun d => !decide (d ∈ dead)) (fun p => UN.length - p.1) (0, none, 0, []) ⟨rfl, rfl, rfl, rfl, rfl, rfl, rfl, trivial⟩ ⟨Kp.refl _ _, Nat.zero_le _, v9, World.ownsRow_nil _ _ _ _, rfl⟩ ?_
   rintro ⟨i, ao, co, FL⟩ gg wr ⟨hK, hi, v9r, ho, hFL⟩
   dsimp only at hi v9r ho hFL ⊢
   have hfl : FL.length ≤ i := by rw [hFL]; exact Nat.le_trans (List.length_filter_le _ _) (by rw [List.length_take]; exact Nat.min_le_left _ _)
   have hzr := hK.size
   have Kr : Kp w wr n_ := zah K10 hK (by omega)
   refine GW ?_
   by_cases hlt : i < UN.length
   ·have hts : (UN.take (i + 1)).filter (fun d => !decide (d ∈ dead)) = FL ++ if UN[i] ∈ dead then [] else [UN[i]] := by
     rw [hFL, List.take_succ_eq_append_getElem hlt, List.filter_append, List.filter_cons]
     by_cases h : UN[i] ∈ dead <;> simp [h]
    have o10r := zad (D := [3]) o10 hK (zaf v9 (by decide)) (by decide)
    obtain ⟨ga, ega, _, _, hata⟩ := zbH o10r (by omega)
    obtain rfl := ega
    have ci := zaX hata hlt
    refine KGO ?_
    refine CallS.of (Tryz.call19 _ _) (zdy (w := wr) dead UN[i] (rd0.keep Kr) (by omega)) ?_
    rintro e w11 ⟨rfl, k11⟩
    have K11 := hK.trans' k11.of_none
    have v11 := v9r.keep0 k11
    refine RT ?_
    by_cases hin : UN[i] ∈ dead
    ·rw [decide_eq_true hin]
     rw [if_pos hin, List.append_nil] at hts
     refine KGO ?_
     exact ⟨(i + 1, ao, co, FL), ⟨rfl, rfl, rfl, rfl, rfl, rfl, v_int (by simp), trivial⟩, ⟨K11, by dsimp only; omega, v11, zac ho k11, hts.symm⟩, by dsimp only; omega⟩
    ·rw [decide_eq_false hin]
     rw [if_neg hin] at hts
     have ci := zav ci k11
     have hnga : ¬ own_ (.slice ao FL.length co) ga := fun e => by
      obtain ⟨_, _, _, hB, _⟩ := zak ho e
      obtain ⟨_, _, _, _, hgl⟩ := zak o10 (q := ga) rfl
      omega
     have a11 := v11.at
     have q11 := Kp.refl w11 n_
     have ho11 := zac ho k11
     refine KGO ?_
     have kd := q11.drew
     refine Draw.heldEnd (fun u => Kp w11 u (own_ (.slice ao FL.length co))) (fun _ => true) (by simp) (by decide +kernel) (by decide +kernel) kd.of_none ?_
     refine GW ?_
     refine Held.one (by rfl) (fun u hu => (v11.keep hu (zae ho11 v11 (by decide))).at 1 _ rfl) ?_
     refine KGO ?_
     refine Held.one (by rfl) (fun u hu => zer ci hu hnga) ?_
     refine KGO ?_
     refine RunV.of (bs1I UN[i] _) ?_
     obtain ⟨a_b14, v_b14, k_w12, z_w12, r_w12⟩ := new5 w11.drew 3 (inC UN[i])
     generalize w11.drew.alloc (.cells (List.toArray (inC UN[i])) 3) = w12 at *
     generalize hs_b14 : w11.drew.heap.size = b14 at *
     have k12 := kd.trans0 k_w12
     have ho12 := zac ho11 k12
     have z12 := k12.size
     have z11 := K11.size
     refine ⟨k12.of_none, ?_⟩
     refine GW ?_
     refine tyI.app1 UN[i] ho12 (by omega) a_b14 (by omega) (by omega) fun v5' w13 o13 k13 => ?_
     obtain ⟨a13, c13, rfl⟩ := zab o13
     have K13 : Kp w11 w13 (own_ (.slice ao FL.length co)) := k12.of_none.trans' k13
     have v13 := v11.keep K13 (zae ho11 v11 (by decide))
     refine ⟨K13, ?_⟩
     refine GW ?_
     refine Store.cellK (i := 1) v13 (by simp) (by rfl) ⟨rfl, by simp, by simp⟩ fun w14 v14 k14 => ?_
     have o14 := zad (D := [3]) o13 k14 (zaf v13 (by decide)) (by decide)
     have K14 : Kp w10 w14 (one_ b9) := (K11.trans K13 fun q hq e => (by exfalso; obtain ⟨_, _, _, hB, _⟩ := zak ho11 e; omega)).trans' k14
     refine KGO ?_
     exact ⟨(i + 1, a13, c13, FL ++ [UN[i]]), ⟨rfl, rfl, rfl, rfl, rfl, rfl, v_int (by simp), trivial⟩, ⟨K14, by dsimp only; omega, v14, o14, hts.symm⟩, by dsimp only; omega⟩
   rw [List.take_of_length_le (by omega)] at hFL
   have z3 := z3.keep hK (show ¬ b3 = b9 by omega)
   have z4 := z4.keep hK (show ¬ b4 = b9 by omega)
   have z6 := z6.keep hK (show ¬ b6 = b9 by omega)
   have y3 := z3.at
   have y4 := z4.at
   have qr := Kp.refl wr n_
   have hn3 := RowO.len rw3.t
   have hn4 := RowO.len rw4.t
   clear o10 hK v9
   refine KGO ?_
   refine CallS.of (Tryz.call41 _ _) (zcT (w := wr) A.terms B.terms (rw3.keep Kr).t (rw4.keep Kr).t (by omega) (by omega)) ?_
   rintro e w12 ⟨v12, rfl, o12, k12⟩
   have K12 := Kr.trans0 k12
   have z3 := z3.keep0 k12
   have z4 := z4.keep0 k12
   have z6 := z6.keep0 k12
   have v9 := v9r.keep0 k12
   have ho := zac ho k12
   have hNl : (namesL A.terms B.terms).length ≤ A.terms.length + B.terms.length := by
    rw [zaT _ A.terms B.terms (Nat.le_refl _), List.length_map]; exact zco _ _
   obtain ⟨NL, hNL⟩ : ∃ NL, namesL A.terms B.terms = NL := ⟨_, rfl⟩
   rw [hNL] at o12 hNl
   obtain ⟨a12, c12, rfl⟩ := zab o12
   clear y3 y4 qr k12 Kr v9r
   refine RT ?_
   refine KGO ?_
   refine Loop.intro (ι := Nat × Option Addr × Nat × List Trm) (fun p => [(2, .slice ad dead.length cd), (3, .pointer (some ⟨b3, 0, none⟩)), (4, .pointer (some ⟨b4, 0, none⟩)), (6, .pointer (some ⟨b6, 0, none⟩)), (9, .pointer (some ⟨b9, 0, none⟩)), (12, .slice a12 NL.length c12), (13, .int .i64 (p.1 : Nat))])
    (fun p wq => Kp w12 wq (one_ b9) ∧ p.1 ≤ NL.length ∧ VarK wq b9 31 [.slice p.2.1 p.2.2.2.length p.2.2.1, .slice ao FL.length co] ∧ OwnR 56 tmC 3 wq w12.heap.size (.slice p.2.1 p.2.2.2.length p.2.2.1) p.2.2.2 ∧ OwnI wq w10.heap.size (.slice ao FL.length co) FL ∧ p.2.2.2 = (NL.take p.1).filterMap fun t => termOf dead (t, orF (postsT A.terms t.key) (postsT B.terms t.key))) (fun p => NL.length - p.1) (0, none, 0, []) ⟨rfl, rfl, rfl, rfl, rfl, rfl, rfl, trivial⟩ ⟨Kp.refl _ _, Nat.zero_le _, v9, World.ownsRow_nil _ _ _ _, ho, rfl⟩ ?_
   clear ho
   rintro ⟨j, aT, cT, TL⟩ gg2 wq ⟨hK, hj, v9q, ot, ho, hTL⟩
   dsimp only at hj v9q ot ho hTL ⊢
   have htl : TL.length ≤ j := by rw [hTL]; exact Nat.le_trans (List.length_filterMap_le _ _) (by rw [List.length_take]; exact Nat.min_le_left _ _)
   have hzq := hK.size
   have lt9 := v9.lt
   have Kq : Kp w wq n_ := zah K12 hK (by omega)
   have z3q := z3.keep hK (show ¬ b3 = b9 by omega)
   have z4q := z4.keep hK (show ¬ b4 = b9 by omega)
   refine GW ?_
   by_cases hjt : j < NL.length
   rotate_left
   ·rw [List.take_of_length_le (by omega)] at hTL
    have z6q := z6.keep hK (show ¬ b6 = b9 by omega)
    have a9 := v9q.at
    have qq := Kp.refl wq n_
    clear o12 hF
    refine KGO ?_
    refine Store.varK (P := Tryz.prog) (t := 31) [.slice aT TL.length cT, .slice ao FL.length co] z6q (by rfl) rfl (zaq (by rfl)) fun w15 v15 k15 => ?_
    have a15 := v15.at
    have q15 := Kp.refl w15 n_
    refine KGO ?_
    refine GW ?_
    refine ⟨⟨⟨aT, TL.length, cT⟩, ⟨ao, FL.length, co⟩⟩, rfl, ?_, zah Kq k15 (by omega)⟩
    rw [hUN, hNL, ← hTL, ← hFL]
    have z10 := K10.size
    have z12 := K12.size
    exact ⟨zar (zad (D := [56]) ot k15 (zaf z6q (by decide)) (by decide)) (by omega), zar (zad (D := [3]) ho k15 (zaf z6q (by decide)) (by decide)) (by omega)⟩
   have o12q := zad (D := [56]) o12 hK (zaf v9 (by decide)) (by decide)
   obtain ⟨gN, egN, _, _, hatN⟩ := zbH o12q (by omega)
   obtain rfl := egN
   have qq := Kp.refl wq n_
   refine KGO ?_
   have v14 := VarK.new wq 56 (tmC NL[j])
   refine Store.fresh (vs := tmC NL[j]) (by rfl) rfl (zaq (by rfl)) ?_
   obtain ⟨a_b14, k_w13, z_w13⟩ := new3 wq 56 (tmC NL[j])
   generalize wq.alloc (.cells (List.toArray (tmC NL[j])) 56) = w13 at *
   generalize hs_b14 : wq.heap.size = b14 at *
   have K13 := Kq.trans0 k_w13
   have z3q := z3q.keep0 k_w13
   have z4q := z4q.keep0 k_w13
   have kd := (Kp.refl w13 n_).drew
   clear a_b14 hatN qq
   refine KGO ?_
   refine Draw.held (fun u => Kp w13 u n_) (fun _ => true) (by decide +kernel) kd ?_
   refine GW ?_
   refine HeldG (sgC ⟨⟨none, 0, 0⟩, ⟨none, 0, 0⟩⟩) (by rfl) (by rfl) (fun u hu => (z3q.keep0 hu).at) (by rfl) ?_
   refine GW ?_
   refine Held.one (by rfl) (fun u hu => (v14.keep0 hu).at 0 _ rfl) ?_
   refine GW ?_
   refine Held.one (by rfl) (fun u hu => (v14.keep0 hu).at 1 _ rfl) ?_
   refine GW ?_
   refine CallS.of (Tryz.call43 _ _) (zaQ (w := w13.drew) ⟨⟨none, 0, 0⟩, ⟨none, 0, 0⟩⟩ A NL[j].field NL[j].word (rw3.keep (K13.trans0 kd)).t (by omega) (fun t ht => by have := (bA.x t ht).2.1; omega)) ?_
   rintro e u1 ⟨p1, rfl, op1, j1⟩
   obtain ⟨pa1, pc1, rfl⟩ := op1.shape
   have J1 := kd.trans0 j1
   refine RT ?_
   refine ⟨J1, ?_⟩
   refine GW ?_
   refine HeldG (sgC ⟨⟨none, 0, 0⟩, ⟨none, 0, 0⟩⟩) (by rfl) (by rfl) (fun u hu => (z4q.keep0 hu).at) (by rfl) ?_
   refine GW ?_
   refine Held.one (by rfl) (fun u hu => (v14.keep0 hu).at 0 _ rfl) ?_
   refine GW ?_
   refine Held.one (by rfl) (fun u hu => (v14.keep0 hu).at 1 _ rfl) ?_
   refine GW ?_
   refine CallS.of (Tryz.call43 _ _) (zaQ (w := u1) ⟨⟨none, 0, 0⟩, ⟨none, 0, 0⟩⟩ B NL[j].field NL[j].word (rw4.keep (K13.trans0 J1)).t (by omega) (fun t ht => by have := (bB.x t ht).2.1; omega)) ?_
   rintro e u2 ⟨p2, rfl, op2, j2⟩
   obtain ⟨pa2, pc2, rfl⟩ := op2.shape
   have J2 := J1.trans0 j2
   refine RT ?_
   refine ⟨J2, ?_⟩
   refine GW ?_
   have e1 := zaK A.terms (NL[j].field, NL[j].word) 100000 fun t ht => (bA.x t ht).2.2
   have e2 := zaK B.terms (NL[j].field, NL[j].word) 100000 fun t ht => (bB.x t ht).2.2
   have e3 : cntP (orF (postsT A.terms (NL[j].field, NL[j].word)) (postsT B.terms (NL[j].field, NL[j].word))) ≤ 200000 := hF NL[j]
   have f1 := zaD (postsT A.terms (NL[j].field, NL[j].word))
   have f2 := zaD (postsT B.terms (NL[j].field, NL[j].word))
   have g1 : ∀ p ∈ postsT A.terms (NL[j].field, NL[j].word), p.places.length ≤ 10000000 := fun p hp => by have := zaF _ p hp; unfold cntP at e1; omega
   have g2 : ∀ p ∈ postsT B.terms (NL[j].field, NL[j].word), p.places.length ≤ 10000000 := fun p hp => by have := zaF _ p hp; unfold cntP at e2; omega
   unfold cntP at e1 e2
   have hcall := zgH (w := u2) (postsT A.terms (NL[j].field, NL[j].word)) (postsT B.terms (NL[j].field, NL[j].word)) (op1.keep j2).row op2.row (by omega) (by omega) g1 g2
   refine CallS.of (Tryz.call42 _ _) hcall ?_
   rintro e u3 ⟨p3, rfl, op3, j3⟩
   obtain ⟨pa3, pc3, rfl⟩ := op3.shape
   have J3 := J2.trans0 j3
   refine RT ?_
   refine ⟨J3, ?_⟩
   have hFt : termOf dead (NL[j], orF (postsT A.terms NL[j].key) (postsT B.terms NL[j].key)) = termOf dead (NL[j], orF (postsT A.terms (NL[j].field, NL[j].word)) (postsT B.terms (NL[j].field, NL[j].word))) := rfl
   obtain ⟨X, hX⟩ : ∃ X, orF (postsT A.terms (NL[j].field, NL[j].word)) (postsT B.terms (NL[j].field, NL[j].word)) = X := ⟨_, rfl⟩
   rw [hX] at op3 e3 hFt ⊢
   have hXl := zaD X
   clear hcall e1 e2 f1 f2 g1 g2 op1 op2 hF j1 j2 j3 J1 J2 kd
   refine KGO ?_
   have e3' : (encN 0 X).length ≤ 200000 := e3
   refine CallS.of (Tryz.call44 _ _) (zcx (w := u3) X dead op3.row (rd0.keep (K13.trans0 J3)) (by omega) (by omega)) ?_
   rintro e u4 ⟨p4, rfl, op4, j4⟩
   obtain ⟨pa4, pc4, rfl⟩ := RowP.shape op4
   have J4 := J3.trans0 j4
   have K4 : Kp w12 u4 (one_ b9) := hK.trans' (k_w13.trans0 J4).of_none
   have kw4 := k_w13.trans0 J4
   have v9u := v9q.keep0 kw4
   have otu := zac ot kw4
   have hou := zac ho kw4
   have v14u := v14.keep0 J4
   have hb914 : b9 < b14 := by have := v9q.lt; omega
   have z4u := kw4.size
   have hts : (NL.take (j + 1)).filterMap (fun t => termOf dead (t, orF (postsT A.terms t.key) (postsT B.terms t.key))) = TL ++ (termOf dead (NL[j], X)).toList := by
    have h1 : ∀ F : Trm → Option Trm, (NL.take (j + 1)).filterMap F = (NL.take j).filterMap F ++ (F NL[j]).toList := fun F => by
     rw [List.take_succ_eq_append_getElem hjt, List.filterMap_append]
     cases h : F NL[j] <;> simp [h]
    rw [h1, ← hTL]
    show TL ++ (termOf dead (NL[j], orF (postsT A.terms NL[j].key) (postsT B.terms NL[j].key))).toList = _
    rw [show orF (postsT A.terms NL[j].key) (postsT B.terms NL[j].key) = X from hX]
   have hZc : (encN 0 (liveP dead X)).length ≤ 200000 := Nat.le_trans (zbu _ X) e3
   have hZl := zaD (liveP dead X)
   have hZp : ∀ p ∈ liveP dead X, p.places.length ≤ 17592186044416 := fun p hp => by have := zaF _ p hp; omega
   refine RT ?_
   by_cases hz : liveP dead X = []
   ·have hz0 : (liveP dead X).length = 0 := by rw [hz]; rfl
    rw [show termOf dead (NL[j], X) = none from if_pos hz] at hts
    have hts2 : (NL.take (j + 1)).filterMap (fun t => termOf dead (t, orF (postsT A.terms t.key) (postsT B.terms t.key))) = TL := hts.trans (List.append_nil _)
    clear hz hts hTL hFt hX hZp
    refine KGO ?_
    exact ⟨(j + 1, aT, cT, TL), ⟨rfl, rfl, rfl, rfl, rfl, rfl, v_int (by simp), trivial⟩, ⟨K4, by dsimp only; omega, v9u, otu, hou, hts2.symm⟩, by dsimp only; omega⟩
   have hz0 : 0 < (liveP dead X).length := List.length_pos_iff.2 hz
   rw [show termOf dead (NL[j], X) = some ⟨NL[j].field, NL[j].word, encP (liveP dead X)⟩ from if_neg hz] at hts
   have hts2 : (NL.take (j + 1)).filterMap (fun t => termOf dead (t, orF (postsT A.terms t.key) (postsT B.terms t.key))) = TL ++ [⟨NL[j].field, NL[j].word, encP (liveP dead X)⟩] := hts
   clear hz hts hTL hFt hX
   obtain ⟨Z, hZ⟩ : ∃ Z, liveP dead X = Z := ⟨_, rfl⟩
   rw [hZ] at op4 hz0 hts2 hZc hZl hZp ⊢
   refine KGO ?_
   refine CallS.of (Tryz.call45 _ _) (zbw (w := u4) Z op4 (by omega) hZp (by omega)) ?_
   rintro e u5 ⟨rfl, j5⟩
   have v14v := v14u.keep0 j5
   have v9v := v9u.keep0 j5
   refine RT ?_
   refine KGO ?_
   refine Store.cellK (i := 2) v14v (by simp [tmC]) (by rfl) ⟨rfl, by simp, by simp⟩ fun u6 v146 k6 => ?_
   have v146 : VarK u6 b14 56 (tmC ⟨NL[j].field, NL[j].word, encP Z⟩) := v146
   have K46 : Kp u4 u6 (one_ b14) := j5.of_none.trans' k6
   have v96 := v9u.keep K46 (show ¬ b9 = b14 by omega)
   have hn14 : ¬ own_ (.slice aT TL.length cT) b14 := fun e => by
    obtain ⟨_, _, _, _, hlt⟩ := zak ot e
    omega
   have ot6 := zay otu K46 (fun q hq e => hn14 (by have e : q = b14 := e; rw [← e]; exact hq))
   have ho6 := zad (D := [3]) hou K46 (fun q hq e => zaf v14u (by decide) q hq e) (by decide)
   have q6 := (Kp.refl u6 n_).drew
   clear v14v v9v K46 hn14
   have hn14 : ¬ own_ (.slice aT TL.length cT) b14 := fun e => by
    obtain ⟨_, _, _, _, hlt⟩ := zak ot e
    omega
   have a96 := v96.at
   have a146 := v146.at
   have q6r := Kp.refl u6 n_
   refine KGO ?_
   refine RunV.of (bs1Tm ⟨NL[j].field, NL[j].word, encP Z⟩ _) ?_
   obtain ⟨a_b15, v_b15, k_u7, z_u7, r_u7⟩ := new5 u6 56 (tmC ⟨NL[j].field, NL[j].word, encP Z⟩)
   generalize u6.alloc (.cells (List.toArray (tmC ⟨NL[j].field, NL[j].word, encP Z⟩)) 56) = u7 at *
   generalize hs_b15 : u6.heap.size = b15 at *
   have k7 := k_u7
   have ot7 := zac ot6 k7
   have z7 := k7.size
   have z6 := k6.size
   have z5 := j5.size
   refine KGO ?_
   refine tyTm.app1 (⟨NL[j].field, NL[j].word, encP Z⟩ : Trm) ot7 (by omega) a_b15 (by omega) (by omega) fun v8 u8 o8 k8 => ?_
   obtain ⟨a8, c8, rfl⟩ := zab o8
   have K78 : Kp u6 u8 (own_ (.slice aT TL.length cT)) := k7.of_none.trans' k8
   have v98 := v96.keep K78 (zae ot6 v96 (by decide))
   have ho8 := zad (D := [3]) ho6 K78 (zaC ot6 (by decide)) (by decide)
   refine KGO ?_
   refine Store.cellK (i := 0) v98 (by simp) (by rfl) ⟨rfl, by simp, by simp⟩ fun u9 v99 k9 => ?_
   have o9 := zad (D := [56]) o8 k9 (zaf v98 (by decide)) (by decide)
   have ho9 := zad (D := [3]) ho8 k9 (zaf v98 (by decide)) (by decide)
   have K49 : Kp w12 u9 (one_ b9) := (((K4.trans' j5.of_none).trans k6 fun q hq e => by
    exfalso
    have e : q = b14 := e
    omega).trans K78 fun q hq e => (by
    exfalso
    obtain ⟨_, _, _, hB, _⟩ := zak ot e
    omega)).trans' k9
   refine KGO ?_
   exact ⟨(j + 1, a8, c8, TL ++ [(⟨NL[j].field, NL[j].word, encP Z⟩ : Trm)]), ⟨rfl, rfl, rfl, rfl, rfl, rfl, v_int (by simp), trivial⟩, ⟨K49, by dsimp only; omega, v99, o9, ho9, hts2.symm⟩, by dsimp only; omega⟩
end
end Go.Proofs.YtcdpocffoapbeaaGreatDoor
