/- Helper lemmas that the proved statement rests on; no conditions of their own. -/
import Derived.Test.YtennokckmjcefaaGreatDoorGCd2
set_option linter.unusedVariables false
set_option maxHeartbeats 4000000
set_option maxRecDepth 100000
namespace Go.Proofs.YtennokckmjcefaaGreatDoor
open Go.Shelf Go.RowKit Go.Pw Go.Vc Go.Cs Go.Lib Go.Cd Go.Mg
section
variable {w : World}
theorem zjY {v : Value} (l : List Int) (low : Int) (hv : RowI w v l) (hl : l.length ≤ 17592186044416) (hlow : -9223372036854775808 ≤ low ∧ low ≤ 9223372036854775807) : Calls Tryz.prog 238 #[v, .int .i64 low] w fun e w' => e = .returned (.bool (risesB low l)) ∧ Kp w w' n_ := by
 obtain ⟨a, ca, rfl, hra⟩ := hv
 refine zaa (args := [.slice a l.length ca, .int .i64 low]) Tryz.func238 rfl NL ?_; refine GW ?_
 refine Loop.intro (ι := Nat × Int) (fun i => [(1, .int .i64 i.2), (7, .slice a l.length ca), (8, .int .i64 (l.length : Nat)), (9, .int .i64 (i.1 : Nat))])
  (fun i wr => Kp w wr n_ ∧ i.1 ≤ l.length ∧ risesB low l = risesB i.2 (l.drop i.1) ∧ -9223372036854775808 ≤ i.2 ∧ i.2 ≤ 9223372036854775807) (fun i => l.length - i.1) (0, low) ⟨rfl, rfl, rfl, rfl, trivial⟩ ⟨Kp.refl _ _, Nat.zero_le _, rfl, hlow⟩ ?_
 rintro ⟨i, lo⟩ gg wr ⟨hK, hi, ht, hlo⟩
 dsimp only at hi ht hlo ⊢
 refine GW ?_
 by_cases hlt : i < l.length
 ·obtain ⟨ga, oa, rfl, hga, hata⟩ := hra (by omega)
  have ca := zcI hata hlt
  rw [List.drop_eq_getElem_cons hlt, risesB] at ht
  by_cases h1 : l[i] < lo
  ·refine KGO ?_
   exact ⟨zal (by rw [ht, decide_eq_false (by omega)]; rfl), hK⟩
  by_cases h2 : 1099511627776 < l[i]
  ·refine KGO ?_
   exact ⟨zal (by rw [ht, decide_eq_false (by omega)]; rfl), hK⟩
  refine KGO ?_
  exact ⟨(i + 1, l[i] + 1), ⟨rfl, rfl, rfl, v_int (by simp), trivial⟩, ⟨hK, by dsimp only; omega, by rw [ht, decide_eq_true (by omega)]; rfl, by dsimp only; omega⟩, by dsimp only; omega⟩
 ·refine KGO ?_
  rw [List.drop_eq_nil_of_le (by omega)] at ht
  exact ⟨zal (by rw [ht]; rfl), hK⟩
theorem zlG {v : Value} (lx : List Pr) (hv : RdP w v lx) (hl : lx.length ≤ 1000000000000) : Calls Tryz.prog 105 #[v] w fun e w' => ∃ v', e = .returned v' ∧ OwnI w' w.heap.size v' (lx.map (·.p.doc)) ∧ Kp w w' n_ := by
 obtain ⟨⟨a, ca, rfl, hra⟩, _, _, _⟩ := hv
 refine zaa (args := [.slice a lx.length ca]) Tryz.func105 rfl NL ?_; refine GW ?_
 refine Loop.intro (ι := Nat × Value) (fun i => [(3, i.2), (6, .slice a lx.length ca), (7, .int .i64 (lx.length : Nat)), (8, .int .i64 (i.1 : Nat))])
  (fun i wr => Kp w wr n_ ∧ i.1 ≤ lx.length ∧ OwnI wr w.heap.size i.2 ((lx.take i.1).map (·.p.doc))) (fun i => lx.length - i.1) (0, .slice none 0 0) ⟨rfl, rfl, rfl, rfl, trivial⟩ ⟨Kp.refl _ _, Nat.zero_le _, World.ownsRow_nil _ _ _ _⟩ ?_
 rintro ⟨i, vo⟩ gg wr ⟨hK, hi, ho⟩
 dsimp only at hi ho ⊢
 obtain ⟨ao, co, rfl⟩ := zab ho
 have hzr := hK.size
 refine GW ?_
 by_cases hlt : i < lx.length
 ·obtain ⟨ga, oa, rfl, hga, hata⟩ := hra (by omega)
  refine KGO ?_
  refine Store.fresh (vs := prC lx[i]) (by rfl) rfl (zax (by rfl)) ?_
  obtain ⟨a_b1, k_w1, z_w1⟩ := new3 wr 44 (prC lx[i])
  generalize wr.alloc (.cells (List.toArray (prC lx[i])) 44) = w1 at *
  generalize hs_b1 : wr.heap.size = b1 at *
  refine KGO ?_
  refine RunV.of (bs1I lx[i].p.doc _) ?_
  obtain ⟨a_b2, v_b2, k_w2, z_w2, r_w2⟩ := new5 w1 3 (inC lx[i].p.doc)
  generalize w1.alloc (.cells (List.toArray (inC lx[i].p.doc)) 3) = w2 at *
  generalize hs_b2 : w1.heap.size = b2 at *
  refine KGO ?_
  refine tyI.app1 lx[i].p.doc (zac (zac ho k_w1) k_w2) (by omega) a_b2 (by rw [List.length_map, List.length_take]; omega) (by rw [List.length_map, List.length_take]; omega) fun v3 w3 o3 k3 => ?_
  have J3 := zaU (zac (zac ho k_w1) k_w2) k3 (hK.trans0 (k_w1.trans0 k_w2)) (Nat.le_refl _)
  obtain ⟨a3, c3, rfl⟩ := zab o3
  refine KGO ?_
  exact ⟨(i + 1, _), ⟨rfl, rfl, rfl, v_int (by simp), trivial⟩, ⟨J3, by dsimp only; omega, by rw [List.take_succ_eq_append_getElem hlt, List.map_append]; exact o3⟩, by dsimp only; omega⟩
 ·refine KGO ?_
  obtain rfl : i = lx.length := by omega
  rw [List.take_length] at ho
  exact ⟨_, rfl, by rw [List.take_length]; exact ho, hK⟩
theorem zoC {v : Value} (l : List Pst) (hv : RowP w v l) (hl : l.length ≤ 1000000000000) (hpn : ∀ p ∈ l, p.places.length ≤ 17592186044416) : Calls Tryz.prog 205 #[v] w fun e w' => e = .returned (.bool (rightP l)) ∧ Kp w w' n_ := by
 obtain ⟨lx, rfl, hv⟩ := hv
 rw [List.length_map] at hl
 have hpn : ∀ x ∈ lx, x.p.places.length ≤ 17592186044416 := fun x hx => hpn x.p (List.mem_map_of_mem hx)
 have hv0 := hv
 obtain ⟨⟨a, ca, rfl, hra⟩, hpl, _, _⟩ := hv
 refine zaa (args := [.slice a lx.length ca]) Tryz.func205 rfl NL ?_; refine GW ?_
 refine Loop.intro (ι := Nat) (fun i => [(0, .slice a lx.length ca), (5, .slice a lx.length ca), (6, .int .i64 (lx.length : Nat)), (7, .int .i64 (i : Nat))])
  (fun i wr => Kp w wr n_ ∧ i ≤ lx.length ∧ ∀ x ∈ lx.take i, okPl x.p = true) (fun i => lx.length - i) 0 ⟨rfl, rfl, rfl, rfl, trivial⟩ ⟨Kp.refl _ _, Nat.zero_le _, by simp⟩ ?_
 rintro i gg wr ⟨hK, hi, ht⟩
 refine GW ?_
 by_cases hlt : i < lx.length
 ·obtain ⟨ga, oa, rfl, hga, hata⟩ := hra (by omega)
  have hpi := (hpl lx[i] (List.getElem_mem hlt)).keep hK
  have hno : okPl lx[i].p = false → rightP (lx.map (·.p)) = false := fun h => by
   unfold rightP
   rw [List.all_eq_false.2 ⟨lx[i].p, List.mem_map_of_mem (List.getElem_mem hlt), by rw [h]; decide⟩]; rfl
  have hn := RowO.len hpi
  refine KGO ?_
  refine Store.fresh (vs := prC lx[i]) (by rfl) rfl (zax (by rfl)) ?_
  obtain ⟨a_b1, k_w1, z_w1⟩ := new3 wr 44 (prC lx[i])
  generalize wr.alloc (.cells (List.toArray (prC lx[i])) 44) = w1 at *
  generalize hs_b1 : wr.heap.size = b1 at *
  have J1 := hK.trans0 k_w1
  refine KGO ?_
  rw [hn]
  by_cases h0 : lx[i].p.places.length = 0
  ·refine KGO ?_
   exact ⟨zal (hno (by unfold okPl; rw [List.eq_nil_of_length_eq_zero h0]; rfl)).symm, J1⟩
  refine KGO ?_
  refine CallS.of (Tryz.call238 _ _) (zjY (w := w1) lx[i].p.places 0 (hpi.keep k_w1) (hpn _ (List.getElem_mem hlt)) (by omega)) ?_
  rintro e w2 ⟨rfl, k2⟩
  have J2 := J1.trans0 k2
  have hok : okPl lx[i].p = risesB 0 lx[i].p.places := by
   unfold okPl
   rw [show lx[i].p.places.isEmpty = false from by cases h : lx[i].p.places with | nil => rw [h] at h0; exact absurd rfl h0 | cons => rfl]; rfl
  rw [← hok]
  refine RT ?_
  cases hq : okPl lx[i].p with
  | false =>
   refine KGO ?_
   exact ⟨zal (hno hq).symm, J2⟩
  | true =>
   refine KGO ?_
   exact ⟨i + 1, ⟨rfl, rfl, rfl, v_int (by simp), trivial⟩, ⟨J2, by omega, fun x hx => by
    rw [List.take_succ_eq_append_getElem hlt, List.mem_append, List.mem_singleton] at hx
    rcases hx with hx | rfl
    ·exact ht x hx
    ·exact hq⟩, by dsimp only; omega⟩
 ·rw [List.take_of_length_le (by omega)] at ht
  refine KGO ?_
  refine CallS.of (Tryz.call105 _ _) (zlG (w := wr) lx (hv0.keep hK) hl) ?_
  rintro e w1 ⟨v1, rfl, o1, k1⟩
  obtain ⟨a1, c1, rfl⟩ := zab o1
  refine RT ?_
  refine CallS.of (Tryz.call238 _ _) (zjY (w := w1) (lx.map (·.p.doc)) 1 (zaw o1) (by rw [List.length_map]; omega) (by omega)) ?_
  rintro e w2 ⟨rfl, k2⟩
  refine RT ?_
  exact ⟨zal (by
   unfold rightP
   rw [List.all_eq_true.2 (fun p hp => by obtain ⟨x, hx, rfl⟩ := List.mem_map.1 hp; exact ht x hx), List.map_map]; rfl), (hK.trans0 k1).trans0 k2⟩
theorem zgS {b B : Nat} {pre : List UInt8} (n : Nat) (hb : Bld w B b pre) (hn : n < 2 ^ 63) (hsz : pre.length + (numE n).length ≤ 140737488355328) (hB : B ≤ w.heap.size) :
  Calls Tryz.prog 206 #[.int .i64 (n : Nat), .pointer (some ⟨b, 0, none⟩)] w fun e w' => e = .returned (.tuple #[]) ∧ Bld w' B b (pre ++ numE n) ∧ Kp w w' (bldQ w B b) := by
 refine zaa (args := [.int .i64 (n : Nat), .pointer (some ⟨b, 0, none⟩)]) Tryz.func206 rfl NL ?_; refine GW ?_
 refine CallS.of (Tryz.call67 _ _) (zrq n hn) ?_
 rintro e w1 ⟨rfl, k1⟩
 refine RT ?_
 have hln := zbx hn
 have hsz2 : (str (numE n)).size = (numE n).length := rfl
 refine CallS.of (Tryz.call66 _ _) (zgs (str (numE n)) w1 (zet hb k1) (by rw [hsz2]; omega) (Nat.le_trans hB k1.size)) ?_
 rintro e w2 ⟨rfl, hb2, hbe, hok⟩
 refine RT ?_
 have k2 := znk hbe hok
 exact ⟨rfl, hb2, ⟨k2.os.trans k1.os, k2.tape.trans k1.tape, k2.output.trans k1.output, Nat.le_trans k1.size k2.size, fun q hq hn => (k2.block q (Nat.lt_of_lt_of_le hq k1.size) fun e => hn ⟨e.1, e.2.imp id fun ⟨cs, z, h⟩ => ⟨cs, z, (k1.block q hq id).symm.trans h⟩⟩).trans (k1.block q hq id)⟩⟩
theorem zdC {v : Value} (l : List Pst) (hv : RowP w v l) (hl : l.length ≤ 1000000000000) (hpn : ∀ p ∈ l, p.places.length ≤ 17592186044416) (hsz : 9 * (encN 0 l).length + 9 ≤ 140737488355328) :
  Calls Tryz.prog 142 #[v] w fun e w' => e = .returned (.string (str (encP l))) ∧ Kp w w' n_ := by
 have hv0 := hv
 obtain ⟨lx, rfl, hv⟩ := hv
 rw [List.length_map] at hl
 obtain ⟨⟨a, ca, rfl, hra⟩, hpl, _, _⟩ := hv
 refine zaa (args := [.slice a lx.length ca]) Tryz.func142 rfl NL ?_; refine GW ?_
 refine CallS.of (Tryz.call205 _ _) (zoC (w := w) (lx.map (·.p)) hv0 (by rw [List.length_map]; exact hl) hpn) ?_
 rintro e w1 ⟨rfl, k1⟩
 refine RT ?_
 cases hq : rightP (lx.map (·.p)) with
 | false =>
  refine KGO ?_
  exact ⟨by unfold encP; rw [hq]; rfl, k1⟩
 | true =>
 refine KGO ?_
 have hb0 := zio w1 w1.heap.size (Nat.le_refl _)
 have K0 : Kp w1 (w1.alloc (.cells #[.pointer none, .slice none 0 0] 93)) n_ := (Kp.refl _ _).alloc _
 generalize w1.alloc (.cells #[.pointer none, .slice none 0 0] 93) = w2 at *
 generalize hs_b : w1.heap.size = b at *
 have hr := zbN.1 hq
 have hdl := zgV hq
 refine KGO ?_
 have hK0 : ∀ u u', Kp u u' (bldQ u b b) → Kp w1 u n_ → Kp w1 u' n_ := fun u u' h k => zme k h (by omega)
 have hel := zdk (lx.map (·.p))
 have het := zcK hq
 rw [List.length_map] at het
 obtain ⟨tot, htot⟩ : ∃ t, encP (lx.map (·.p)) = t := ⟨_, rfl⟩
 rw [htot] at hel het
 have hzz : ∀ u, Kp w1 u n_ → b ≤ u.heap.size := fun u k => by have := k.size; omega
 have hlen2 : (numE lx.length).length ≤ tot.length := by rw [het, List.length_append]; omega
 refine CallS.of (Tryz.call206 _ _) (zgS (w := w2) lx.length hb0 (by omega) (by simp; omega) (hzz _ K0)) ?_
 rintro e w3 ⟨rfl, hb3, hk3⟩
 have J3 : Kp w1 w3 n_ := hK0 _ _ hk3 K0
 clear hb0 hk3 hlen2
 refine RT ?_
 refine Loop.intro (ι := Nat × Int) (fun i => [(3, .pointer (some ⟨b, 0, none⟩)), (4, .func (.func 206) #[] #[.pointer (some ⟨b, 0, none⟩)]), (5, .int .i64 i.2), (19, .slice a lx.length ca), (20, .int .i64 (lx.length : Nat)), (21, .int .i64 (i.1 : Nat))])
  (fun i wr => Kp w1 wr n_ ∧ i.1 ≤ lx.length ∧ 0 ≤ i.2 ∧ i.2 ≤ 1099511627776 ∧ risesB i.2 ((lx.drop i.1).map (·.p.doc)) = true ∧ ∃ pre, Bld wr b b pre ∧ pre ++ (encN i.2 ((lx.drop i.1).map (·.p))).flatMap numE = tot) (fun i => lx.length - i.1) (0, 0)
  ⟨rfl, by simp [upd], rfl, rfl, rfl, rfl, trivial⟩ ⟨J3, Nat.zero_le _, by decide, by decide, by have := zbL hr.2 (show (0 : Int) ≤ 1 by decide); rw [List.map_map] at this; exact this, _, hb3, het.symm⟩ ?_
 rintro ⟨i, d⟩ gg wr ⟨hK, hi, hd0, hdm, hrs, pre, hbr, hpre⟩
 dsimp only at hi hd0 hdm hrs hpre ⊢
 refine GW ?_
 by_cases hlt : i < lx.length
 rotate_left
 ·refine KGO ?_
  rw [List.drop_eq_nil_of_le (by omega)] at hpre
  refine CallS.of (Tryz.call71 _ _) (zgB wr hbr (hzz _ hK)) ?_
  rintro e w4 ⟨rfl, hb4, hbe4, _⟩
  refine RT ?_
  exact ⟨by rw [htot, ← hpre]; simp [encN], (k1.trans0 hK).below' hbe4 (by have := k1.size; omega)⟩
 obtain ⟨ga, oa, rfl, hga, hata⟩ := hra (by omega)
 have hpi := (hpl lx[i] (List.getElem_mem hlt)).keep (k1.trans0 hK)
 have hri := hr.1 lx[i].p (List.mem_map_of_mem (List.getElem_mem hlt))
 have hpni := hpn lx[i].p (List.mem_map_of_mem (List.getElem_mem hlt))
 rw [List.drop_eq_getElem_cons hlt, List.map_cons] at hrs hpre
 rw [risesB, Bool.and_eq_true, decide_eq_true_eq] at hrs
 rw [encN] at hpre
 obtain ⟨⟨h1, h2⟩, hrs⟩ := hrs
 have hKw := k1.trans0 hK
 have hn : lx[i].h.n = lx[i].p.places.length := RowO.len hpi
 have hbl := zpv hbr
 refine KGO ?_
 have v_b4 := VarK.new wr 44 (prC lx[i])
 refine Store.fresh (vs := prC lx[i]) (by rfl) rfl (zax (by rfl)) ?_
 obtain ⟨a_b4, k_w4, z_w4⟩ := new3 wr 44 (prC lx[i])
 generalize wr.alloc (.cells (List.toArray (prC lx[i])) 44) = w4 at *
 generalize hs_b4 : wr.heap.size = b4 at *
 unfold prC at v_b4
 rw [hn] at v_b4
 have a_b4 := v_b4.at
 have K4 := hK.trans0 k_w4
 have hzr := hzz _ hK
 refine KGO ?_
 have e1 : lx[i].p.doc - d = (((lx[i].p.doc - d).toNat : Nat) : Int) := by omega
 rw [e1]
 have hle := congrArg List.length hpre
 simp only [List.flatMap_cons, List.length_append] at hle
 refine CallS.of (Tryz.call206 _ _) (zgS (w := w4) (lx[i].p.doc - d).toNat (zet hbr k_w4) (by omega) (by omega) (hzz _ K4)) ?_
 rintro e w5 ⟨rfl, hb5, hk5⟩
 have K5 : Kp w1 w5 n_ := hK0 _ _ hk5 K4
 have v_b4 := v_b4.keep hk5 (zjB v_b4 (by decide) (by omega))
 have a_b4 := v_b4.at
 clear hk5 hbr
 refine RT ?_
 refine KGO ?_
 refine CallS.of (Tryz.call206 _ _) (zgS (w := w5) lx[i].p.places.length hb5 (by omega) (by rw [List.length_append]; omega) (hzz _ K5)) ?_
 rintro e w6 ⟨rfl, hb6, hk6⟩
 have K6 : Kp w1 w6 n_ := hK0 _ _ hk6 K5
 have v_b4 := v_b4.keep hk6 (zjB v_b4 (by decide) (by omega))
 have a_b4 := v_b4.at
 clear hk6 hb5
 refine RT ?_
 refine KGO ?_
 have hdf := zdH lx[i].p.places 0
 obtain ⟨REST, hR⟩ : ∃ R, (encN lx[i].p.doc ((lx.drop (i + 1)).map (·.p))).flatMap numE = R := ⟨_, rfl⟩
 rw [List.flatMap_cons, List.flatMap_cons, List.flatMap_append, hR, ← List.append_assoc, ← List.append_assoc] at hpre
 refine Loop.intro (ι := Nat × Int) (fun j => [(3, .pointer (some ⟨b, 0, none⟩)), (4, .func (.func 206) #[] #[.pointer (some ⟨b, 0, none⟩)]), (5, .int .i64 lx[i].p.doc), (8, .int .i64 j.2), (19, .slice (some ⟨ga, oa, none⟩) lx.length ca), (20, .int .i64 (lx.length : Nat)), (21, .int .i64 (i : Nat)),
   (39, .slice lx[i].h.a lx[i].p.places.length lx[i].h.c), (40, .int .i64 (lx[i].p.places.length : Nat)), (41, .int .i64 (j.1 : Nat))])
  (fun j wr => Kp w1 wr n_ ∧ j.1 ≤ lx[i].p.places.length ∧ 0 ≤ j.2 ∧ j.2 ≤ 1099511627776 ∧ risesB j.2 (lx[i].p.places.drop j.1) = true ∧ ∃ pre, Bld wr b b pre ∧ pre ++ ((difs j.2 (lx[i].p.places.drop j.1)).flatMap numE ++ REST) = tot) (fun j => lx[i].p.places.length - j.1) (0, 0)
  ⟨rfl, rfl, rfl, rfl, rfl, rfl, rfl, rfl, rfl, rfl, trivial⟩ ⟨K6, Nat.zero_le _, by decide, by decide, hri.2, _, hb6, hpre⟩ ?_
 clear hb6 hpre hle K6 v_b4 a_b4 hbl pre
 rintro ⟨j, at_⟩ gg2 wq ⟨hQ, hj, ha0, ham, hrj, pre, hbr, hpre⟩
 dsimp only at hj ha0 ham hrj hpre ⊢
 have hbl := zpv hbr
 refine GW ?_
 by_cases hlj : j < lx[i].p.places.length
 ·obtain ⟨gp, op, hgp, hpt⟩ := RowI_at (hpl lx[i] (List.getElem_mem hlt)) (by omega)
  rw [hgp]
  have cj := zcI hpt hlj
  rw [List.drop_eq_getElem_cons hlj] at hrj hpre
  rw [risesB, Bool.and_eq_true, decide_eq_true_eq] at hrj
  rw [difs, List.flatMap_cons, List.append_assoc, ← List.append_assoc] at hpre
  obtain ⟨⟨h3, h4⟩, hrj⟩ := hrj
  have hle := congrArg List.length hpre
  simp only [List.length_append] at hle
  have hQw := k1.trans0 hQ
  clear hata hra hpl
  refine KGO ?_
  have e1 : lx[i].p.places[j] - at_ = (((lx[i].p.places[j] - at_).toNat : Nat) : Int) := by omega
  rw [e1]
  refine CallS.of (Tryz.call206 _ _) (zgS (w := wq) (lx[i].p.places[j] - at_).toNat hbr (by omega) (by omega) (hzz _ hQ)) ?_
  rintro e w5 ⟨rfl, hb5, hk5⟩
  have Q5 : Kp w1 w5 n_ := hK0 _ _ hk5 hQ
  clear hk5 hbr
  refine RT ?_
  refine KGO ?_
  exact ⟨(j + 1, lx[i].p.places[j]), ⟨rfl, rfl, rfl, rfl, rfl, rfl, rfl, rfl, rfl, v_int (by simp), trivial⟩, ⟨Q5, by dsimp only; omega, by dsimp only; omega, by dsimp only; omega, zbL hrj (by omega), _, hb5, hpre⟩, by dsimp only; omega⟩
 ·refine KGO ?_
  rw [List.drop_eq_nil_of_le (by omega)] at hpre
  rw [← hR] at hpre
  exact ⟨(i + 1, lx[i].p.doc), ⟨rfl, rfl, rfl, rfl, rfl, v_int (by simp), trivial⟩, ⟨hQ, by dsimp only; omega, by dsimp only; omega, by dsimp only; omega, zbL hrs (by omega), pre, hbr, by simpa [difs] using hpre⟩, by dsimp only; omega⟩
end
theorem zhw {s : St} (h : stL s ≠ 0) : stL (numR s).2 < stL s := by
 cases s with
 | none => exact absurd rfl h
 | some u =>
  cases hr : (numR (some u)).2 with
  | none => simp only [stL] at *; omega
  | some r => have := zjc (some u) u r rfl hr; simp only [stL]; omega
theorem zlt (s : St) : stL (numR s).2 ≤ stL s := by
 cases s with
 | none => exact Nat.le_refl _
 | some u =>
  cases hr : (numR (some u)).2 with
  | none => simp [stL]
  | some r => have := zjc (some u) u r rfl hr; simp only [stL]; omega
theorem bs1P (x : Pr) (w : World) : (Instr.buildSlice 37 1 [(0, .agg (prC x).toArray)].toArray).run Tryz.prog w = .ok (.slice (some ⟨w.heap.size, 0, none⟩) 1 1) (w.alloc (.cells (List.toArray (prC x)) 44)) := by
 simp [Instr.buildSlice, go_sem, Tryz.runUnderlying37, prC]
theorem zfq (d : Int) (w : World) : (Instr.build 44 [(0, .int .i64 d)].toArray).run Tryz.prog w = .ok (.agg #[.int .i64 d, .slice none 0 0]) w := by
 simp [Instr.build, go_sem, Tryz.runUnderlying44]
section
variable {w : World} {b : Nat}
theorem znx (s : St) (h : VarK w b 139 (rdC s)) : Calls Tryz.prog 52 #[.pointer (some ⟨b, 0, none⟩)] w fun e w' => e = .returned (.int .i64 (stL s : Nat)) ∧ Kp w w' n_ := by
 obtain ⟨u, y, hc, hu⟩ : ∃ u y, rdC s = [.string (str u), y] ∧ stL s = u.length := by
  cases s with
  | none => exact ⟨[], _, rfl, rfl⟩
  | some u => exact ⟨u, _, rfl, rfl⟩
 rw [hc] at h
 have ha := h.at
 refine zaa (args := [.pointer (some ⟨b, 0, none⟩)]) Tryz.func52 rfl NL ?_; refine GW ?_
 refine KGO ?_
 exact ⟨by rw [hu]; rfl, Kp.refl _ _⟩
theorem znq (n k : Nat) (hn : n ≤ 1099511627777) (hk : k < 2 ^ 63) : Calls Tryz.prog 221 #[.int .i64 (n : Nat), .int .i64 (k : Nat)] w fun e w' => e = .returned (.int .i64 (stepN n k : Nat)) ∧ Kp w w' n_ := by
 refine zaa (args := [.int .i64 (n : Nat), .int .i64 (k : Nat)]) Tryz.func221 rfl NL ?_; refine GW ?_
 by_cases h : 1099511627776 < k
 ·refine KGO ?_
  exact ⟨by unfold stepN; rw [if_pos h]; rfl, Kp.refl _ _⟩
 ·refine KGO ?_
  exact ⟨by unfold stepN; rw [if_neg h]; congr 2; omega, Kp.refl _ _⟩
theorem zjq (n k : Nat) : stepN n k ≤ 1099511627777 := by
 unfold stepN
 split <;> omega
theorem zdw (u : List UInt8) (hu : u.length ≤ 10000000) : Calls Tryz.prog 167 #[.string (str u)] w fun e w' =>
  (∃ v, e = .returned (.tuple #[v, .bool (decP u).isSome]) ∧ OwnP w' w.heap.size v ((decP u).getD []) ∧ (decP u = none → v = .slice none 0 0)) ∧ Kp w w' n_ := by
 refine zaa (args := [.string (str u)]) Tryz.func167 rfl NL ?_; refine GW ?_
 refine CallS.of (Tryz.call50 _ _) (zqf (str u)) ?_
 rintro e w1 ⟨rfl, h1, k1⟩
 obtain ⟨rb, hrb⟩ : ∃ rb, w.heap.size = rb := ⟨_, rfl⟩
 rw [hrb] at h1 ⊢
 have hstr : L (str u) = u := rfl
 rw [hstr] at h1
 refine RT ?_
 refine CallS.of (Tryz.call51 _ _) (zgZ (some u) h1 (fun x e => by injection e with e; subst e; omega)) ?_
 rintro e w2 ⟨rfl, h2, k2⟩
 have K2 : Kp w w2 n_ := zah k1 k2 (by omega)
 have hl2 := zlt (some u)
 have hlt := zgG (some u)
 have hdl : decL u = dDoc (numR (some u)).1 0 (numR (some u)).2 := rfl
 generalize numR (some u) = q at *
 obtain ⟨n0, s0⟩ := q
 dsimp only at h2 hl2 hlt hdl ⊢
 refine RT ?_
 refine Loop.intro (ι := (Nat × Nat) × St × Value × List Pr) (fun i => [(0, .string (str u)), (4, .pointer (some ⟨rb, 0, none⟩)), (5, i.2.2.1), (6, .int .i64 (i.1.2 : Nat)), (7, .int .i64 (i.1.1 : Nat))])
  (fun i wr => Kp w wr n_ ∧ VarK wr rb 139 (rdC i.2.1) ∧ OwP wr rb i.2.2.1 i.2.2.2 ∧ i.2.2.2.map (·.p) ++ (dDoc i.1.1 i.1.2 i.2.1).1 = (decL u).1 ∧ (dDoc i.1.1 i.1.2 i.2.1).2 = (decL u).2 ∧ (encN 0 (i.2.2.2.map (·.p))).length + 2 * stL i.2.1 ≤ 2 * u.length ∧ i.1.1 < 2 ^ 63 ∧ i.1.2 ≤ 1099511627777)
  (fun i => i.1.1) ((n0, 0), s0, .slice none 0 0, []) ⟨rfl, rfl, rfl, rfl, rfl, trivial⟩ ⟨K2, h2, ⟨World.ownsRow_nil _ _ _ _, fun x h => by cases h⟩, by rw [hdl]; rfl, by rw [hdl], by have : stL (some u) = u.length := rfl; rw [this] at hl2; show 0 + 2 * stL s0 ≤ _; omega, hlt, Nat.zero_le _⟩ ?_
 rintro ⟨⟨k, d⟩, st, vo, lx⟩ gg wr ⟨hK, hv, ho, hd1, hd2, hsz, hk63, hdm⟩
 dsimp only at hv ho hd1 hd2 hsz hk63 hdm ⊢
 obtain ⟨ao, co, rfl⟩ := zab ho.row
 refine GW ?_
 by_cases hk0 : k = 0
 ·have hdz : dDoc k d st = ([], st) := by rw [hk0]; rfl
  refine KGO ?_
  have e1 : lx.map (·.p) = (decL u).1 := by rw [← hd1, hdz, List.append_nil]
  have e2 : st = (decL u).2 := by rw [← hd2, hdz]
  refine CallS.of (Tryz.call56 _ _) (zni st hv (fun x e => by subst e; simp only [stL] at hsz; omega)) ?_
  rintro e w3 ⟨rfl, k3⟩
  refine RT ?_
  have hdp : decP u = if st = some [] ∧ encP (lx.map (·.p)) = u then some (lx.map (·.p)) else none := by unfold decP; rw [e1, e2]
  have hn := zbF (lx.map (·.p))
  by_cases hst : st = some []
  rotate_left
  ·rw [decide_eq_false hst]
   rw [if_neg (fun h => hst h.1)] at hdp
   refine KGO ?_
   rw [hdp]
   exact ⟨⟨_, rfl, zbp _ _, fun _ => rfl⟩, hK.trans0 k3⟩
  rw [decide_eq_true hst]
  refine KGO ?_
  refine CallS.of (Tryz.call142 _ _) (zdC (w := w3) (lx.map (·.p)) ⟨lx, rfl, (ho.keep k3).rd⟩ (by omega) (fun p hp => by have := zbq _ p hp; omega) (by omega)) ?_
  rintro e w4 ⟨rfl, k4⟩
  refine RT ?_
  have ho4 := (ho.keep k3).keep k4
  by_cases heq : encP (lx.map (·.p)) = u
  ·rw [heq] at hdp ⊢
   rw [if_pos ⟨hst, rfl⟩] at hdp
   refine KGO ?_
   rw [hdp]
   exact ⟨⟨_, rfl, ⟨lx, rfl, ho4⟩, fun h => by cases h⟩, (hK.trans0 k3).trans0 k4⟩
  ·rw [if_neg (fun h => heq h.2)] at hdp
   refine KGO ?_
   refine Br.dec_no (fun h => heq (zbY.1 h)) ?_
   refine GW ?_
   refine KGO ?_
   rw [hdp]
   exact ⟨⟨_, rfl, zbp _ _, fun _ => rfl⟩, (hK.trans0 k3).trans0 k4⟩
 obtain ⟨k, rfl⟩ : ∃ k', k = k' + 1 := ⟨k - 1, by omega⟩
 refine KGO ?_
 refine CallS.of (Tryz.call52 _ _) (znx st hv) ?_
 rintro e w3 ⟨rfl, k3⟩
 have hv := hv.keep0 k3
 have ho := ho.keep k3
 have hK := hK.trans0 k3
 refine RT ?_
 by_cases hs0 : stL st = 0
 ·have hdz : dDoc (k + 1) d st = ([], st) := by rw [dDoc, if_pos hs0]
  refine KGO ?_
  have e1 : lx.map (·.p) = (decL u).1 := by rw [← hd1, hdz, List.append_nil]
  have e2 : st = (decL u).2 := by rw [← hd2, hdz]
  refine CallS.of (Tryz.call56 _ _) (zni st hv (fun x e => by subst e; simp only [stL] at hsz; omega)) ?_
  rintro e w3 ⟨rfl, k3⟩
  refine RT ?_
  have hdp : decP u = if st = some [] ∧ encP (lx.map (·.p)) = u then some (lx.map (·.p)) else none := by unfold decP; rw [e1, e2]
  have hn := zbF (lx.map (·.p))
  by_cases hst : st = some []
  rotate_left
  ·rw [decide_eq_false hst]
   rw [if_neg (fun h => hst h.1)] at hdp
   refine KGO ?_
   rw [hdp]
   exact ⟨⟨_, rfl, zbp _ _, fun _ => rfl⟩, hK.trans0 k3⟩
  rw [decide_eq_true hst]
  refine KGO ?_
  refine CallS.of (Tryz.call142 _ _) (zdC (w := w3) (lx.map (·.p)) ⟨lx, rfl, (ho.keep k3).rd⟩ (by omega) (fun p hp => by have := zbq _ p hp; omega) (by omega)) ?_
  rintro e w4 ⟨rfl, k4⟩
  refine RT ?_
  have ho4 := (ho.keep k3).keep k4
  by_cases heq : encP (lx.map (·.p)) = u
  ·rw [heq] at hdp ⊢
   rw [if_pos ⟨hst, rfl⟩] at hdp
   refine KGO ?_
   rw [hdp]
   exact ⟨⟨_, rfl, ⟨lx, rfl, ho4⟩, fun h => by cases h⟩, (hK.trans0 k3).trans0 k4⟩
  ·rw [if_neg (fun h => heq h.2)] at hdp
   refine KGO ?_
   refine Br.dec_no (fun h => heq (zbY.1 h)) ?_
   refine GW ?_
   refine KGO ?_
   rw [hdp]
   exact ⟨⟨_, rfl, zbp _ _, fun _ => rfl⟩, (hK.trans0 k3).trans0 k4⟩
 rw [dDoc, if_neg hs0] at hd1 hd2
 dsimp only at hd1 hd2
 have hsl := zhw hs0
 refine KGO ?_
 have hst0 : ∀ s x, s = some x → stL s ≤ u.length → x.length ≤ 140737488355328 := fun s x e h => by subst e; simp only [stL] at h; omega
 refine CallS.of (Tryz.call51 _ _) (zgZ st hv (fun x e => hst0 st x e (by omega))) ?_
 rintro e w4 ⟨rfl, h4, k4⟩
 have hbl := zgG st
 have K4 : Kp w w4 n_ := zah hK k4 (by omega)
 have ho4 := ho.keepT k4 (zak hv (by decide))
 generalize numR st = q1 at *
 obtain ⟨n1, s1⟩ := q1
 dsimp only at h4 hbl hd1 hd2 hsl ⊢
 refine RT ?_
 refine CallS.of (Tryz.call221 _ _) (znq (w := w4) d n1 hdm hbl) ?_
 rintro e w5 ⟨rfl, k5⟩
 have h5 := h4.keep0 k5
 have K5 := K4.trans0 k5
 have ho5 := ho4.keep k5
 have hsle := zjq d n1
 refine RT ?_
 generalize stepN d n1 = d' at *
 refine KGO ?_
 refine RunV.of (zfq (d' : Nat) _) ?_
 refine KGO ?_
 have v_b8 := VarK.new w5 44 [.int .i64 (d' : Nat), .slice none 0 0]
 refine Store.fresh (vs := [.int .i64 (d' : Nat), .slice none 0 0]) (by rfl) rfl (zax (by rfl)) ?_
 obtain ⟨a_b8, k_w6, z_w6⟩ := new3 w5 44 ([.int .i64 (d' : Nat), .slice none 0 0])
 generalize w5.alloc (.cells (List.toArray ([.int .i64 (d' : Nat), .slice none 0 0])) 44) = w6 at *
 generalize hs_b8 : w5.heap.size = b8 at *
 have h6 := h5.keep0 k_w6
 refine KGO ?_
 refine CallS.of (Tryz.call51 _ _) (zgZ s1 h6 (fun x e => hst0 s1 x e (by omega))) ?_
 rintro e w7 ⟨rfl, h7, k7⟩
 have hcl := zgG s1
 have hsl2 := zlt s1
 generalize numR s1 = q2 at *
 obtain ⟨c0, s2⟩ := q2
 dsimp only at h7 hcl hd1 hd2 hsl2 ⊢
 refine RT ?_
 have hrb8 : rb < b8 := by have := h5.lt; omega
 have J7 : Kp w5 w7 (one_ rb) := (k_w6.of_none (c := one_ rb)).trans' k7
 have v_b8 := v_b8.keep k7 (show ¬ b8 = rb by omega)
 clear h4 h6 k4 k7 a_b8 h1 h2 k2 K2 k1 hl2 hlt hdl ho4 hv ho hK
 refine Loop.intro (ι := (Nat × Nat) × St × Value × List Int) (fun i => [(0, .string (str u)), (4, .pointer (some ⟨rb, 0, none⟩)), (5, .slice ao lx.length co), (6, .int .i64 (d' : Nat)), (7, .int .i64 ((k + 1 : Nat) : Int)), (8, .pointer (some ⟨b8, 0, none⟩)), (9, .int .i64 (i.1.2 : Nat)), (10, .int .i64 (i.1.1 : Nat))])
  (fun i wr => Kp w5 wr (one_ rb) ∧ VarK wr rb 139 (rdC i.2.1) ∧ VarK wr b8 44 [.int .i64 (d' : Nat), i.2.2.1] ∧ OwnI wr b8 i.2.2.1 i.2.2.2 ∧ i.2.2.2 ++ (dPl i.1.1 i.1.2 i.2.1).1 = (dPl c0 0 s2).1 ∧ (dPl i.1.1 i.1.2 i.2.1).2 = (dPl c0 0 s2).2 ∧ i.2.2.2.length + stL i.2.1 ≤ stL s2 ∧ i.1.1 < 2 ^ 63 ∧ i.1.2 ≤ 1099511627777)
  (fun i => i.1.1) ((c0, 0), s2, .slice none 0 0, []) ⟨rfl, rfl, rfl, rfl, rfl, rfl, rfl, rfl, trivial⟩ ⟨J7, h7, v_b8, World.ownsRow_nil _ _ _ _, rfl, rfl, by show 0 + stL s2 ≤ _; omega, hcl, Nat.zero_le _⟩ ?_
 clear J7 h7 v_b8
 rintro ⟨⟨c, a⟩, s, vp, pl⟩ gg2 wq ⟨hJ, hv, h8, hp, hp1, hp2, hps, hc63, ham⟩
 dsimp only at hv h8 hp hp1 hp2 hps hc63 ham ⊢
 obtain ⟨ap, cp, rfl⟩ := zab hp
 have a8 := h8.at
 have hzq := hJ.size
 refine GW ?_
 by_cases hc0 : c = 0
 ·have hdz : dPl c a s = ([], s) := by rw [hc0]; rfl
  obtain ⟨wend, rfl⟩ : ∃ x, x = wq := ⟨_, rfl⟩
  have e1 : pl = (dPl c0 0 s2).1 := by rw [← hp1, hdz, List.append_nil]
  have e2 : s = (dPl c0 0 s2).2 := by rw [← hp2, hdz]
  rw [← e1, ← e2] at hd1
  rw [← e2] at hd2
  have hoq := ho5.keepT hJ (zak h5 (by decide))
  have Kq : Kp w wend n_ := zah K5 hJ (by omega)
  have zq := Kq.size
  have hn := zbF (lx.map (·.p))
  rw [List.length_map] at hn
  refine KGO ?_
  refine RunV.of (bs1P ⟨⟨(d' : Nat), pl⟩, ⟨ap, pl.length, cp⟩⟩ _) ?_
  obtain ⟨a_b14, v_b14, k_w14, z_w14, r_w14⟩ := new5 wend 44 (prC ⟨⟨(d' : Nat), pl⟩, ⟨ap, pl.length, cp⟩⟩)
  generalize wend.alloc (.cells (List.toArray (prC ⟨⟨(d' : Nat), pl⟩, ⟨ap, pl.length, cp⟩⟩)) 44) = w14 at *
  generalize hs_b14 : wend.heap.size = b14 at *
  have ho14 := hoq.keep k_w14
  have h14 := hv.keep0 k_w14
  have p14 := zac hp k_w14
  have K14 := Kq.trans0 k_w14
  have z14 := K14.size
  refine KGO ?_
  refine tyP.app1 (⟨⟨(d' : Nat), pl⟩, ⟨ap, pl.length, cp⟩⟩ : Pr) ho14.row (by omega) a_b14 (by omega) (by omega) fun v15 w15 o15 k15 => ?_
  have ho15 : OwP w15 rb v15 (lx ++ [⟨⟨(d' : Nat), pl⟩, ⟨ap, pl.length, cp⟩⟩]) := ⟨o15, fun y hy => by
   rcases List.mem_append.1 hy with hy | hy
   ·exact zag (D := [3]) (ho14.pl y hy) k15 (zaT ho14.row (by decide)) (by decide)
   ·rw [List.mem_singleton.1 hy]
    exact zaz (zag (D := [3]) p14 k15 (zaT ho14.row (by decide)) (by decide)) (by omega)⟩
  have h15 := h14.keep k15 (zaf ho14.row h14 (by decide))
  have K15 := zaU ho14.row k15 K14 (by omega)
  obtain ⟨a15, c15, rfl⟩ := zab o15
  refine KGO ?_
  exact ⟨((k, d'), s, .slice a15 (lx ++ [(⟨⟨(d' : Nat), pl⟩, ⟨ap, pl.length, cp⟩⟩ : Pr)]).length c15, lx ++ [⟨⟨(d' : Nat), pl⟩, ⟨ap, pl.length, cp⟩⟩]), ⟨rfl, rfl, rfl, rfl, v_int (by simp), trivial⟩, ⟨K15, h15, ho15, by rw [List.map_append, List.append_assoc]; exact hd1, hd2, by rw [List.map_append, List.map_singleton, zfD]; dsimp only; omega, by dsimp only; omega, hsle⟩, by dsimp only; omega⟩
 obtain ⟨c, rfl⟩ : ∃ c', c = c' + 1 := ⟨c - 1, by omega⟩
 refine KGO ?_
 refine CallS.of (Tryz.call52 _ _) (znx s hv) ?_
 rintro e w8 ⟨rfl, k8⟩
 have hJ := hJ.trans' (k8.of_none (c := one_ rb))
 have hv := hv.keep0 k8
 have h8 := h8.keep0 k8
 have hp := zac hp k8
 have a8 := h8.at
 refine RT ?_
 by_cases hs0 : stL s = 0
 ·have hdz : dPl (c + 1) a s = ([], s) := by rw [dPl, if_pos hs0]
  obtain ⟨wend, rfl⟩ : ∃ x, x = w8 := ⟨_, rfl⟩
  have e1 : pl = (dPl c0 0 s2).1 := by rw [← hp1, hdz, List.append_nil]
  have e2 : s = (dPl c0 0 s2).2 := by rw [← hp2, hdz]
  rw [← e1, ← e2] at hd1
  rw [← e2] at hd2
  have hoq := ho5.keepT hJ (zak h5 (by decide))
  have Kq : Kp w wend n_ := zah K5 hJ (by omega)
  have zq := Kq.size
  have hn := zbF (lx.map (·.p))
  rw [List.length_map] at hn
  refine KGO ?_
  refine RunV.of (bs1P ⟨⟨(d' : Nat), pl⟩, ⟨ap, pl.length, cp⟩⟩ _) ?_
  obtain ⟨a_b14, v_b14, k_w14, z_w14, r_w14⟩ := new5 wend 44 (prC ⟨⟨(d' : Nat), pl⟩, ⟨ap, pl.length, cp⟩⟩)
  generalize wend.alloc (.cells (List.toArray (prC ⟨⟨(d' : Nat), pl⟩, ⟨ap, pl.length, cp⟩⟩)) 44) = w14 at *
  generalize hs_b14 : wend.heap.size = b14 at *
  have ho14 := hoq.keep k_w14
  have h14 := hv.keep0 k_w14
  have p14 := zac hp k_w14
  have K14 := Kq.trans0 k_w14
  have z14 := K14.size
  refine KGO ?_
  refine tyP.app1 (⟨⟨(d' : Nat), pl⟩, ⟨ap, pl.length, cp⟩⟩ : Pr) ho14.row (by omega) a_b14 (by omega) (by omega) fun v15 w15 o15 k15 => ?_
  have ho15 : OwP w15 rb v15 (lx ++ [⟨⟨(d' : Nat), pl⟩, ⟨ap, pl.length, cp⟩⟩]) := ⟨o15, fun y hy => by
   rcases List.mem_append.1 hy with hy | hy
   ·exact zag (D := [3]) (ho14.pl y hy) k15 (zaT ho14.row (by decide)) (by decide)
   ·rw [List.mem_singleton.1 hy]
    exact zaz (zag (D := [3]) p14 k15 (zaT ho14.row (by decide)) (by decide)) (by omega)⟩
  have h15 := h14.keep k15 (zaf ho14.row h14 (by decide))
  have K15 := zaU ho14.row k15 K14 (by omega)
  obtain ⟨a15, c15, rfl⟩ := zab o15
  refine KGO ?_
  exact ⟨((k, d'), s, .slice a15 (lx ++ [(⟨⟨(d' : Nat), pl⟩, ⟨ap, pl.length, cp⟩⟩ : Pr)]).length c15, lx ++ [⟨⟨(d' : Nat), pl⟩, ⟨ap, pl.length, cp⟩⟩]), ⟨rfl, rfl, rfl, rfl, v_int (by simp), trivial⟩, ⟨K15, h15, ho15, by rw [List.map_append, List.append_assoc]; exact hd1, hd2, by rw [List.map_append, List.map_singleton, zfD]; dsimp only; omega, by dsimp only; omega, hsle⟩, by dsimp only; omega⟩
 rw [dPl, if_neg hs0] at hp1 hp2
 dsimp only at hp1 hp2
 have hsq := zhw hs0
 refine KGO ?_
 refine CallS.of (Tryz.call51 _ _) (zgZ s hv (fun x e => hst0 s x e (by omega))) ?_
 rintro e w9 ⟨rfl, h9, k9⟩
 have hbl := zgG s
 have J9 := hJ.trans' k9
 have v9 := h8.keep k9 (show ¬ b8 = rb by omega)
 have p9 := zag (D := [3]) hp k9 (zak hv (by decide)) (by decide)
 clear hp h8 a8
 generalize numR s = q3 at *
 obtain ⟨n3, s3⟩ := q3
 dsimp only at h9 hbl hp1 hp2 hsq ⊢
 refine RT ?_
 refine CallS.of (Tryz.call221 _ _) (znq (w := w9) a n3 ham hbl) ?_
 rintro e w10 ⟨rfl, k10⟩
 have h10 := h9.keep0 k10
 have v10 := v9.keep0 k10
 have p10 := zac p9 k10
 have J10 := J9.trans' (k10.of_none (c := one_ rb))
 have hale := zjq a n3
 have a10 := v10.at
 refine RT ?_
 generalize stepN a n3 = a' at *
 refine KGO ?_
 refine RunV.of (bs1I (a' : Nat) _) ?_
 obtain ⟨a_b11, v_b11, k_w11, z_w11, r_w11⟩ := new5 w10 3 (inC (a' : Nat))
 generalize w10.alloc (.cells (List.toArray (inC (a' : Nat))) 3) = w11 at *
 generalize hs_b11 : w10.heap.size = b11 at *
 have v11 := v10.keep0 k_w11
 have h11 := h10.keep0 k_w11
 have p11 := zac p10 k_w11
 have J11 := J10.trans' (k_w11.of_none (c := one_ rb))
 have z11 := J11.size
 refine KGO ?_
 refine tyI.app1 (a' : Int) p11 (by omega) a_b11 (by omega) (by omega) fun v12 w12 o12 k12 => ?_
 have J12 := zaU p11 k12 J11 (by omega)
 have v12' := v11.keep k12 (zaf p11 v11 (by decide))
 have h12 := h11.keep k12 (zaf p11 h11 (by decide))
 obtain ⟨a12, c12, rfl⟩ := zab o12
 refine KGO ?_
 refine Store.cellK (i := 1) v12' (by simp) (by rfl) ⟨rfl, by simp, by simp⟩ fun w13 v13 k13 => ?_
 have h13 := h12.keep k13 (show ¬ rb = b8 by omega)
 have p13 := zag (D := [3]) o12 k13 (zak v12' (by decide)) (by decide)
 have J13 : Kp w5 w13 (one_ rb) := J12.trans k13 fun q hq e => by have e : q = b8 := e; omega
 refine KGO ?_
 exact ⟨((c, a'), s3, _, pl ++ [(a' : Int)]), ⟨rfl, rfl, rfl, rfl, rfl, rfl, rfl, v_int (by simp), trivial⟩, ⟨J13, h13, v13, p13, by rw [List.append_assoc]; exact hp1, hp2, by rw [List.length_append, List.length_singleton]; dsimp only; omega, by dsimp only; omega, hale⟩, by dsimp only; omega⟩
end
end Go.Proofs.YtennokckmjcefaaGreatDoor
