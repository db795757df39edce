/- Helper text of this claim: lemmas and contracts that the proved statement rests on; no conditions of its own. -/
import Derived.Lib.IndexAny
import Derived.Test.YtcplagfblmemhaaGreatDoorGBw10
namespace Go.Proofs.YtcplagfblmemhaaGreatDoor
set_option linter.unusedVariables false
set_option maxHeartbeats 8000000
open Go.RowKit Go.Pw Go.Vc Go.Cs Go.Lib
set_option linter.unusedVariables false
set_option maxRecDepth 100000
def belowF (l : List Bx) (id : Int) (m : Nat) (r : List Bx) : Nat := r.foldl (fun m b => if within l b.id id then max m (dpt l b.id - dpt l id + 1) else m) m
theorem maxI (m : Nat) (a b : Nat) (h : b ≤ a) : max (m : Int) ((a : Nat) - (b : Nat) + 1) = ((max m (a - b + 1) : Nat) : Int) := by omega
section
variable {w w' : World}
theorem zpa {v : Value} (l : List Bx) (id up : Int) (hv : RowB w v l) (hl : l.length ≤ 1000) (hs : SmallB l) (hE : BEnv w) :
  Calls Tryz.prog 102 #[v, .int .i64 id, .int .i64 up] w fun e w' => ∃ v', e = .returned (.tuple #[v', .int .i64 ((moveL l id up).2 : Nat)]) ∧ OwnB w' w.heap.size v' (moveL l id up).1 ∧ Kp w w' n_ := by
 have hv0 := hv
 obtain ⟨a, cap, rfl, hr⟩ := hv
 refine zaa (args := [.slice a l.length cap, .int .i64 id, .int .i64 up]) Tryz.func102 rfl NL ?_; refine GW ?_
 refine CallS.of (Tryz.call81 _ _) (zeF (w := w) l hv0 hl hs hE.F hE.T hE.R) ?_
 rintro e w1 ⟨rfl, k1⟩
 refine RT ?_
 by_cases h1 : rightL l = true
 rotate_left
 ·rw [show rightL l = false by simpa using h1]
  refine KGO ?_
  exact ⟨zaC (R := moveL l id up) 1 (by unfold moveL; rw [if_pos h1]) k1⟩
 rw [h1]
 have hR := (zaX l).1 h1
 have g1 : ¬ ¬ rightL l = true := fun h => h h1
 refine KGO ?_
 refine CallS.of (Tryz.call80 _ _) (zbQ (w := w1) l id (hv0.keep k1) (by omega)) ?_
 rintro e w2 ⟨k, q, rfl, hkl, hasc, k2⟩
 obtain ⟨rfl, rfl⟩ := hasc hR.asc
 have K2 := k1.trans0 k2
 refine RT ?_
 cases hb : boxOf l id with
 | none =>
  have hno : hasId l id = false := by
   rw [Bool.eq_false_iff]
   exact fun h => by
    obtain ⟨c, hc, he⟩ := (zaw _ _).1 h
    exact zcs.1 hb c hc he
  rw [hno]
  refine KGO ?_
  exact ⟨zaC (R := moveL l id up) 5 (by unfold moveL; rw [if_neg g1, hb]) K2⟩
 | some b =>
  obtain ⟨hm, rfl⟩ := zdu hb
  rw [(zaw l b.id).2 ⟨b, hm, rfl⟩]
  obtain ⟨hk1, hk2⟩ := zhU hR.asc hm
  have hid0 : b.id ≠ 0 := by have := (hR.pos b hm).1; omega
  generalize idxL l b.id = k at *
  refine KGO ?_
  refine CallS.of (Tryz.call86 _ _) (zme (w := w2) l up (hv0.keep K2) (by omega) hR.asc) ?_
  rintro e w3 ⟨rfl, k3⟩
  have K3 := K2.trans0 k3
  refine RT ?_
  by_cases h2 : up = 0 ∨ hasId l up = true
  rotate_left
  ·rw [decide_eq_false h2]
   refine KGO ?_
   exact ⟨zaC (R := moveL l b.id up) 5 (by unfold moveL; rw [if_neg g1, hb]; dsimp only; rw [if_pos h2]) K3⟩
  rw [decide_eq_true h2]
  have h2' : up = 0 ∨ ∃ c ∈ l, c.id = up := by rwa [zaw] at h2
  obtain ⟨hd, hd8⟩ := zdI hR h2'
  obtain ⟨hdi, hdi8⟩ := zdI hR (.inr ⟨b, hm, rfl⟩)
  have gm2 : ¬ ¬ (up = 0 ∨ hasId l up = true) := fun h => h h2
  by_cases h3 : up = 0
  ·have gm3 : ¬ (up ≠ 0 ∧ within l up b.id = true) := fun h => h.1 h3
   refine KGO ?_
   refine Loop.intro (ι := Nat × Nat) (fun p => [(0, .slice a l.length cap), (1, .int .i64 b.id), (2, .int .i64 up), (8, .int .i64 (k : Nat)), (10, .int .i64 (p.2 : Nat)), (39, .slice a l.length cap), (40, .int .i64 (l.length : Nat)), (41, .int .i64 (p.1 : Nat))])
    (fun p wr => Kp w wr n_ ∧ p.1 ≤ l.length ∧ p.2 ≤ 1001 ∧ belowL l b.id = belowF l b.id p.2 (l.drop p.1)) (fun p => l.length - p.1) (0, 0) ⟨rfl, rfl, rfl, rfl, rfl, rfl, rfl, rfl, trivial⟩ ⟨K3, Nat.zero_le _, by decide, rfl⟩ ?_
   rintro ⟨i, m⟩ gg wr ⟨hK, hi, hm1, he⟩
   dsimp only at hi hm1 he ⊢
   refine GW ?_
   by_cases hlt : i < l.length
   ·obtain ⟨gb, o, rfl, hgb, hat⟩ := hr (by omega)
    have hdr := List.drop_eq_getElem_cons hlt
    have hci := List.getElem_mem hlt
    obtain ⟨hdc, hdc8⟩ := zdI hR (.inr ⟨l[i], hci, rfl⟩)
    refine KGO ?_
    generalize l[i] = c at *
    refine Store.fresh (vs := [.int .i64 c.id, .int .i64 c.up, .string (str c.name), .string (str c.role)]) (by rfl) rfl (zam (by rfl)) ?_
    obtain ⟨a_b5, k_w5, z_w5⟩ := new3 wr 44 ([.int .i64 c.id, .int .i64 c.up, .string (str c.name), .string (str c.role)])
    generalize wr.alloc (.cells (List.toArray ([.int .i64 c.id, .int .i64 c.up, .string (str c.name), .string (str c.role)])) 44) = w5 at *
    generalize hs_b5 : wr.heap.size = b5 at *
    have K5 := hK.trans0 k_w5
    refine KGO ?_
    refine CallS.of (Tryz.call153 _ _) (zfu (w := w5) l c.id b.id (hv0.keep K5) hR hdc) ?_
    rintro e w6 ⟨rfl, k6⟩
    have K6 := K5.trans0 k6
    have a6 := zaf a_b5 k6
    refine RT ?_
    rw [hdr] at he
    by_cases h5 : within l c.id b.id = true
    rotate_left
    ·rw [show within l c.id b.id = false by simpa using h5]
     refine KGO ?_
     exact ⟨(i + 1, m), ⟨rfl, rfl, rfl, rfl, rfl, rfl, rfl, v_int (by simp), trivial⟩, ⟨K6, by dsimp only; omega, hm1, by dsimp only; rw [he, belowF, belowF, List.foldl_cons, if_neg h5]⟩, by dsimp only; omega⟩
    ·rw [h5]
     refine KGO ?_
     refine CallS.of (Tryz.call87 _ _) (zcb (w := w6) l c.id (hv0.keep K6) hR hdc) ?_
     rintro e w7 ⟨rfl, k7⟩
     have K7 := K6.trans0 k7
     refine RT ?_
     refine KGO ?_
     refine CallS.of (Tryz.call87 _ _) (zcb (w := w7) l b.id (hv0.keep K7) hR hdi) ?_
     rintro e w8 ⟨rfl, k8⟩
     have K8 := K7.trans0 k8
     refine RT ?_
     obtain ⟨e2, he1, he2⟩ := ((zdJ hR hid0 hdc).1 h5).dep (by rw [zeb, zfq hR]; rfl) hdc
     have hle : dpt l b.id ≤ dpt l c.id := by rw [zfZ he2]; exact he1
     refine KGO ?_
     rw [maxI m _ _ hle]
     exact ⟨(i + 1, max m (dpt l c.id - dpt l b.id + 1)), ⟨rfl, rfl, rfl, rfl, rfl, rfl, rfl, v_int (by simp), trivial⟩, ⟨K8, by dsimp only; omega, by dsimp only; omega, by dsimp only; rw [he, belowF, belowF, List.foldl_cons, if_pos h5]⟩, by dsimp only; omega⟩
   ·rw [List.drop_eq_nil_of_le (by omega)] at he
    have he : belowL l b.id = m := he
    subst he
    refine KGO ?_
    refine CallS.of (Tryz.call87 _ _) (zcb (w := wr) l up (hv0.keep hK) hR hd) ?_
    rintro e w7 ⟨rfl, k7⟩
    have K7 := hK.trans0 k7
    refine RT ?_
    by_cases h6 : 8 < dpt l up + belowL l b.id
    ·refine KGO ?_
     exact ⟨zaC (R := moveL l b.id up) 10 (by unfold moveL; rw [if_neg g1, hb]; dsimp only; rw [if_neg gm2, if_neg gm3, if_pos h6]) K7⟩
    obtain ⟨gb, o, rfl, hgb, hat⟩ := hr (by omega)
    refine KGO ?_
    rw [hk2]
    refine CallS.of (Tryz.call88 _ _) (zdV (w := w7) l up b.name b.id (hv0.keep K7) (by omega) (hE.F.keep K7) (hs b hm).1 (fun b hb => (hs b hb).1)) ?_
    rintro e w8 ⟨rfl, k8⟩
    have K8 := K7.trans0 k8
    refine RT ?_
    by_cases h7 : takenL l up b.name b.id = true
    ·rw [h7]
     refine KGO ?_
     exact ⟨zaC (R := moveL l b.id up) 4 (by unfold moveL; rw [if_neg g1, hb]; dsimp only; rw [if_neg gm2, if_neg gm3, if_neg h6, if_pos h7]) K8⟩
    rw [show takenL l up b.name b.id = false by simpa using h7]
    have hres : moveL l b.id up = (setUp l b.id up, 0) := by unfold moveL; rw [if_neg g1, hb]; dsimp only; rw [if_neg gm2, if_neg gm3, if_neg h6, if_neg h7]
    refine KGO ?_
    refine CallS.of (Tryz.call90 _ _) (zea (w := w8) l (hv0.keep K8) (by omega)) ?_
    rintro e w9 ⟨v1, rfl, o1, k9⟩
    have K9 := K8.trans0 k9
    rcases own_blockK o1 with ⟨_, h0⟩ | ⟨g, cap2, cells, rfl, hBg, hvk, hnc, hcm, hcl, htk⟩
    ·omega
    refine RT ?_
    refine KGO ?_
    refine Store.atK hvk (by rw [hcl]; omega) (by rfl) ⟨rfl, by simp, by simp⟩ fun w10 v10 k10 => ?_
    refine KGO ?_
    have K10 : Kp w w10 n_ := K9.trans k10 fun q hq e => by
     have e : q = g := e
     have := K8.size
     omega
    rw [Nat.zero_add] at v10
    have o6 := zbm (w := w9) boxLen (l := l) (k := k) (j := 1) (x := { b with up := up }) hk1 (by omega) (by rw [hk2]; rfl) hBg hnc hcm hcl htk v10
    rw [zmB hR.asc hm (fun c => { c with up := up }) hk1 hk2] at o6
    have hsl : (setUp l b.id up).length = l.length := by unfold setUp; rw [List.length_map]
    have o7 : OwnB w10 w8.heap.size (.slice (some ⟨g, 0, none⟩) l.length cap2) (setUp l b.id up) := by
     rw [OwnB, hsl]; exact o6
    exact ⟨zey (R := moveL l b.id up) hres (zaj o7 K8.size) K10⟩
  ·refine KGO ?_
   refine CallS.of (Tryz.call153 _ _) (zfu (w := w3) l up b.id (hv0.keep K3) hR hd) ?_
   rintro e w4 ⟨rfl, k4⟩
   have K4 := K3.trans0 k4
   refine RT ?_
   by_cases h4 : within l up b.id = true
   ·rw [h4]
    refine KGO ?_
    exact ⟨zaC (R := moveL l b.id up) 11 (by unfold moveL; rw [if_neg g1, hb]; dsimp only; rw [if_neg gm2, if_pos ⟨h3, h4⟩]) K4⟩
   rw [show within l up b.id = false by simpa using h4]
   have gm3 : ¬ (up ≠ 0 ∧ within l up b.id = true) := fun h => h4 h.2
   refine KGO ?_
   refine Loop.intro (ι := Nat × Nat) (fun p => [(0, .slice a l.length cap), (1, .int .i64 b.id), (2, .int .i64 up), (8, .int .i64 (k : Nat)), (10, .int .i64 (p.2 : Nat)), (39, .slice a l.length cap), (40, .int .i64 (l.length : Nat)), (41, .int .i64 (p.1 : Nat))])
    (fun p wr => Kp w wr n_ ∧ p.1 ≤ l.length ∧ p.2 ≤ 1001 ∧ belowL l b.id = belowF l b.id p.2 (l.drop p.1)) (fun p => l.length - p.1) (0, 0) ⟨rfl, rfl, rfl, rfl, rfl, rfl, rfl, rfl, trivial⟩ ⟨K4, Nat.zero_le _, by decide, rfl⟩ ?_
   rintro ⟨i, m⟩ gg wr ⟨hK, hi, hm1, he⟩
   dsimp only at hi hm1 he ⊢
   refine GW ?_
   by_cases hlt : i < l.length
   ·obtain ⟨gb, o, rfl, hgb, hat⟩ := hr (by omega)
    have hdr := List.drop_eq_getElem_cons hlt
    have hci := List.getElem_mem hlt
    obtain ⟨hdc, hdc8⟩ := zdI hR (.inr ⟨l[i], hci, rfl⟩)
    refine KGO ?_
    generalize l[i] = c at *
    refine Store.fresh (vs := [.int .i64 c.id, .int .i64 c.up, .string (str c.name), .string (str c.role)]) (by rfl) rfl (zam (by rfl)) ?_
    obtain ⟨a_b5, k_w5, z_w5⟩ := new3 wr 44 ([.int .i64 c.id, .int .i64 c.up, .string (str c.name), .string (str c.role)])
    generalize wr.alloc (.cells (List.toArray ([.int .i64 c.id, .int .i64 c.up, .string (str c.name), .string (str c.role)])) 44) = w5 at *
    generalize hs_b5 : wr.heap.size = b5 at *
    have K5 := hK.trans0 k_w5
    refine KGO ?_
    refine CallS.of (Tryz.call153 _ _) (zfu (w := w5) l c.id b.id (hv0.keep K5) hR hdc) ?_
    rintro e w6 ⟨rfl, k6⟩
    have K6 := K5.trans0 k6
    have a6 := zaf a_b5 k6
    refine RT ?_
    rw [hdr] at he
    by_cases h5 : within l c.id b.id = true
    rotate_left
    ·rw [show within l c.id b.id = false by simpa using h5]
     refine KGO ?_
     exact ⟨(i + 1, m), ⟨rfl, rfl, rfl, rfl, rfl, rfl, rfl, v_int (by simp), trivial⟩, ⟨K6, by dsimp only; omega, hm1, by dsimp only; rw [he, belowF, belowF, List.foldl_cons, if_neg h5]⟩, by dsimp only; omega⟩
    ·rw [h5]
     refine KGO ?_
     refine CallS.of (Tryz.call87 _ _) (zcb (w := w6) l c.id (hv0.keep K6) hR hdc) ?_
     rintro e w7 ⟨rfl, k7⟩
     have K7 := K6.trans0 k7
     refine RT ?_
     refine KGO ?_
     refine CallS.of (Tryz.call87 _ _) (zcb (w := w7) l b.id (hv0.keep K7) hR hdi) ?_
     rintro e w8 ⟨rfl, k8⟩
     have K8 := K7.trans0 k8
     refine RT ?_
     obtain ⟨e2, he1, he2⟩ := ((zdJ hR hid0 hdc).1 h5).dep (by rw [zeb, zfq hR]; rfl) hdc
     have hle : dpt l b.id ≤ dpt l c.id := by rw [zfZ he2]; exact he1
     refine KGO ?_
     rw [maxI m _ _ hle]
     exact ⟨(i + 1, max m (dpt l c.id - dpt l b.id + 1)), ⟨rfl, rfl, rfl, rfl, rfl, rfl, rfl, v_int (by simp), trivial⟩, ⟨K8, by dsimp only; omega, by dsimp only; omega, by dsimp only; rw [he, belowF, belowF, List.foldl_cons, if_pos h5]⟩, by dsimp only; omega⟩
   ·rw [List.drop_eq_nil_of_le (by omega)] at he
    have he : belowL l b.id = m := he
    subst he
    refine KGO ?_
    refine CallS.of (Tryz.call87 _ _) (zcb (w := wr) l up (hv0.keep hK) hR hd) ?_
    rintro e w7 ⟨rfl, k7⟩
    have K7 := hK.trans0 k7
    refine RT ?_
    by_cases h6 : 8 < dpt l up + belowL l b.id
    ·refine KGO ?_
     exact ⟨zaC (R := moveL l b.id up) 10 (by unfold moveL; rw [if_neg g1, hb]; dsimp only; rw [if_neg gm2, if_neg gm3, if_pos h6]) K7⟩
    obtain ⟨gb, o, rfl, hgb, hat⟩ := hr (by omega)
    refine KGO ?_
    rw [hk2]
    refine CallS.of (Tryz.call88 _ _) (zdV (w := w7) l up b.name b.id (hv0.keep K7) (by omega) (hE.F.keep K7) (hs b hm).1 (fun b hb => (hs b hb).1)) ?_
    rintro e w8 ⟨rfl, k8⟩
    have K8 := K7.trans0 k8
    refine RT ?_
    by_cases h7 : takenL l up b.name b.id = true
    ·rw [h7]
     refine KGO ?_
     exact ⟨zaC (R := moveL l b.id up) 4 (by unfold moveL; rw [if_neg g1, hb]; dsimp only; rw [if_neg gm2, if_neg gm3, if_neg h6, if_pos h7]) K8⟩
    rw [show takenL l up b.name b.id = false by simpa using h7]
    have hres : moveL l b.id up = (setUp l b.id up, 0) := by unfold moveL; rw [if_neg g1, hb]; dsimp only; rw [if_neg gm2, if_neg gm3, if_neg h6, if_neg h7]
    refine KGO ?_
    refine CallS.of (Tryz.call90 _ _) (zea (w := w8) l (hv0.keep K8) (by omega)) ?_
    rintro e w9 ⟨v1, rfl, o1, k9⟩
    have K9 := K8.trans0 k9
    rcases own_blockK o1 with ⟨_, h0⟩ | ⟨g, cap2, cells, rfl, hBg, hvk, hnc, hcm, hcl, htk⟩
    ·omega
    refine RT ?_
    refine KGO ?_
    refine Store.atK hvk (by rw [hcl]; omega) (by rfl) ⟨rfl, by simp, by simp⟩ fun w10 v10 k10 => ?_
    refine KGO ?_
    have K10 : Kp w w10 n_ := K9.trans k10 fun q hq e => by
     have e : q = g := e
     have := K8.size
     omega
    rw [Nat.zero_add] at v10
    have o6 := zbm (w := w9) boxLen (l := l) (k := k) (j := 1) (x := { b with up := up }) hk1 (by omega) (by rw [hk2]; rfl) hBg hnc hcm hcl htk v10
    rw [zmB hR.asc hm (fun c => { c with up := up }) hk1 hk2] at o6
    have hsl : (setUp l b.id up).length = l.length := by unfold setUp; rw [List.length_map]
    have o7 : OwnB w10 w8.heap.size (.slice (some ⟨g, 0, none⟩) l.length cap2) (setUp l b.id up) := by
     rw [OwnB, hsl]; exact o6
    exact ⟨zey (R := moveL l b.id up) hres (zaj o7 K8.size) K10⟩
end
end Go.Proofs.YtcplagfblmemhaaGreatDoor
namespace Go.Proofs.YtcplagfblmemhaaGreatDoor
set_option linter.unusedVariables false
set_option maxHeartbeats 8000000
open Go.Shelf Go.RowKit Go.Pw Go.Vc Go.Cs Go.Lib Go.Sort
set_option linter.unusedVariables false
set_option maxRecDepth 100000
section
variable {w : World}
theorem zhp {w w' : World} {B s n : Nat} {e : TypeId} {v : Value} {xs : List Value} (h : w.ownsRow B e s v n xs) (k : Kp w w' (own_ v)) (a : World) (ha : Kp a w n_) (hB : a.heap.size ≤ B) : Kp a w' n_ :=
 ha.trans k fun q hq e => by have := (h.lt q e).1; omega
theorem zec {v : Value} (l : List Int) (hv : RowI w v l) (hl : l.length ≤ 17592186044416) : Calls Tryz.prog 91 #[v] w fun e w' => ∃ v', e = .returned v' ∧ OwnI w' w.heap.size v' (sortI l) ∧ Kp w w' n_ := by
 have hv0 := hv
 obtain ⟨a, cap, rfl, hr⟩ := hv
 refine zaa (args := [.slice a l.length cap]) Tryz.func91 rfl NL ?_; refine GW ?_
 refine CallS.of (Tryz.call70 _ _) (cl_I (w := w) l hv0 hl) ?_
 rintro e w1 ⟨v1, rfl, o1, k1⟩
 obtain ⟨a1, c1, rfl⟩ := zac o1
 refine RT ?_
 refine CallS.of (Tryz.call24 _ _) (srt_I (w := w1) l o1 hl) ?_
 rintro e w2 ⟨rfl, o2, k2⟩
 refine RT ?_
 rw [show l.length = (l.mergeSort fun x y => decide (x ≤ y)).length from (List.length_mergeSort _).symm] at *
 refine CallS.of (Tryz.call142 _ _) (cmp_I (w := w2) _ o2 hl) ?_
 rintro e w3 ⟨v3, rfl, o3, k3, hb⟩
 rw [zis] at o3
 obtain ⟨a3, c3, rfl⟩ := zac o3
 refine RT ?_
 exact ⟨_, rfl, o3, zhp o2 k3 w (zhp o1 k2 w k1 (Nat.le_refl _)) (Nat.le_refl _)⟩
theorem zda {v : Value} (l : List (List UInt8)) (hv : RowT w v l) (hl : l.length ≤ 8796093022208) : Calls Tryz.prog 92 #[v] w fun e w' => ∃ v', e = .returned v' ∧ OwnT w' w.heap.size v' (sortT l) ∧ Kp w w' n_ := by
 have hv0 := hv
 obtain ⟨a, cap, rfl, hr⟩ := hv
 refine zaa (args := [.slice a l.length cap]) Tryz.func92 rfl NL ?_; refine GW ?_
 refine CallS.of (Tryz.call71 _ _) (cl_T (w := w) l hv0 hl) ?_
 rintro e w1 ⟨v1, rfl, o1, k1⟩
 obtain ⟨a1, c1, rfl⟩ := zac o1
 refine RT ?_
 refine CallS.of (Tryz.call143 _ _) (srt_T (w := w1) l o1 hl) ?_
 rintro e w2 ⟨rfl, o2, k2⟩
 refine RT ?_
 rw [show l.length = (l.mergeSort fun x y => decide (x ≤ y)).length from (List.length_mergeSort _).symm] at *
 refine CallS.of (Tryz.call144 _ _) (cmp_T (w := w2) _ o2 hl) ?_
 rintro e w3 ⟨v3, rfl, o3, k3, hb⟩
 rw [zhQ] at o3
 obtain ⟨a3, c3, rfl⟩ := zac o3
 refine RT ?_
 exact ⟨_, rfl, o3, zhp o2 k3 w (zhp o1 k2 w k1 (Nat.le_refl _)) (Nat.le_refl _)⟩
theorem zcq (n lo hi : Int) : Calls Tryz.prog 62 #[.int .i64 n, .int .i64 lo, .int .i64 hi] w fun e w' => e = .returned (.bool (decide (lo ≤ n ∧ n ≤ hi))) ∧ w = w' := by
 refine zaa (args := [.int .i64 n, .int .i64 lo, .int .i64 hi]) Tryz.func62 rfl NL ?_; refine GW ?_
 by_cases h1 : lo ≤ n
 ·refine KGO ?_
  exact ⟨zag (by simp [h1]), rfl⟩
 ·refine KGO ?_
  exact ⟨zag (by simp [h1]), rfl⟩
end
end Go.Proofs.YtcplagfblmemhaaGreatDoor
namespace Go.Proofs.YtcplagfblmemhaaGreatDoor
set_option linter.unusedVariables false
set_option maxHeartbeats 8000000
open Go.Shelf Go.RowKit Go.Pw Go.Vc Go.Cs Go.Lib
set_option linter.unusedVariables false
set_option maxRecDepth 100000
section
variable {w : World}
theorem zkt (c : UInt8) : flagCh c = true ↔ (97 ≤ c.toNat ∧ c.toNat ≤ 122) ∨ (48 ≤ c.toNat ∧ c.toNat ≤ 57) ∨ c ∈ ([36, 92, 45, 95, 46] : List UInt8) := by
 unfold flagCh
 simp [or_assoc]
theorem zqD (c : UInt8) : 0 ≤ indexByte [36, 92, 45, 95, 46] c ↔ c ∈ ([36, 92, 45, 95, 46] : List UInt8) := by
 have := contains_iff_indexByte [36, 92, 45, 95, 46] c
 rw [← decide_eq_true_iff (p := 0 ≤ _), ← this]
 simp
theorem zlG {s : List UInt8} {i : Nat} (h : i < s.length) : byteAt (str s) i = s[i] := by
 show s.getD i 0 = _
 rw [List.getD, List.getElem?_eq_getElem h]; rfl
theorem zjz {s : List UInt8} {p : UInt8 → Bool} {i : Nat} (h : i < s.length) (ha : (s.take i).all p = true) (hp : p s[i] = true) : (s.take (i + 1)).all p = true := by
 rw [List.take_succ_eq_append_getElem h, List.all_append, ha]; simp [hp]
theorem zoF {s : List UInt8} {p : UInt8 → Bool} {i : Nat} (h : i < s.length) (hp : ¬ p s[i] = true) : s.all p = false := by
 rw [List.all_eq_false]
 exact ⟨_, List.getElem_mem h, hp⟩
theorem zpI (s : List UInt8) (hs : s.length ≤ 140737488355328) : Calls Tryz.prog 147 #[.string (str s)] w fun e w' => e = .returned (.bool (flagB s)) ∧ w = w' := by
 have hz : (str s).size = s.length := zbd s
 refine zaa (args := [.string (str s)]) Tryz.func147 rfl NL ?_; refine GW ?_
 rw [hz]
 refine Loop.intro (ι := Nat) (fun i => [(0, .string (str s)), (6, .int .i64 (s.length : Nat)), (7, .int .i64 (i : Nat))])
  (fun i wr => w = wr ∧ i ≤ s.length ∧ (s.take i).all flagCh = true) (fun i => s.length - i) 0 ⟨rfl, rfl, rfl, trivial⟩ ⟨rfl, Nat.zero_le _, rfl⟩ ?_
 rintro i gg wr ⟨rfl, hi, he⟩
 refine GW ?_
 by_cases hlt : i < s.length
 ·have hb := zlG hlt
  have hst := zjz hlt he
  have hno : ¬ flagCh s[i] = true → flagB s = false := fun h => by unfold flagB; rw [zoF hlt h]; rfl
  rw [← hb] at hst hno
  have hf := zkt (byteAt (str s) i)
  have hx := zqD (byteAt (str s) i)
  have hcl := UInt8.toNat_lt (byteAt (str s) i)
  have goOn : flagCh (byteAt (str s) i) = true → (w = w ∧ i + 1 ≤ s.length ∧ (s.take (i + 1)).all flagCh = true) := fun h => ⟨rfl, by omega, hst h⟩
  have hneg : ¬ (97 ≤ (byteAt (str s) i).toNat ∧ (byteAt (str s) i).toNat ≤ 122) → ¬ (48 ≤ (byteAt (str s) i).toNat ∧ (byteAt (str s) i).toNat ≤ 57) → indexByte [36, 92, 45, 95, 46] (byteAt (str s) i) < 0 → flagB s = false := fun a b c => hno fun h => by
   rcases hf.1 h with h | h | h
   ·exact a h
   ·exact b h
   ·have := hx.2 h; omega
  by_cases h1 : 97 ≤ (byteAt (str s) i).toNat
  ·by_cases h2 : (byteAt (str s) i).toNat ≤ 122
   ·refine KGO ?_
    exact ⟨i + 1, ⟨rfl, rfl, v_int (by simp), trivial⟩, goOn (hf.2 (.inl ⟨h1, h2⟩)), by dsimp only; omega⟩
   ·refine KGO ?_
    refine CallS.of (Tryz.call177 _ _) (zdq ⟨#[36, 92, 45, 95, 46]⟩ (byteAt (str s) i) w) ?_
    rintro e w1 ⟨rfl, rfl⟩
    rw [show L ⟨#[36, 92, 45, 95, 46]⟩ = [36, 92, 45, 95, 46] from rfl]
    refine RT ?_
    by_cases h5 : indexByte [36, 92, 45, 95, 46] (byteAt (str s) i) < 0
    ·refine KGO ?_
     exact ⟨zag (hneg (by omega) (by omega) h5).symm, rfl⟩
    ·refine KGO ?_
     exact ⟨i + 1, ⟨rfl, rfl, v_int (by simp), trivial⟩, goOn (hf.2 (.inr (.inr (hx.1 (by omega))))), by dsimp only; omega⟩
  ·by_cases h3 : 48 ≤ (byteAt (str s) i).toNat
   ·by_cases h4 : (byteAt (str s) i).toNat ≤ 57
    ·refine KGO ?_
     exact ⟨i + 1, ⟨rfl, rfl, v_int (by simp), trivial⟩, goOn (hf.2 (.inr (.inl ⟨h3, h4⟩))), by dsimp only; omega⟩
    ·refine KGO ?_
     refine CallS.of (Tryz.call177 _ _) (zdq ⟨#[36, 92, 45, 95, 46]⟩ (byteAt (str s) i) w) ?_
     rintro e w1 ⟨rfl, rfl⟩
     rw [show L ⟨#[36, 92, 45, 95, 46]⟩ = [36, 92, 45, 95, 46] from rfl]
     refine RT ?_
     by_cases h5 : indexByte [36, 92, 45, 95, 46] (byteAt (str s) i) < 0
     ·refine KGO ?_
      exact ⟨zag (hneg (by omega) (by omega) h5).symm, rfl⟩
     ·refine KGO ?_
      exact ⟨i + 1, ⟨rfl, rfl, v_int (by simp), trivial⟩, goOn (hf.2 (.inr (.inr (hx.1 (by omega))))), by dsimp only; omega⟩
   ·refine KGO ?_
    refine CallS.of (Tryz.call177 _ _) (zdq ⟨#[36, 92, 45, 95, 46]⟩ (byteAt (str s) i) w) ?_
    rintro e w1 ⟨rfl, rfl⟩
    rw [show L ⟨#[36, 92, 45, 95, 46]⟩ = [36, 92, 45, 95, 46] from rfl]
    refine RT ?_
    by_cases h5 : indexByte [36, 92, 45, 95, 46] (byteAt (str s) i) < 0
    ·refine KGO ?_
     exact ⟨zag (hneg (by omega) (by omega) h5).symm, rfl⟩
    ·refine KGO ?_
     exact ⟨i + 1, ⟨rfl, rfl, v_int (by simp), trivial⟩, goOn (hf.2 (.inr (.inr (hx.1 (by omega))))), by dsimp only; omega⟩
 ·rw [List.take_of_length_le (by omega)] at he
  refine KGO ?_
  rw [hz]
  refine CallS.of (Tryz.call62 _ _) (zcq (s.length : Nat) 1 30) ?_
  rintro e w1 ⟨rfl, rfl⟩
  refine RT ?_
  exact ⟨zag (by unfold flagB; rw [he, Bool.true_and]; exact decide_eq_decide.2 (by omega)), rfl⟩
theorem znN (c : UInt8) : scCh c = true ↔ 32 ≤ c.toNat ∧ c.toNat ≠ 127 := by
 unfold scCh
 simp
theorem zom (s : List UInt8) (hs : s.length ≤ 140737488355328) : Calls Tryz.prog 107 #[.string (str s)] w fun e w' => e = .returned (.bool (scB s)) ∧ w = w' := by
 have hz : (str s).size = s.length := zbd s
 refine zaa (args := [.string (str s)]) Tryz.func107 rfl NL ?_; refine GW ?_
 rw [hz]
 refine Loop.intro (ι := Nat) (fun i => [(0, .string (str s)), (5, .int .i64 (s.length : Nat)), (6, .int .i64 (i : Nat))])
  (fun i wr => w = wr ∧ i ≤ s.length ∧ (s.take i).all scCh = true) (fun i => s.length - i) 0 ⟨rfl, rfl, rfl, trivial⟩ ⟨rfl, Nat.zero_le _, rfl⟩ ?_
 rintro i gg wr ⟨rfl, hi, he⟩
 refine GW ?_
 by_cases hlt : i < s.length
 ·have hb := zlG hlt
  have hst := zjz hlt he
  have hno : ¬ scCh s[i] = true → scB s = false := fun h => by unfold scB; rw [zoF hlt h]; rfl
  rw [← hb] at hst hno
  have hf := znN (byteAt (str s) i)
  have hcl := UInt8.toNat_lt (byteAt (str s) i)
  by_cases h1 : (byteAt (str s) i).toNat < 32
  ·refine KGO ?_
   exact ⟨zag (hno fun h => by have := hf.1 h; omega).symm, rfl⟩
  ·by_cases h2 : (byteAt (str s) i).toNat = 127
   ·refine KGO ?_
    exact ⟨zag (hno fun h => by have := hf.1 h; omega).symm, rfl⟩
   ·refine KGO ?_
    exact ⟨i + 1, ⟨rfl, rfl, v_int (by simp), trivial⟩, ⟨rfl, by omega, hst (hf.2 ⟨by omega, h2⟩)⟩, by dsimp only; omega⟩
 ·rw [List.take_of_length_le (by omega)] at he
  refine KGO ?_
  rw [hz]
  refine CallS.of (Tryz.call62 _ _) (zcq (s.length : Nat) 1 100) ?_
  rintro e w1 ⟨rfl, rfl⟩
  refine RT ?_
  exact ⟨zag (by unfold scB; rw [he, Bool.true_and]; exact decide_eq_decide.2 (by omega)), rfl⟩
theorem zlW (s : List UInt8) (hs : s.length ≤ 140737488355328) : Calls Tryz.prog 146 #[.string (str s)] w fun e w' => e = .returned (.bool (!flagB s)) ∧ Kp w w' n_ := by
 refine zaa (args := [.string (str s)]) Tryz.func146 rfl NL ?_; refine GW ?_
 refine CallS.of (Tryz.call147 _ _) (zpI s hs) ?_
 rintro e w1 ⟨rfl, rfl⟩
 refine RT ?_
 exact ⟨rfl, Kp.refl _ _⟩
theorem zhf {v : Value} (l : List (List UInt8)) (hv : RowT w v l) (hl : l.length ≤ 8796093022208) (hs : ∀ s ∈ l, s.length ≤ 140737488355328) : Calls Tryz.prog 93 #[v] w fun e w' => e = .returned (.bool (flagsB l)) ∧ Kp w w' n_ := by
 have hv0 := hv
 obtain ⟨a, cap, rfl, hr⟩ := hv
 refine zaa (args := [.slice a l.length cap]) Tryz.func93 rfl NL ?_; refine GW ?_
 refine CallS.of (Tryz.call145 _ _) (zqp l 146 (fun s => !flagB s) hv0 hl Tryz.call146 (fun s h w' k => zlW s (hs s h))) ?_
 rintro e w1 ⟨rfl, k1⟩
 refine RT ?_
 refine ⟨zag ?_, k1⟩
 unfold flagsB
 rw [Bool.eq_iff_iff, Bool.not_eq_true', List.any_eq_false, List.all_eq_true]
 simp
theorem zld (x : Mr) (id : Int) {bp : Nat} (hc : w.cell? ⟨bp, 0, none⟩ = some (.int .i64 id)) : Calls Tryz.prog 69 #[.agg (mrC x).toArray, .pointer (some ⟨bp, 0, none⟩)] w fun e w' => e = .returned (.bool (decide (x.m.id = id))) ∧ Kp w w' n_ := by
 refine zaa (args := [.agg (mrC x).toArray, .pointer (some ⟨bp, 0, none⟩)]) Tryz.func69 rfl NL ?_; refine GW ?_
 obtain ⟨a_b1, v_b1, k_w1, z_w1, r_w1⟩ := new5 w 60 (mrC x)
 generalize w.alloc (.cells (List.toArray (mrC x)) 60) = w1 at *
 generalize hs_b1 : w.heap.size = b1 at *
 refine KGO ?_
 exact ⟨zag (zdk _ _), k_w1⟩
theorem zkA (b : Bx) (id : Int) {bp : Nat} (hc : w.cell? ⟨bp, 0, none⟩ = some (.int .i64 id)) : Calls Tryz.prog 150 #[.agg (boxCells b).toArray, .pointer (some ⟨bp, 0, none⟩)] w fun e w' => e = .returned (.bool (decide (b.id = id))) ∧ Kp w w' n_ := by
 refine zaa (args := [.agg (boxCells b).toArray, .pointer (some ⟨bp, 0, none⟩)]) Tryz.func150 rfl NL ?_; refine GW ?_
 obtain ⟨a_b1, v_b1, k_w1, z_w1, r_w1⟩ := new5 w 44 (boxCells b)
 generalize w.alloc (.cells (List.toArray (boxCells b)) 44) = w1 at *
 generalize hs_b1 : w.heap.size = b1 at *
 refine KGO ?_
 exact ⟨zag (zdk _ _), k_w1⟩
end
structure MailOk (w : World) (x : Mr) : Prop where
 b : RowI w x.b.v x.m.boxes
 f : RowT w x.f.v x.m.flags
theorem MailOk.keep {w w' : World} {x : Mr} (h : MailOk w x) (k : Kp w w' n_) : MailOk w' x := ⟨h.b.keep k, h.f.keep k⟩
abbrev zMl : List Value := [.int .i64 0, .int .u8 0, .int .u8 0, .int .u8 0, .int .u8 0, .int .u8 0, .int .u8 0, .int .u8 0, .int .u8 0, .int .u8 0, .int .u8 0, .int .u8 0, .int .u8 0, .int .u8 0, .int .u8 0, .int .u8 0, .int .u8 0, .int .u8 0, .int .u8 0, .int .u8 0, .int .u8 0, .int .u8 0, .int .u8 0, .int .u8 0, .int .u8 0, .int .u8 0, .int .u8 0, .int .u8 0, .int .u8 0, .int .u8 0, .int .u8 0, .int .u8 0, .int .u8 0, .slice none 0 0, .slice none 0 0, .int .i64 0, .int .i64 0, .int .i64 0]
def Apart (v u : Value) : Prop := ∀ k, v.ownBlock = some k → u.ownBlock ≠ some k
theorem zax {w w' : World} {B s n b : Nat} {e : TypeId} {v : Value} {xs : List Value} (h : w.ownsRow B e s v n xs) (k : Kp w w' (one_ b)) (hb : b < B) : w'.ownsRow B e s v n xs :=
 zad h k fun g hg e => by have e : g = b := e; have := (h.lt g hg).1; omega
theorem zan {a w w' : World} {b : Nat} (h : Kp a w n_) (k : Kp w w' (one_ b)) (hb : a.heap.size ≤ b) : Kp a w' n_ := h.trans k fun q hq e => by have e : q = b := e; omega
theorem zcz {w w' : World} {B B' s s' n n' : Nat} {e e' : TypeId} {v v' : Value} {xs xs' : List Value} (h : w.ownsRow B e s v n xs) (h' : w'.ownsRow B' e' s' v' n' xs') (hB : w.heap.size ≤ B') : Apart v v' := fun k hk hk' => by
 have := (h.lt k hk).2
 have := (h'.lt k hk').1
 omega
section
variable {w : World}
theorem zmF (x : Mr) (hx : MailOk w x) (hb : x.m.boxes.length ≤ 1000000) (hf : x.m.flags.length ≤ 1000000) :
  Calls Tryz.prog 40 #[.agg (mrC x).toArray] w fun e w' => ∃ y : Mr, e = .returned (.agg (mrC y).toArray) ∧ y.m = x.m ∧ OwnI w' w.heap.size y.b.v x.m.boxes ∧ OwnT w' w.heap.size y.f.v x.m.flags ∧ Apart y.b.v y.f.v ∧ Kp w w' n_ := by
 refine zaa (args := [.agg (mrC x).toArray]) Tryz.func40 rfl NL ?_; refine GW ?_
 obtain ⟨a_b1, v_b1, k_w1, z_w1, r_w1⟩ := new5 w 60 (mrC x)
 generalize w.alloc (.cells (List.toArray (mrC x)) 60) = w1 at *
 generalize hs_b1 : w.heap.size = b1 at *
 obtain ⟨a_b2, v_b2, k_w2, z_w2, r_w2⟩ := new5 w1 60 (zMl)
 generalize w1.alloc (.cells (List.toArray (zMl)) 60) = w2 at *
 generalize hs_b2 : w1.heap.size = b2 at *
 have K2 : Kp w w2 n_ := k_w1.trans0 k_w2
 refine Draw.heldTail 6 (fun u => Kp w2 u n_) (fun _ => true) (by decide +kernel) (by decide +kernel) (Kp.refl _ _).drew ?_
 refine GW ?_
 refine KGO ?_
 refine CallS.of (Tryz.call70 _ _) (cl_I (w := w2.drew) x.m.boxes (hx.b.keep K2.drew) (by omega)) ?_
 rintro e w3 ⟨v3, rfl, o3, k3⟩
 obtain ⟨a3, c3, rfl⟩ := zac o3
 have o3' := o3
 have K3 : Kp w2 w3 n_ := (Kp.refl w2 n_).drew.trans0 k3
 refine RT ?_
 refine ⟨K3, ?_⟩
 refine KGO ?_
 refine CallS.of (Tryz.call71 _ _) (cl_T (w := w3) x.m.flags (hx.f.keep (K2.trans0 K3)) (by omega)) ?_
 rintro e w4 ⟨v4, rfl, o4, k4⟩
 obtain ⟨a4, c4, rfl⟩ := zac o4
 have K4 := K3.trans0 k4
 have vb := v_b1.keep0 (k_w2.trans0 K4)
 have vr := v_b2.keep0 K4
 refine RT ?_
 refine ⟨K4, ?_⟩
 refine KGO ?_
 refine SCK 33 vb fun w5 vb k5 => ?_
 refine KGO ?_
 refine SCK 34 vb fun w6 vb k6 => ?_
 refine KGO ?_
 have hy : ((mrC x).set 33 (.slice a3 x.m.boxes.length c3)).set 34 (.slice a4 x.m.flags.length c4) = mrC ⟨x.m, ⟨a3, x.m.boxes.length, c3⟩, ⟨a4, x.m.flags.length, c4⟩⟩ := rfl
 rw [hy] at vb
 have hat := vb.at
 have ne : b2 ≠ b1 := by omega
 have vr := (vr.keep k5 ne).keep k6 ne
 refine KGO ?_
 refine SVK (mrC ⟨x.m, ⟨a3, x.m.boxes.length, c3⟩, ⟨a4, x.m.flags.length, c4⟩⟩) vr fun w7 vr k7 => ?_
 have hat := vr.at
 refine KGO ?_
 refine GW ?_
 refine KGO ?_
 refine GW ?_
 have z2 : w2.drew.heap.size = w2.heap.size := rfl
 have z3 := K3.size
 have h1 : b1 < w2.drew.heap.size := by omega
 have h2 : b2 < w2.drew.heap.size := by omega
 have o3 := zax (zax (zax (zab o3 k4) k5 h1) k6 h1) k7 h2
 have ap := zcz (w := w3) o3' o4 (Nat.le_refl _)
 have o4 := zax (zax (zax o4 k5 (by omega)) k6 (by omega)) k7 (by omega)
 exact ⟨⟨x.m, ⟨a3, x.m.boxes.length, c3⟩, ⟨a4, x.m.flags.length, c4⟩⟩, rfl, rfl, zaj o3 (by omega), zaj o4 (by omega), ap, zan (zan (zan (K2.trans0 K4) k5 (by omega)) k6 (by omega)) k7 (by omega)⟩
end
structure Hd where
 B : Sl
 M : Sl
 S : Sl
 N : Sl
def accC (h : Hd) (A : Acc) : List Value := [.slice h.B.a h.B.n h.B.c, .slice h.M.a h.M.n h.M.c, .slice h.S.a h.S.n h.S.c, .string (str A.active), .slice h.N.a h.N.n h.N.c, .int .i64 A.nm, .int .i64 A.nb, .int .i64 A.st]
def RowM (w : World) (v : Value) (l : List Ml) : Prop := ∃ lx : List Mr, lx.map (·.m) = l ∧ RowMr w v lx ∧ ∀ x ∈ lx, MailOk w x
theorem RowM.keep {w w' : World} {v : Value} {l : List Ml} (h : RowM w v l) (k : Kp w w' n_) : RowM w' v l := by
 obtain ⟨lx, h1, h2, h3⟩ := h
 exact ⟨lx, h1, h2.keep k, fun x hx => (h3 x hx).keep k⟩
structure AccR (w : World) (h : Hd) (A : Acc) : Prop where
 b : RowB w h.B.v A.boxes
 m : RowM w h.M.v A.mails
 s : RowS w h.S.v A.scripts
 n : RowN w h.N.v A.seen
theorem AccR.keep {w w' : World} {h : Hd} {A : Acc} (r : AccR w h A) (k : Kp w w' n_) : AccR w' h A := ⟨r.b.keep k, r.m.keep k, r.s.keep k, r.n.keep k⟩
structure Fit (A : Acc) : Prop where
 bl : A.boxes.length ≤ 1000
 bs : SmallB A.boxes
 ml : A.mails.length ≤ 100000
 mb : ∀ m ∈ A.mails, m.boxes.length ≤ 100000 ∧ m.flags.length ≤ 200
 mf : ∀ m ∈ A.mails, ∀ f ∈ m.flags, f.length ≤ 1000000
 sl : A.scripts.length ≤ 1000
 ss : ∀ s ∈ A.scripts, s.name.length ≤ 1000000 ∧ s.text.length ≤ 1000000
 nl : A.seen.length ≤ 100000
 st : 0 ≤ A.st ∧ A.st ≤ 4611686018427387904
 nm : 0 ≤ A.nm ∧ A.nm ≤ 4611686018427387904
 nb : 0 ≤ A.nb ∧ A.nb ≤ 4611686018427387904
theorem zou {α β : Type} (f : α → β) (p : β → Bool) (l : List α) : idxP (fun x => p (f x)) l = idxP p (l.map f) := by
 unfold idxP
 rw [List.findIdx?_map]
 rfl
def findL (l : List Ml) (id : Int) : Option Ml := l.find? fun m => decide (m.id = id)
def placeL (l : List Ml) (id : Int) : Int := idxP (fun m => decide (m.id = id)) l
theorem place_find (l : List Ml) (id : Int) : (placeL l id = -1 ∧ findL l id = none) ∨ ∃ i : Nat, ∃ h : i < l.length, placeL l id = (i : Nat) ∧ findL l id = some l[i] ∧ l[i].id = id ∧ ∀ j (hj : j < i), (l[j]'(by omega)).id ≠ id := by
 unfold placeL findL
 rcases idxP_lt (fun m : Ml => decide (m.id = id)) l with h | ⟨i, hi, h1, h2, h3⟩
 ·refine .inl ⟨h, ?_⟩
  rw [List.find?_eq_none]
  intro x hx hp
  have : l.any (fun m => decide (m.id = id)) = true := List.any_eq_true.2 ⟨x, hx, hp⟩
  rw [← zcu, h] at this
  omega
 ·refine .inr ⟨i, hi, h1, ?_, by simpa using h2, fun j hj => by simpa using h3 j hj⟩
  rw [List.find?_eq_some_iff_getElem]
  exact ⟨h2, i, hi, rfl, fun j hj => by rw [h3 j hj]; rfl⟩
section
variable {w : World}
theorem ziX {h : Hd} {A : Acc} (id : Int) (ha : AccR w h A) (hl : A.mails.length ≤ 1000000) : Calls Tryz.prog 39 #[.agg (accC h A).toArray, .int .i64 id] w fun e w' => e = .returned (.int .i64 (placeL A.mails id)) ∧ Kp w w' n_ := by
 obtain ⟨lx, hm, hr, hx⟩ := ha.m
 refine zaa (args := [.agg (accC h A).toArray, .int .i64 id]) Tryz.func39 rfl NL ?_; refine GW ?_
 obtain ⟨a_b1, v_b1, k_w1, z_w1, r_w1⟩ := new5 w 36 (accC h A)
 generalize w.alloc (.cells (List.toArray (accC h A)) 36) = w1 at *
 generalize hs_b1 : w.heap.size = b1 at *
 obtain ⟨a_b2, v_b2, k_w2, z_w2, r_w2⟩ := new5 w1 3 ([.int .i64 id])
 generalize w1.alloc (.cells (List.toArray ([.int .i64 id])) 3) = w2 at *
 generalize hs_b2 : w1.heap.size = b2 at *
 refine KGO ?_
 conv => arg 3; simp [ev, upd]
 refine CallS.of (Tryz.call68 _ _) (zqn (w := w2) lx 69 (.pointer (some ⟨b2, 0, none⟩)) (fun x => decide (x.m.id = id)) (hr.keep (k_w1.trans0 k_w2)) (by have := congrArg List.length hm; rw [List.length_map] at this; omega) Tryz.call69 (fun x _ w' k => zld x id (zao (a_b2 0 _ rfl) k))) ?_
 rintro e w3 ⟨rfl, k3⟩
 refine RT ?_
 refine ⟨?_, (k_w1.trans0 k_w2).trans0 k3⟩
 rw [zou (·.m) (fun m : Ml => decide (m.id = id)) lx, hm]
 rfl
end
section
variable {w : World}
theorem zkS {h : Hd} {A : Acc} (id : Int) {bp : Nat} (hc : At w bp 0 (accC h A)) (hb : RowB w h.B.v A.boxes) (hl : A.boxes.length ≤ 1000000) : Calls Tryz.prog 149 #[.int .i64 id, .pointer (some ⟨bp, 0, none⟩)] w fun e w' => e = .returned (.bool (!hasId A.boxes id)) ∧ Kp w w' n_ := by
 refine zaa (args := [.int .i64 id, .pointer (some ⟨bp, 0, none⟩)]) Tryz.func149 rfl NL ?_; refine GW ?_
 obtain ⟨a_b1, v_b1, k_w1, z_w1, r_w1⟩ := new5 w 3 ([.int .i64 id])
 generalize w.alloc (.cells (List.toArray ([.int .i64 id])) 3) = w1 at *
 generalize hs_b1 : w.heap.size = b1 at *
 refine KGO ?_
 conv => arg 3; simp [ev, upd]
 refine CallS.of (Tryz.call84 _ _) (cf1 (w := w1) A.boxes 150 (.pointer (some ⟨b1, 0, none⟩)) (fun b => decide (b.id = id)) (hb.keep k_w1) hl Tryz.call150 (fun b _ w' k => zkA b id (zao (a_b1 0 _ rfl) k))) ?_
 rintro e w2 ⟨rfl, k2⟩
 refine RT ?_
 exact ⟨rfl, k_w1.trans0 k2⟩
theorem zjF {h : Hd} {A : Acc} {v : Value} (l : List Int) (hb : RowB w h.B.v A.boxes) (hbl : A.boxes.length ≤ 1000000) (hv : RowI w v l) (hl : l.length ≤ 17592186044416) : Calls Tryz.prog 94 #[.agg (accC h A).toArray, v] w fun e w' => e = .returned (.bool (thereB A.boxes l)) ∧ Kp w w' n_ := by
 have hv0 := hv
 obtain ⟨a, cap, rfl, hr⟩ := hv
 refine zaa (args := [.agg (accC h A).toArray, .slice a l.length cap]) Tryz.func94 rfl NL ?_; refine GW ?_
 obtain ⟨a_b1, v_b1, k_w1, z_w1, r_w1⟩ := new5 w 36 (accC h A)
 generalize w.alloc (.cells (List.toArray (accC h A)) 36) = w1 at *
 generalize hs_b1 : w.heap.size = b1 at *
 refine KGO ?_
 conv => arg 3; simp [ev, upd]
 refine CallS.of (Tryz.call148 _ _) (zqQ (w := w1) l 149 (.pointer (some ⟨b1, 0, none⟩)) (fun id => !hasId A.boxes id) (hv0.keep k_w1) hl Tryz.call149 (fun id _ w' k => zkS (h := h) (A := A) id (zaf a_b1 k) (hb.keep (k_w1.trans0 k)) hbl)) ?_
 rintro e w2 ⟨rfl, k2⟩
 refine RT ?_
 refine ⟨zag ?_, k_w1.trans0 k2⟩
 unfold thereB
 rw [Bool.eq_iff_iff, Bool.not_eq_true', List.any_eq_false, List.all_eq_true]
 unfold hasId
 simp
end
section
end
end Go.Proofs.YtcplagfblmemhaaGreatDoor
