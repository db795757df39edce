/- Helper text of this claim: Bw12, Aa0, Aa1, Aa2: lemmas and contracts that the proved statement rests on; no conditions of its own. -/
import Derived.Test.YtohhkegmbgancaaGreatDoorGBw10
import Derived.Test.YtohhkegmbgancaaGreatDoorGAg2
import Derived.Test.YtohhkegmbgancaaGreatDoorGShf2
import Derived.Lib.IndexAny
-- alias Tryz
namespace Go.Proofs.YtohhkegmbgancaaGreatDoor
open Go.RowKit Go.Pw Go.Vc Go.Cs Go.Lib
set_option linter.unusedVariables false
set_option maxRecDepth 100000
def belowF (l : List Bx) (id : Int) (m : Nat) (r : List Bx) : Nat := r.foldl (fun m b => if within l b.id id then max m (dpt l b.id - dpt l id + 1) else m) m
theorem maxI (m : Nat) (a b : Nat) (h : b ≤ a) : max (m : Int) ((a : Nat) - (b : Nat) + 1) = ((max m (a - b + 1) : Nat) : Int) := by omega
section
variable {w w' : World}
set_option maxHeartbeats 8000000 in
theorem bx_Move {v : Value} (l : List Bx) (id up : Int) (hv : RowB w v l) (hl : l.length ≤ 1000) (hs : SmallB l) (hE : BEnv w) :
    Calls Tryz.prog 82 #[v, .int .i64 id, .int .i64 up] w fun e w' => ∃ v', e = .returned (.tuple #[v', .int .i64 ((moveL l id up).2 : Nat)]) ∧ OwnB w' w.heap.size v' (moveL l id up).1 ∧ Keeps w w' none_ := by
  have hv0 := hv
  obtain ⟨a, cap, rfl, hr⟩ := hv
  refine calls_of_vc (args := [.slice a l.length cap, .int .i64 id, .int .i64 up]) Tryz.func82 rfl (Nat.le_of_ble_eq_true rfl) ?_; refine Sat.go hmix ?_; conv => whnf
  refine CallS.of (Tryz.call44 _ _) (bx_Right (w := w) l hv0 hl hs hE.F hE.T hE.R) ?_
  rintro e w1 ⟨rfl, k1⟩
  refine ⟨_, rfl, ?_⟩; (first | refine Then.go hmix ?_ | refine Sat.go hmix ?_ | refine ResK.go ?_ | skip); conv => whnf
  by_cases h1 : rightL l = true
  rotate_left
  · rw [show rightL l = false by simpa using h1]
    refine KGO ?_
    exact ⟨fin_err (R := moveL l id up) 1 (by unfold moveL; rw [if_pos h1]) k1⟩
  rw [h1]
  have hR := (rightL_iff l).1 h1
  have g1 : ¬ ¬ rightL l = true := fun h => h h1
  refine KGO ?_
  refine CallS.of (Tryz.call43 _ _) (bx_search (w := w1) l id (hv0.keep k1) (by omega)) ?_
  rintro e w2 ⟨k, q, rfl, hkl, hasc, k2⟩
  obtain ⟨rfl, rfl⟩ := hasc hR.asc
  have K2 := k1.trans0 k2
  refine ⟨_, rfl, ?_⟩; (first | refine Then.go hmix ?_ | refine Sat.go hmix ?_ | refine ResK.go ?_ | skip); conv => whnf
  cases hb : boxOf l id with
  | none =>
    have hno : hasId l id = false := by
      rw [Bool.eq_false_iff]
      exact fun h => by
        obtain ⟨c, hc, he⟩ := (hasId_iff _ _).1 h
        exact boxOf_none.1 hb c hc he
    rw [hno]
    refine KGO ?_
    exact ⟨fin_err (R := moveL l id up) 5 (by unfold moveL; rw [if_neg g1, hb]) K2⟩
  | some b =>
    obtain ⟨hm, rfl⟩ := boxOf_mem hb
    rw [(hasId_iff l b.id).2 ⟨b, hm, rfl⟩]
    obtain ⟨hk1, hk2⟩ := idx_at hR.asc hm
    have hid0 : b.id ≠ 0 := by have := (hR.pos b hm).1; omega
    generalize idxL l b.id = k at *
    refine KGO ?_
    refine CallS.of (Tryz.call66 _ _) (bx_has (w := w2) l up (hv0.keep K2) (by omega) hR.asc) ?_
    rintro e w3 ⟨rfl, k3⟩
    have K3 := K2.trans0 k3
    refine ⟨_, rfl, ?_⟩; (first | refine Then.go hmix ?_ | refine Sat.go hmix ?_ | refine ResK.go ?_ | skip); conv => whnf
    by_cases h2 : up = 0 ∨ hasId l up = true
    rotate_left
    · rw [decide_eq_false h2]
      refine KGO ?_
      exact ⟨fin_err (R := moveL l b.id up) 5 (by unfold moveL; rw [if_neg g1, hb]; dsimp only; rw [if_pos h2]) K3⟩
    rw [decide_eq_true h2]
    have h2' : up = 0 ∨ ∃ c ∈ l, c.id = up := by rwa [hasId_iff] at h2
    obtain ⟨hd, hd8⟩ := dep_up hR h2'
    obtain ⟨hdi, hdi8⟩ := dep_up hR (.inr ⟨b, hm, rfl⟩)
    have gm2 : ¬ ¬ (up = 0 ∨ hasId l up = true) := fun h => h h2
    by_cases h3 : up = 0
    · have gm3 : ¬ (up ≠ 0 ∧ within l up b.id = true) := fun h => h.1 h3
      refine KGO ?_
      refine Loop.intro (ι := Nat × Nat) (fun p => [(0, .slice a l.length cap), (1, .int .i64 b.id), (2, .int .i64 up), (8, .int .i64 (k : Nat)), (10, .int .i64 (p.2 : Nat)), (39, .slice a l.length cap), (40, .int .i64 (l.length : Nat)), (41, .int .i64 (p.1 : Nat))])
        (fun p wr => Keeps w wr none_ ∧ p.1 ≤ l.length ∧ p.2 ≤ 1001 ∧ belowL l b.id = belowF l b.id p.2 (l.drop p.1)) (fun p => l.length - p.1) (0, 0) ⟨rfl, rfl, rfl, rfl, rfl, rfl, rfl, rfl, trivial⟩ ⟨K3, Nat.zero_le _, by decide, rfl⟩ ?_
      rintro ⟨i, m⟩ gg wr ⟨hK, hi, hm1, he⟩
      dsimp only at hi hm1 he ⊢
      (first | refine Then.go hmix ?_ | refine Sat.go hmix ?_ | refine ResK.go ?_ | skip); conv => whnf
      by_cases hlt : i < l.length
      · obtain ⟨gb, o, rfl, hgb, hat⟩ := hr (by omega)
        have hdr := List.drop_eq_getElem_cons hlt
        have hci := List.getElem_mem hlt
        obtain ⟨hdc, hdc8⟩ := dep_up hR (.inr ⟨l[i], hci, rfl⟩)
        refine KGO ?_
        generalize l[i] = c at *
        refine Store.fresh (vs := [.int .i64 c.id, .int .i64 c.up, .string (str c.name), .string (str c.role)]) (by rfl) rfl (flat_of (by rfl)) ?_
        have a_b5 := at_fresh wr 74 ([.int .i64 c.id, .int .i64 c.up, .string (str c.name), .string (str c.role)])
        have k_w5 : Keeps wr (wr.alloc (.cells (List.toArray ([.int .i64 c.id, .int .i64 c.up, .string (str c.name), .string (str c.role)])) 74)) none_ := (Keeps.refl _ _).alloc _
        have z_w5 : (wr.alloc (.cells (List.toArray ([.int .i64 c.id, .int .i64 c.up, .string (str c.name), .string (str c.role)])) 74)).heap.size = wr.heap.size + 1 := by simp
        generalize wr.alloc (.cells (List.toArray ([.int .i64 c.id, .int .i64 c.up, .string (str c.name), .string (str c.role)])) 74) = w5 at *
        generalize hs_b5 : wr.heap.size = b5 at *
        have K5 := hK.trans0 k_w5
        refine KGO ?_
        refine CallS.of (Tryz.call144 _ _) (bx_within (w := w5) l c.id b.id (hv0.keep K5) hR hdc) ?_
        rintro e w6 ⟨rfl, k6⟩
        have K6 := K5.trans0 k6
        have a6 := at_mono a_b5 k6
        refine ⟨_, rfl, ?_⟩; (first | refine Then.go hmix ?_ | refine Sat.go hmix ?_ | refine ResK.go ?_ | skip); conv => whnf
        rw [hdr] at he
        by_cases h5 : within l c.id b.id = true
        rotate_left
        · rw [show within l c.id b.id = false by simpa using h5]
          refine KGO ?_
          exact ⟨(i + 1, m), ⟨rfl, rfl, rfl, rfl, rfl, rfl, rfl, v_int (by simp), trivial⟩, ⟨K6, by dsimp only; omega, hm1, by dsimp only; rw [he, belowF, belowF, List.foldl_cons, if_neg h5]⟩, by dsimp only; omega⟩
        · rw [h5]
          refine KGO ?_
          refine CallS.of (Tryz.call67 _ _) (bx_depth (w := w6) l c.id (hv0.keep K6) hR hdc) ?_
          rintro e w7 ⟨rfl, k7⟩
          have K7 := K6.trans0 k7
          refine ⟨_, rfl, ?_⟩; (first | refine Then.go hmix ?_ | refine Sat.go hmix ?_ | refine ResK.go ?_ | skip); conv => whnf
          refine KGO ?_
          refine CallS.of (Tryz.call67 _ _) (bx_depth (w := w7) l b.id (hv0.keep K7) hR hdi) ?_
          rintro e w8 ⟨rfl, k8⟩
          have K8 := K7.trans0 k8
          refine ⟨_, rfl, ?_⟩; (first | refine Then.go hmix ?_ | refine Sat.go hmix ?_ | refine ResK.go ?_ | skip); conv => whnf
          obtain ⟨e2, he1, he2⟩ := ((within_of hR hid0 hdc).1 h5).dep (by rw [boxOf_up, zero_no hR]; rfl) hdc
          have hle : dpt l b.id ≤ dpt l c.id := by rw [dpt_of he2]; exact he1
          refine KGO ?_
          rw [maxI m _ _ hle]
          exact ⟨(i + 1, max m (dpt l c.id - dpt l b.id + 1)), ⟨rfl, rfl, rfl, rfl, rfl, rfl, rfl, v_int (by simp), trivial⟩, ⟨K8, by dsimp only; omega, by dsimp only; omega, by dsimp only; rw [he, belowF, belowF, List.foldl_cons, if_pos h5]⟩, by dsimp only; omega⟩
      · rw [List.drop_eq_nil_of_le (by omega)] at he
        have he : belowL l b.id = m := he
        subst he
        refine KGO ?_
        refine CallS.of (Tryz.call67 _ _) (bx_depth (w := wr) l up (hv0.keep hK) hR hd) ?_
        rintro e w7 ⟨rfl, k7⟩
        have K7 := hK.trans0 k7
        refine ⟨_, rfl, ?_⟩; (first | refine Then.go hmix ?_ | refine Sat.go hmix ?_ | refine ResK.go ?_ | skip); conv => whnf
        by_cases h6 : 8 < dpt l up + belowL l b.id
        · refine KGO ?_
          exact ⟨fin_err (R := moveL l b.id up) 10 (by unfold moveL; rw [if_neg g1, hb]; dsimp only; rw [if_neg gm2, if_neg gm3, if_pos h6]) K7⟩
        obtain ⟨gb, o, rfl, hgb, hat⟩ := hr (by omega)
        refine KGO ?_
        rw [hk2]
        refine CallS.of (Tryz.call68 _ _) (bx_taken (w := w7) l up b.name b.id (hv0.keep K7) (by omega) (hE.F.keep K7) (hs b hm).1 (fun b hb => (hs b hb).1)) ?_
        rintro e w8 ⟨rfl, k8⟩
        have K8 := K7.trans0 k8
        refine ⟨_, rfl, ?_⟩; (first | refine Then.go hmix ?_ | refine Sat.go hmix ?_ | refine ResK.go ?_ | skip); conv => whnf
        by_cases h7 : takenL l up b.name b.id = true
        · rw [h7]
          refine KGO ?_
          exact ⟨fin_err (R := moveL l b.id up) 4 (by unfold moveL; rw [if_neg g1, hb]; dsimp only; rw [if_neg gm2, if_neg gm3, if_neg h6, if_pos h7]) K8⟩
        rw [show takenL l up b.name b.id = false by simpa using h7]
        have hres : moveL l b.id up = (setUp l b.id up, 0) := by unfold moveL; rw [if_neg g1, hb]; dsimp only; rw [if_neg gm2, if_neg gm3, if_neg h6, if_neg h7]
        refine KGO ?_
        refine CallS.of (Tryz.call70 _ _) (cl_Box (w := w8) l (hv0.keep K8) (by omega)) ?_
        rintro e w9 ⟨v1, rfl, o1, k9⟩
        have K9 := K8.trans0 k9
        rcases own_blockK o1 with ⟨_, h0⟩ | ⟨g, cap2, cells, rfl, hBg, hvk, hnc, hcm, hcl, htk⟩
        · omega
        refine ⟨_, rfl, ?_⟩; (first | refine Then.go hmix ?_ | refine Sat.go hmix ?_ | refine ResK.go ?_ | skip); conv => whnf
        refine KGO ?_
        refine Store.atK hvk (by rw [hcl]; omega) (by rfl) ⟨rfl, by simp, by simp⟩ fun w10 v10 k10 => ?_
        refine KGO ?_
        have K10 : Keeps w w10 none_ := K9.trans k10 fun q hq e => by
          have e : q = g := e
          have := K8.size
          omega
        rw [Nat.zero_add] at v10
        have o6 := own_setK (w := w9) boxLen (l := l) (k := k) (j := 1) (x := { b with up := up }) hk1 (by omega) (by rw [hk2]; rfl) hBg hnc hcm hcl htk v10
        rw [set_eq hR.asc hm (fun c => { c with up := up }) hk1 hk2] at o6
        have hsl : (setUp l b.id up).length = l.length := by unfold setUp; rw [List.length_map]
        have o7 : OwnB w10 w8.heap.size (.slice (some ⟨g, 0, none⟩) l.length cap2) (setUp l b.id up) := by
          rw [OwnB, hsl]; exact o6
        exact ⟨fin_ok (R := moveL l b.id up) hres (own_base o7 K8.size) K10⟩
    · refine KGO ?_
      refine CallS.of (Tryz.call144 _ _) (bx_within (w := w3) l up b.id (hv0.keep K3) hR hd) ?_
      rintro e w4 ⟨rfl, k4⟩
      have K4 := K3.trans0 k4
      refine ⟨_, rfl, ?_⟩; (first | refine Then.go hmix ?_ | refine Sat.go hmix ?_ | refine ResK.go ?_ | skip); conv => whnf
      by_cases h4 : within l up b.id = true
      · rw [h4]
        refine KGO ?_
        exact ⟨fin_err (R := moveL l b.id up) 11 (by unfold moveL; rw [if_neg g1, hb]; dsimp only; rw [if_neg gm2, if_pos ⟨h3, h4⟩]) K4⟩
      rw [show within l up b.id = false by simpa using h4]
      have gm3 : ¬ (up ≠ 0 ∧ within l up b.id = true) := fun h => h4 h.2
      refine KGO ?_
      refine Loop.intro (ι := Nat × Nat) (fun p => [(0, .slice a l.length cap), (1, .int .i64 b.id), (2, .int .i64 up), (8, .int .i64 (k : Nat)), (10, .int .i64 (p.2 : Nat)), (39, .slice a l.length cap), (40, .int .i64 (l.length : Nat)), (41, .int .i64 (p.1 : Nat))])
        (fun p wr => Keeps w wr none_ ∧ p.1 ≤ l.length ∧ p.2 ≤ 1001 ∧ belowL l b.id = belowF l b.id p.2 (l.drop p.1)) (fun p => l.length - p.1) (0, 0) ⟨rfl, rfl, rfl, rfl, rfl, rfl, rfl, rfl, trivial⟩ ⟨K4, Nat.zero_le _, by decide, rfl⟩ ?_
      rintro ⟨i, m⟩ gg wr ⟨hK, hi, hm1, he⟩
      dsimp only at hi hm1 he ⊢
      (first | refine Then.go hmix ?_ | refine Sat.go hmix ?_ | refine ResK.go ?_ | skip); conv => whnf
      by_cases hlt : i < l.length
      · obtain ⟨gb, o, rfl, hgb, hat⟩ := hr (by omega)
        have hdr := List.drop_eq_getElem_cons hlt
        have hci := List.getElem_mem hlt
        obtain ⟨hdc, hdc8⟩ := dep_up hR (.inr ⟨l[i], hci, rfl⟩)
        refine KGO ?_
        generalize l[i] = c at *
        refine Store.fresh (vs := [.int .i64 c.id, .int .i64 c.up, .string (str c.name), .string (str c.role)]) (by rfl) rfl (flat_of (by rfl)) ?_
        have a_b5 := at_fresh wr 74 ([.int .i64 c.id, .int .i64 c.up, .string (str c.name), .string (str c.role)])
        have k_w5 : Keeps wr (wr.alloc (.cells (List.toArray ([.int .i64 c.id, .int .i64 c.up, .string (str c.name), .string (str c.role)])) 74)) none_ := (Keeps.refl _ _).alloc _
        have z_w5 : (wr.alloc (.cells (List.toArray ([.int .i64 c.id, .int .i64 c.up, .string (str c.name), .string (str c.role)])) 74)).heap.size = wr.heap.size + 1 := by simp
        generalize wr.alloc (.cells (List.toArray ([.int .i64 c.id, .int .i64 c.up, .string (str c.name), .string (str c.role)])) 74) = w5 at *
        generalize hs_b5 : wr.heap.size = b5 at *
        have K5 := hK.trans0 k_w5
        refine KGO ?_
        refine CallS.of (Tryz.call144 _ _) (bx_within (w := w5) l c.id b.id (hv0.keep K5) hR hdc) ?_
        rintro e w6 ⟨rfl, k6⟩
        have K6 := K5.trans0 k6
        have a6 := at_mono a_b5 k6
        refine ⟨_, rfl, ?_⟩; (first | refine Then.go hmix ?_ | refine Sat.go hmix ?_ | refine ResK.go ?_ | skip); conv => whnf
        rw [hdr] at he
        by_cases h5 : within l c.id b.id = true
        rotate_left
        · rw [show within l c.id b.id = false by simpa using h5]
          refine KGO ?_
          exact ⟨(i + 1, m), ⟨rfl, rfl, rfl, rfl, rfl, rfl, rfl, v_int (by simp), trivial⟩, ⟨K6, by dsimp only; omega, hm1, by dsimp only; rw [he, belowF, belowF, List.foldl_cons, if_neg h5]⟩, by dsimp only; omega⟩
        · rw [h5]
          refine KGO ?_
          refine CallS.of (Tryz.call67 _ _) (bx_depth (w := w6) l c.id (hv0.keep K6) hR hdc) ?_
          rintro e w7 ⟨rfl, k7⟩
          have K7 := K6.trans0 k7
          refine ⟨_, rfl, ?_⟩; (first | refine Then.go hmix ?_ | refine Sat.go hmix ?_ | refine ResK.go ?_ | skip); conv => whnf
          refine KGO ?_
          refine CallS.of (Tryz.call67 _ _) (bx_depth (w := w7) l b.id (hv0.keep K7) hR hdi) ?_
          rintro e w8 ⟨rfl, k8⟩
          have K8 := K7.trans0 k8
          refine ⟨_, rfl, ?_⟩; (first | refine Then.go hmix ?_ | refine Sat.go hmix ?_ | refine ResK.go ?_ | skip); conv => whnf
          obtain ⟨e2, he1, he2⟩ := ((within_of hR hid0 hdc).1 h5).dep (by rw [boxOf_up, zero_no hR]; rfl) hdc
          have hle : dpt l b.id ≤ dpt l c.id := by rw [dpt_of he2]; exact he1
          refine KGO ?_
          rw [maxI m _ _ hle]
          exact ⟨(i + 1, max m (dpt l c.id - dpt l b.id + 1)), ⟨rfl, rfl, rfl, rfl, rfl, rfl, rfl, v_int (by simp), trivial⟩, ⟨K8, by dsimp only; omega, by dsimp only; omega, by dsimp only; rw [he, belowF, belowF, List.foldl_cons, if_pos h5]⟩, by dsimp only; omega⟩
      · rw [List.drop_eq_nil_of_le (by omega)] at he
        have he : belowL l b.id = m := he
        subst he
        refine KGO ?_
        refine CallS.of (Tryz.call67 _ _) (bx_depth (w := wr) l up (hv0.keep hK) hR hd) ?_
        rintro e w7 ⟨rfl, k7⟩
        have K7 := hK.trans0 k7
        refine ⟨_, rfl, ?_⟩; (first | refine Then.go hmix ?_ | refine Sat.go hmix ?_ | refine ResK.go ?_ | skip); conv => whnf
        by_cases h6 : 8 < dpt l up + belowL l b.id
        · refine KGO ?_
          exact ⟨fin_err (R := moveL l b.id up) 10 (by unfold moveL; rw [if_neg g1, hb]; dsimp only; rw [if_neg gm2, if_neg gm3, if_pos h6]) K7⟩
        obtain ⟨gb, o, rfl, hgb, hat⟩ := hr (by omega)
        refine KGO ?_
        rw [hk2]
        refine CallS.of (Tryz.call68 _ _) (bx_taken (w := w7) l up b.name b.id (hv0.keep K7) (by omega) (hE.F.keep K7) (hs b hm).1 (fun b hb => (hs b hb).1)) ?_
        rintro e w8 ⟨rfl, k8⟩
        have K8 := K7.trans0 k8
        refine ⟨_, rfl, ?_⟩; (first | refine Then.go hmix ?_ | refine Sat.go hmix ?_ | refine ResK.go ?_ | skip); conv => whnf
        by_cases h7 : takenL l up b.name b.id = true
        · rw [h7]
          refine KGO ?_
          exact ⟨fin_err (R := moveL l b.id up) 4 (by unfold moveL; rw [if_neg g1, hb]; dsimp only; rw [if_neg gm2, if_neg gm3, if_neg h6, if_pos h7]) K8⟩
        rw [show takenL l up b.name b.id = false by simpa using h7]
        have hres : moveL l b.id up = (setUp l b.id up, 0) := by unfold moveL; rw [if_neg g1, hb]; dsimp only; rw [if_neg gm2, if_neg gm3, if_neg h6, if_neg h7]
        refine KGO ?_
        refine CallS.of (Tryz.call70 _ _) (cl_Box (w := w8) l (hv0.keep K8) (by omega)) ?_
        rintro e w9 ⟨v1, rfl, o1, k9⟩
        have K9 := K8.trans0 k9
        rcases own_blockK o1 with ⟨_, h0⟩ | ⟨g, cap2, cells, rfl, hBg, hvk, hnc, hcm, hcl, htk⟩
        · omega
        refine ⟨_, rfl, ?_⟩; (first | refine Then.go hmix ?_ | refine Sat.go hmix ?_ | refine ResK.go ?_ | skip); conv => whnf
        refine KGO ?_
        refine Store.atK hvk (by rw [hcl]; omega) (by rfl) ⟨rfl, by simp, by simp⟩ fun w10 v10 k10 => ?_
        refine KGO ?_
        have K10 : Keeps w w10 none_ := K9.trans k10 fun q hq e => by
          have e : q = g := e
          have := K8.size
          omega
        rw [Nat.zero_add] at v10
        have o6 := own_setK (w := w9) boxLen (l := l) (k := k) (j := 1) (x := { b with up := up }) hk1 (by omega) (by rw [hk2]; rfl) hBg hnc hcm hcl htk v10
        rw [set_eq hR.asc hm (fun c => { c with up := up }) hk1 hk2] at o6
        have hsl : (setUp l b.id up).length = l.length := by unfold setUp; rw [List.length_map]
        have o7 : OwnB w10 w8.heap.size (.slice (some ⟨g, 0, none⟩) l.length cap2) (setUp l b.id up) := by
          rw [OwnB, hsl]; exact o6
        exact ⟨fin_ok (R := moveL l b.id up) hres (own_base o7 K8.size) K10⟩
end
end Go.Proofs.YtohhkegmbgancaaGreatDoor

-- alias Tryz
namespace Go.Proofs.YtohhkegmbgancaaGreatDoor
open Go.Shelf Go.RowKit Go.Pw Go.Vc Go.Cs Go.Lib Go.Sort
set_option linter.unusedVariables false
set_option maxRecDepth 100000
section
variable {w : World}
theorem own_le {w w' : World} {B s n : Nat} {e : TypeId} {v : Value} {xs : List Value} (h : w.ownsRow B e s v n xs) (k : Keeps w w' (own_ v)) (a : World) (ha : Keeps a w none_) (hB : a.heap.size ≤ B) : Keeps a w' none_ :=
  ha.trans k fun q hq e => by have := (h.lt q e).1; omega
theorem ac_risingI {v : Value} (l : List Int) (hv : RowI w v l) (hl : l.length ≤ 17592186044416) : Calls Tryz.prog 71 #[v] w fun e w' => ∃ v', e = .returned v' ∧ OwnI w' w.heap.size v' (sortI l) ∧ Keeps w w' none_ := by
  have hv0 := hv
  obtain ⟨a, cap, rfl, hr⟩ := hv
  refine calls_of_vc (args := [.slice a l.length cap]) Tryz.func71 rfl (Nat.le_of_ble_eq_true rfl) ?_; refine Sat.go hmix ?_; conv => whnf
  refine CallS.of (Tryz.call96 _ _) (cl_I (w := w) l hv0 hl) ?_
  rintro e w1 ⟨v1, rfl, o1, k1⟩
  obtain ⟨a1, c1, rfl⟩ := own_shape o1
  refine ⟨_, rfl, ?_⟩; (first | refine Then.go hmix ?_ | refine Sat.go hmix ?_ | refine ResK.go ?_ | skip); conv => whnf
  refine CallS.of (Tryz.call132 _ _) (srt_I (w := w1) l o1 hl) ?_
  rintro e w2 ⟨rfl, o2, k2⟩
  refine ⟨_, rfl, ?_⟩; (first | refine Then.go hmix ?_ | refine Sat.go hmix ?_ | refine ResK.go ?_ | skip); conv => whnf
  rw [show l.length = (l.mergeSort fun x y => decide (x ≤ y)).length from (List.length_mergeSort _).symm] at *
  refine CallS.of (Tryz.call133 _ _) (cmp_I (w := w2) _ o2 hl) ?_
  rintro e w3 ⟨v3, rfl, o3, k3, hb⟩
  rw [compact_int] at o3
  obtain ⟨a3, c3, rfl⟩ := own_shape o3
  refine ⟨_, rfl, ?_⟩; (first | refine Then.go hmix ?_ | refine Sat.go hmix ?_ | refine ResK.go ?_ | skip); conv => whnf
  exact ⟨_, rfl, o3, own_le o2 k3 w (own_le o1 k2 w k1 (Nat.le_refl _)) (Nat.le_refl _)⟩
theorem ac_risingT {v : Value} (l : List (List UInt8)) (hv : RowT w v l) (hl : l.length ≤ 8796093022208) : Calls Tryz.prog 72 #[v] w fun e w' => ∃ v', e = .returned v' ∧ OwnT w' w.heap.size v' (sortT l) ∧ Keeps w w' none_ := by
  have hv0 := hv
  obtain ⟨a, cap, rfl, hr⟩ := hv
  refine calls_of_vc (args := [.slice a l.length cap]) Tryz.func72 rfl (Nat.le_of_ble_eq_true rfl) ?_; refine Sat.go hmix ?_; conv => whnf
  refine CallS.of (Tryz.call97 _ _) (cl_T (w := w) l hv0 hl) ?_
  rintro e w1 ⟨v1, rfl, o1, k1⟩
  obtain ⟨a1, c1, rfl⟩ := own_shape o1
  refine ⟨_, rfl, ?_⟩; (first | refine Then.go hmix ?_ | refine Sat.go hmix ?_ | refine ResK.go ?_ | skip); conv => whnf
  refine CallS.of (Tryz.call134 _ _) (srt_T (w := w1) l o1 hl) ?_
  rintro e w2 ⟨rfl, o2, k2⟩
  refine ⟨_, rfl, ?_⟩; (first | refine Then.go hmix ?_ | refine Sat.go hmix ?_ | refine ResK.go ?_ | skip); conv => whnf
  rw [show l.length = (l.mergeSort fun x y => decide (x ≤ y)).length from (List.length_mergeSort _).symm] at *
  refine CallS.of (Tryz.call135 _ _) (cmp_T (w := w2) _ o2 hl) ?_
  rintro e w3 ⟨v3, rfl, o3, k3, hb⟩
  rw [compact_text] at o3
  obtain ⟨a3, c3, rfl⟩ := own_shape o3
  refine ⟨_, rfl, ?_⟩; (first | refine Then.go hmix ?_ | refine Sat.go hmix ?_ | refine ResK.go ?_ | skip); conv => whnf
  exact ⟨_, rfl, o3, own_le o2 k3 w (own_le o1 k2 w k1 (Nat.le_refl _)) (Nat.le_refl _)⟩
theorem ac_within (n lo hi : Int) : Calls Tryz.prog 38 #[.int .i64 n, .int .i64 lo, .int .i64 hi] w fun e w' => e = .returned (.bool (decide (lo ≤ n ∧ n ≤ hi))) ∧ w = w' := by
  refine calls_of_vc (args := [.int .i64 n, .int .i64 lo, .int .i64 hi]) Tryz.func38 rfl (Nat.le_of_ble_eq_true rfl) ?_; refine Sat.go hmix ?_; conv => whnf
  by_cases h1 : lo ≤ n
  · refine KGO ?_
    exact ⟨ret_bool (by simp [h1]), rfl⟩
  · refine KGO ?_
    exact ⟨ret_bool (by simp [h1]), rfl⟩
end
end Go.Proofs.YtohhkegmbgancaaGreatDoor

-- alias Tryz
namespace Go.Proofs.YtohhkegmbgancaaGreatDoor
open Go.Shelf Go.RowKit Go.Pw Go.Vc Go.Cs Go.Lib
set_option linter.unusedVariables false
set_option maxRecDepth 100000
section
variable {w : World}
theorem flagCh_iff (c : UInt8) : flagCh c = true ↔ (97 ≤ c.toNat ∧ c.toNat ≤ 122) ∨ (48 ≤ c.toNat ∧ c.toNat ≤ 57) ∨ c ∈ ([36, 92, 45, 95, 46] : List UInt8) := by
  unfold flagCh
  simp [or_assoc]
theorem idx_in (c : UInt8) : 0 ≤ indexByte [36, 92, 45, 95, 46] c ↔ c ∈ ([36, 92, 45, 95, 46] : List UInt8) := by
  have := contains_iff_indexByte [36, 92, 45, 95, 46] c
  rw [← decide_eq_true_iff (p := 0 ≤ _), ← this]
  simp
theorem byte_at {s : List UInt8} {i : Nat} (h : i < s.length) : byteAt (str s) i = s[i] := by
  show s.getD i 0 = _
  rw [List.getD, List.getElem?_eq_getElem h]; rfl
theorem all_take {s : List UInt8} {p : UInt8 → Bool} {i : Nat} (h : i < s.length) (ha : (s.take i).all p = true) (hp : p s[i] = true) : (s.take (i + 1)).all p = true := by
  rw [List.take_succ_eq_append_getElem h, List.all_append, ha]; simp [hp]
theorem all_no {s : List UInt8} {p : UInt8 → Bool} {i : Nat} (h : i < s.length) (hp : ¬ p s[i] = true) : s.all p = false := by
  rw [List.all_eq_false]
  exact ⟨_, List.getElem_mem h, hp⟩
set_option maxHeartbeats 2000000 in
theorem ac_Flag (s : List UInt8) (hs : s.length ≤ 140737488355328) : Calls Tryz.prog 138 #[.string (str s)] w fun e w' => e = .returned (.bool (flagB s)) ∧ w = w' := by
  have hz : (str s).size = s.length := str_size s
  refine calls_of_vc (args := [.string (str s)]) Tryz.func138 rfl (Nat.le_of_ble_eq_true rfl) ?_; refine Sat.go hmix ?_; conv => whnf
  rw [hz]
  refine Loop.intro (ι := Nat) (fun i => [(0, .string (str s)), (6, .int .i64 (s.length : Nat)), (7, .int .i64 (i : Nat))])
    (fun i wr => w = wr ∧ i ≤ s.length ∧ (s.take i).all flagCh = true) (fun i => s.length - i) 0 ⟨rfl, rfl, rfl, trivial⟩ ⟨rfl, Nat.zero_le _, rfl⟩ ?_
  rintro i gg wr ⟨rfl, hi, he⟩
  (first | refine Then.go hmix ?_ | refine Sat.go hmix ?_ | refine ResK.go ?_ | skip); conv => whnf
  by_cases hlt : i < s.length
  · have hb := byte_at hlt
    have hst := all_take hlt he
    have hno : ¬ flagCh s[i] = true → flagB s = false := fun h => by unfold flagB; rw [all_no hlt h]; rfl
    rw [← hb] at hst hno
    have hf := flagCh_iff (byteAt (str s) i)
    have hx := idx_in (byteAt (str s) i)
    have hcl := UInt8.toNat_lt (byteAt (str s) i)
    have goOn : flagCh (byteAt (str s) i) = true → (w = w ∧ i + 1 ≤ s.length ∧ (s.take (i + 1)).all flagCh = true) := fun h => ⟨rfl, by omega, hst h⟩
    have hneg : ¬ (97 ≤ (byteAt (str s) i).toNat ∧ (byteAt (str s) i).toNat ≤ 122) → ¬ (48 ≤ (byteAt (str s) i).toNat ∧ (byteAt (str s) i).toNat ≤ 57) → indexByte [36, 92, 45, 95, 46] (byteAt (str s) i) < 0 → flagB s = false := fun a b c => hno fun h => by
      rcases hf.1 h with h | h | h
      · exact a h
      · exact b h
      · have := hx.2 h; omega
    by_cases h1 : 97 ≤ (byteAt (str s) i).toNat
    · by_cases h2 : (byteAt (str s) i).toNat ≤ 122
      · refine KGO ?_
        exact ⟨i + 1, ⟨rfl, rfl, v_int (by simp), trivial⟩, goOn (hf.2 (.inl ⟨h1, h2⟩)), by dsimp only; omega⟩
      · refine KGO ?_
        refine CallS.of (Tryz.call178 _ _) (s_indexByte ⟨#[36, 92, 45, 95, 46]⟩ (byteAt (str s) i) w) ?_
        rintro e w1 ⟨rfl, rfl⟩
        rw [show L ⟨#[36, 92, 45, 95, 46]⟩ = [36, 92, 45, 95, 46] from rfl]
        refine ⟨_, rfl, ?_⟩; (first | refine Then.go hmix ?_ | refine Sat.go hmix ?_ | refine ResK.go ?_ | skip); conv => whnf
        by_cases h5 : indexByte [36, 92, 45, 95, 46] (byteAt (str s) i) < 0
        · refine KGO ?_
          exact ⟨ret_bool (hneg (by omega) (by omega) h5).symm, rfl⟩
        · refine KGO ?_
          exact ⟨i + 1, ⟨rfl, rfl, v_int (by simp), trivial⟩, goOn (hf.2 (.inr (.inr (hx.1 (by omega))))), by dsimp only; omega⟩
    · by_cases h3 : 48 ≤ (byteAt (str s) i).toNat
      · by_cases h4 : (byteAt (str s) i).toNat ≤ 57
        · refine KGO ?_
          exact ⟨i + 1, ⟨rfl, rfl, v_int (by simp), trivial⟩, goOn (hf.2 (.inr (.inl ⟨h3, h4⟩))), by dsimp only; omega⟩
        · refine KGO ?_
          refine CallS.of (Tryz.call178 _ _) (s_indexByte ⟨#[36, 92, 45, 95, 46]⟩ (byteAt (str s) i) w) ?_
          rintro e w1 ⟨rfl, rfl⟩
          rw [show L ⟨#[36, 92, 45, 95, 46]⟩ = [36, 92, 45, 95, 46] from rfl]
          refine ⟨_, rfl, ?_⟩; (first | refine Then.go hmix ?_ | refine Sat.go hmix ?_ | refine ResK.go ?_ | skip); conv => whnf
          by_cases h5 : indexByte [36, 92, 45, 95, 46] (byteAt (str s) i) < 0
          · refine KGO ?_
            exact ⟨ret_bool (hneg (by omega) (by omega) h5).symm, rfl⟩
          · refine KGO ?_
            exact ⟨i + 1, ⟨rfl, rfl, v_int (by simp), trivial⟩, goOn (hf.2 (.inr (.inr (hx.1 (by omega))))), by dsimp only; omega⟩
      · refine KGO ?_
        refine CallS.of (Tryz.call178 _ _) (s_indexByte ⟨#[36, 92, 45, 95, 46]⟩ (byteAt (str s) i) w) ?_
        rintro e w1 ⟨rfl, rfl⟩
        rw [show L ⟨#[36, 92, 45, 95, 46]⟩ = [36, 92, 45, 95, 46] from rfl]
        refine ⟨_, rfl, ?_⟩; (first | refine Then.go hmix ?_ | refine Sat.go hmix ?_ | refine ResK.go ?_ | skip); conv => whnf
        by_cases h5 : indexByte [36, 92, 45, 95, 46] (byteAt (str s) i) < 0
        · refine KGO ?_
          exact ⟨ret_bool (hneg (by omega) (by omega) h5).symm, rfl⟩
        · refine KGO ?_
          exact ⟨i + 1, ⟨rfl, rfl, v_int (by simp), trivial⟩, goOn (hf.2 (.inr (.inr (hx.1 (by omega))))), by dsimp only; omega⟩
  · rw [List.take_of_length_le (by omega)] at he
    refine KGO ?_
    rw [hz]
    refine CallS.of (Tryz.call38 _ _) (ac_within (s.length : Nat) 1 30) ?_
    rintro e w1 ⟨rfl, rfl⟩
    refine ⟨_, rfl, ?_⟩; (first | refine Then.go hmix ?_ | refine Sat.go hmix ?_ | refine ResK.go ?_ | skip); conv => whnf
    exact ⟨ret_bool (by unfold flagB; rw [he, Bool.true_and]; exact decide_eq_decide.2 (by omega)), rfl⟩
theorem scCh_iff (c : UInt8) : scCh c = true ↔ 32 ≤ c.toNat ∧ c.toNat ≠ 127 := by
  unfold scCh
  simp
set_option maxHeartbeats 2000000 in
theorem ac_named (s : List UInt8) (hs : s.length ≤ 140737488355328) : Calls Tryz.prog 61 #[.string (str s)] w fun e w' => e = .returned (.bool (scB s)) ∧ w = w' := by
  have hz : (str s).size = s.length := str_size s
  refine calls_of_vc (args := [.string (str s)]) Tryz.func61 rfl (Nat.le_of_ble_eq_true rfl) ?_; refine Sat.go hmix ?_; conv => whnf
  rw [hz]
  refine Loop.intro (ι := Nat) (fun i => [(0, .string (str s)), (5, .int .i64 (s.length : Nat)), (6, .int .i64 (i : Nat))])
    (fun i wr => w = wr ∧ i ≤ s.length ∧ (s.take i).all scCh = true) (fun i => s.length - i) 0 ⟨rfl, rfl, rfl, trivial⟩ ⟨rfl, Nat.zero_le _, rfl⟩ ?_
  rintro i gg wr ⟨rfl, hi, he⟩
  (first | refine Then.go hmix ?_ | refine Sat.go hmix ?_ | refine ResK.go ?_ | skip); conv => whnf
  by_cases hlt : i < s.length
  · have hb := byte_at hlt
    have hst := all_take hlt he
    have hno : ¬ scCh s[i] = true → scB s = false := fun h => by unfold scB; rw [all_no hlt h]; rfl
    rw [← hb] at hst hno
    have hf := scCh_iff (byteAt (str s) i)
    have hcl := UInt8.toNat_lt (byteAt (str s) i)
    by_cases h1 : (byteAt (str s) i).toNat < 32
    · refine KGO ?_
      exact ⟨ret_bool (hno fun h => by have := hf.1 h; omega).symm, rfl⟩
    · by_cases h2 : (byteAt (str s) i).toNat = 127
      · refine KGO ?_
        exact ⟨ret_bool (hno fun h => by have := hf.1 h; omega).symm, rfl⟩
      · refine KGO ?_
        exact ⟨i + 1, ⟨rfl, rfl, v_int (by simp), trivial⟩, ⟨rfl, by omega, hst (hf.2 ⟨by omega, h2⟩)⟩, by dsimp only; omega⟩
  · rw [List.take_of_length_le (by omega)] at he
    refine KGO ?_
    rw [hz]
    refine CallS.of (Tryz.call38 _ _) (ac_within (s.length : Nat) 1 100) ?_
    rintro e w1 ⟨rfl, rfl⟩
    refine ⟨_, rfl, ?_⟩; (first | refine Then.go hmix ?_ | refine Sat.go hmix ?_ | refine ResK.go ?_ | skip); conv => whnf
    exact ⟨ret_bool (by unfold scB; rw [he, Bool.true_and]; exact decide_eq_decide.2 (by omega)), rfl⟩
theorem ac_flags1 (s : List UInt8) (hs : s.length ≤ 140737488355328) : Calls Tryz.prog 137 #[.string (str s)] w fun e w' => e = .returned (.bool (!flagB s)) ∧ Keeps w w' none_ := by
  refine calls_of_vc (args := [.string (str s)]) Tryz.func137 rfl (Nat.le_of_ble_eq_true rfl) ?_; refine Sat.go hmix ?_; conv => whnf
  refine CallS.of (Tryz.call138 _ _) (ac_Flag s hs) ?_
  rintro e w1 ⟨rfl, rfl⟩
  refine ⟨_, rfl, ?_⟩; (first | refine Then.go hmix ?_ | refine Sat.go hmix ?_ | refine ResK.go ?_ | skip); conv => whnf
  exact ⟨rfl, Keeps.refl _ _⟩
theorem ac_flags {v : Value} (l : List (List UInt8)) (hv : RowT w v l) (hl : l.length ≤ 8796093022208) (hs : ∀ s ∈ l, s.length ≤ 140737488355328) : Calls Tryz.prog 73 #[v] w fun e w' => e = .returned (.bool (flagsB l)) ∧ Keeps w w' none_ := by
  have hv0 := hv
  obtain ⟨a, cap, rfl, hr⟩ := hv
  refine calls_of_vc (args := [.slice a l.length cap]) Tryz.func73 rfl (Nat.le_of_ble_eq_true rfl) ?_; refine Sat.go hmix ?_; conv => whnf
  refine CallS.of (Tryz.call136 _ _) (cnf_T0 l 137 (fun s => !flagB s) hv0 hl Tryz.call137 (fun s h w' k => ac_flags1 s (hs s h))) ?_
  rintro e w1 ⟨rfl, k1⟩
  refine ⟨_, rfl, ?_⟩; (first | refine Then.go hmix ?_ | refine Sat.go hmix ?_ | refine ResK.go ?_ | skip); conv => whnf
  refine ⟨ret_bool ?_, k1⟩
  unfold flagsB
  rw [Bool.eq_iff_iff, Bool.not_eq_true', List.any_eq_false, List.all_eq_true]
  simp
theorem ac_place1 (x : Mr) (id : Int) {bp : Nat} (hc : w.cell? ⟨bp, 0, none⟩ = some (.int .i64 id)) : Calls Tryz.prog 95 #[.agg (mrC x).toArray, .pointer (some ⟨bp, 0, none⟩)] w fun e w' => e = .returned (.bool (decide (x.m.id = id))) ∧ Keeps w w' none_ := by
  refine calls_of_vc (args := [.agg (mrC x).toArray, .pointer (some ⟨bp, 0, none⟩)]) Tryz.func95 rfl (Nat.le_of_ble_eq_true rfl) ?_; refine Sat.go hmix ?_; conv => whnf
  have a_b1 := at_fresh w 42 (mrC x)
  have v_b1 := VarK.new w 42 (mrC x)
  have k_w1 : Keeps w (w.alloc (.cells (List.toArray (mrC x)) 42)) none_ := (Keeps.refl _ _).alloc _
  have z_w1 : (w.alloc (.cells (List.toArray (mrC x)) 42)).heap.size = w.heap.size + 1 := by simp
  generalize w.alloc (.cells (List.toArray (mrC x)) 42) = w1 at *
  generalize hs_b1 : w.heap.size = b1 at *
  have r_w1 : Keeps w1 w1 none_ := Keeps.refl _ _
  refine KGO ?_
  exact ⟨ret_bool (eqB_dec _ _), k_w1⟩
theorem ac_there11 (b : Bx) (id : Int) {bp : Nat} (hc : w.cell? ⟨bp, 0, none⟩ = some (.int .i64 id)) : Calls Tryz.prog 141 #[.agg (boxCells b).toArray, .pointer (some ⟨bp, 0, none⟩)] w fun e w' => e = .returned (.bool (decide (b.id = id))) ∧ Keeps w w' none_ := by
  refine calls_of_vc (args := [.agg (boxCells b).toArray, .pointer (some ⟨bp, 0, none⟩)]) Tryz.func141 rfl (Nat.le_of_ble_eq_true rfl) ?_; refine Sat.go hmix ?_; conv => whnf
  have a_b1 := at_fresh w 74 (boxCells b)
  have v_b1 := VarK.new w 74 (boxCells b)
  have k_w1 : Keeps w (w.alloc (.cells (List.toArray (boxCells b)) 74)) none_ := (Keeps.refl _ _).alloc _
  have z_w1 : (w.alloc (.cells (List.toArray (boxCells b)) 74)).heap.size = w.heap.size + 1 := by simp
  generalize w.alloc (.cells (List.toArray (boxCells b)) 74) = w1 at *
  generalize hs_b1 : w.heap.size = b1 at *
  have r_w1 : Keeps w1 w1 none_ := Keeps.refl _ _
  refine KGO ?_
  exact ⟨ret_bool (eqB_dec _ _), k_w1⟩
end
end Go.Proofs.YtohhkegmbgancaaGreatDoor

-- alias Tryz
namespace Go.Proofs.YtohhkegmbgancaaGreatDoor
open Go.Shelf Go.RowKit Go.Pw Go.Vc Go.Cs Go.Lib
set_option linter.unusedVariables false
set_option maxRecDepth 100000
structure MailOk (w : World) (x : Mr) : Prop where
  b : RowI w x.b.v x.m.boxes
  f : RowT w x.f.v x.m.flags
theorem MailOk.keep {w w' : World} {x : Mr} (h : MailOk w x) (k : Keeps w w' none_) : MailOk w' x := ⟨h.b.keep k, h.f.keep k⟩
/-- The zero message's cells. -/
abbrev zMl : List Value := [.int .i64 0, .int .u8 0, .int .u8 0, .int .u8 0, .int .u8 0, .int .u8 0, .int .u8 0, .int .u8 0, .int .u8 0, .int .u8 0, .int .u8 0, .int .u8 0, .int .u8 0, .int .u8 0, .int .u8 0, .int .u8 0, .int .u8 0, .int .u8 0, .int .u8 0, .int .u8 0, .int .u8 0, .int .u8 0, .int .u8 0, .int .u8 0, .int .u8 0, .int .u8 0, .int .u8 0, .int .u8 0, .int .u8 0, .int .u8 0, .int .u8 0, .int .u8 0, .int .u8 0, .slice none 0 0, .slice none 0 0, .int .i64 0, .int .i64 0, .int .i64 0]
/-- Rows in different blocks. -/
def Apart (v u : Value) : Prop := ∀ k, v.ownBlock = some k → u.ownBlock ≠ some k
theorem own_keep1 {w w' : World} {B s n b : Nat} {e : TypeId} {v : Value} {xs : List Value} (h : w.ownsRow B e s v n xs) (k : Keeps w w' (one_ b)) (hb : b < B) : w'.ownsRow B e s v n xs :=
  own_keep h k fun g hg e => by have e : g = b := e; have := (h.lt g hg).1; omega
theorem keeps_new {a w w' : World} {b : Nat} (h : Keeps a w none_) (k : Keeps w w' (one_ b)) (hb : a.heap.size ≤ b) : Keeps a w' none_ := h.trans k fun q hq e => by have e : q = b := e; omega
theorem apart_of {w w' : World} {B B' s s' n n' : Nat} {e e' : TypeId} {v v' : Value} {xs xs' : List Value} (h : w.ownsRow B e s v n xs) (h' : w'.ownsRow B' e' s' v' n' xs') (hB : w.heap.size ≤ B') : Apart v v' := fun k hk hk' => by
  have := (h.lt k hk).2
  have := (h'.lt k hk').1
  omega
section
variable {w : World}
set_option maxHeartbeats 2000000 in
theorem ac_copied (x : Mr) (hx : MailOk w x) (hb : x.m.boxes.length ≤ 1000000) (hf : x.m.flags.length ≤ 1000000) :
    Calls Tryz.prog 41 #[.agg (mrC x).toArray] w fun e w' => ∃ y : Mr, e = .returned (.agg (mrC y).toArray) ∧ y.m = x.m ∧ OwnI w' w.heap.size y.b.v x.m.boxes ∧ OwnT w' w.heap.size y.f.v x.m.flags ∧ Apart y.b.v y.f.v ∧ Keeps w w' none_ := by
  refine calls_of_vc (args := [.agg (mrC x).toArray]) Tryz.func41 rfl (Nat.le_of_ble_eq_true rfl) ?_; refine Sat.go hmix ?_; conv => whnf
  have a_b1 := at_fresh w 42 (mrC x)
  have v_b1 := VarK.new w 42 (mrC x)
  have k_w1 : Keeps w (w.alloc (.cells (List.toArray (mrC x)) 42)) none_ := (Keeps.refl _ _).alloc _
  have z_w1 : (w.alloc (.cells (List.toArray (mrC x)) 42)).heap.size = w.heap.size + 1 := by simp
  generalize w.alloc (.cells (List.toArray (mrC x)) 42) = w1 at *
  generalize hs_b1 : w.heap.size = b1 at *
  have r_w1 : Keeps w1 w1 none_ := Keeps.refl _ _
  have a_b2 := at_fresh w1 42 (zMl)
  have v_b2 := VarK.new w1 42 (zMl)
  have k_w2 : Keeps w1 (w1.alloc (.cells (List.toArray (zMl)) 42)) none_ := (Keeps.refl _ _).alloc _
  have z_w2 : (w1.alloc (.cells (List.toArray (zMl)) 42)).heap.size = w1.heap.size + 1 := by simp
  generalize w1.alloc (.cells (List.toArray (zMl)) 42) = w2 at *
  generalize hs_b2 : w1.heap.size = b2 at *
  have r_w2 : Keeps w2 w2 none_ := Keeps.refl _ _
  have K2 : Keeps w w2 none_ := k_w1.trans0 k_w2
  refine Draw.heldTail 6 (fun u => Keeps w2 u none_) (fun _ => true) (by decide +kernel) (by decide +kernel) (Keeps.refl _ _).drew ?_
  (first | refine Then.go hmix ?_ | refine Sat.go hmix ?_ | refine ResK.go ?_ | skip); conv => whnf
  refine KGO ?_
  refine CallS.of (Tryz.call96 _ _) (cl_I (w := w2.drew) x.m.boxes (hx.b.keep K2.drew) (by omega)) ?_
  rintro e w3 ⟨v3, rfl, o3, k3⟩
  obtain ⟨a3, c3, rfl⟩ := own_shape o3
  have o3' := o3
  have K3 : Keeps w2 w3 none_ := (Keeps.refl w2 none_).drew.trans0 k3
  refine ⟨_, rfl, ?_⟩; (first | refine Then.go hmix ?_ | refine Sat.go hmix ?_ | refine ResK.go ?_ | skip); conv => whnf
  refine ⟨K3, ?_⟩
  refine KGO ?_
  refine CallS.of (Tryz.call97 _ _) (cl_T (w := w3) x.m.flags (hx.f.keep (K2.trans0 K3)) (by omega)) ?_
  rintro e w4 ⟨v4, rfl, o4, k4⟩
  obtain ⟨a4, c4, rfl⟩ := own_shape o4
  have K4 := K3.trans0 k4
  have vb := v_b1.keep0 (k_w2.trans0 K4)
  have vr := v_b2.keep0 K4
  refine ⟨_, rfl, ?_⟩; (first | refine Then.go hmix ?_ | refine Sat.go hmix ?_ | refine ResK.go ?_ | skip); conv => whnf
  refine ⟨K4, ?_⟩
  refine KGO ?_
  refine Store.cellK (i := 33) vb (Nat.le_of_ble_eq_true rfl) (by rfl) ⟨rfl, by simp, by simp⟩ fun w5 vb k5 => ?_
  refine KGO ?_
  refine Store.cellK (i := 34) vb (Nat.le_of_ble_eq_true rfl) (by rfl) ⟨rfl, by simp, by simp⟩ fun w6 vb k6 => ?_
  refine KGO ?_
  have hy : ((mrC x).set 33 (.slice a3 x.m.boxes.length c3)).set 34 (.slice a4 x.m.flags.length c4) = mrC ⟨x.m, ⟨a3, x.m.boxes.length, c3⟩, ⟨a4, x.m.flags.length, c4⟩⟩ := rfl
  rw [hy] at vb
  have hat := vb.at
  have ne : b2 ≠ b1 := by omega
  have vr := (vr.keep k5 ne).keep k6 ne
  refine KGO ?_
  refine Store.varK (mrC ⟨x.m, ⟨a3, x.m.boxes.length, c3⟩, ⟨a4, x.m.flags.length, c4⟩⟩) vr (by rfl) rfl (flat_of (by rfl)) fun w7 vr k7 => ?_
  have hat := vr.at
  refine KGO ?_
  (first | refine Then.go hmix ?_ | refine Sat.go hmix ?_ | refine ResK.go ?_ | skip); conv => whnf
  refine KGO ?_
  (first | refine Then.go hmix ?_ | refine Sat.go hmix ?_ | refine ResK.go ?_ | skip); conv => whnf
  have z2 : w2.drew.heap.size = w2.heap.size := rfl
  have z3 := K3.size
  have h1 : b1 < w2.drew.heap.size := by omega
  have h2 : b2 < w2.drew.heap.size := by omega
  have o3 := own_keep1 (own_keep1 (own_keep1 (own_keep0 o3 k4) k5 h1) k6 h1) k7 h2
  have ap := apart_of (w := w3) o3' o4 (Nat.le_refl _)
  have o4 := own_keep1 (own_keep1 (own_keep1 o4 k5 (by omega)) k6 (by omega)) k7 (by omega)
  exact ⟨⟨x.m, ⟨a3, x.m.boxes.length, c3⟩, ⟨a4, x.m.flags.length, c4⟩⟩, rfl, rfl, own_base o3 (by omega), own_base o4 (by omega), ap, keeps_new (keeps_new (keeps_new (K2.trans0 K4) k5 (by omega)) k6 (by omega)) k7 (by omega)⟩
end
end Go.Proofs.YtohhkegmbgancaaGreatDoor
