/- Helper text of this claim: Bq6: lemmas and contracts that the proved statement rests on; no conditions of its own. -/
import Derived.Test.YtdghfagipheabaaGreatDoorGBq2
-- alias Tryz
namespace Go.Proofs.YtdghfagipheabaaGreatDoor
open Go.RowKit Go.Pw Go.Vc Go.Cs Go.Lib
set_option linter.unusedVariables false
set_option maxRecDepth 100000
theorem box_none {l : List Bx} {id : Int} (h : boxOf l id = none) : hasId l id = false := by rw [has_box, h]; rfl
theorem box_has {l : List Bx} {id : Int} {b : Bx} (h : boxOf l id = some b) : hasId l id = true := by rw [has_box, h]; rfl
section
variable {w w' : World}
set_option maxHeartbeats 4000000 in
theorem rq_Name {v : Value} (l : List Bx) (id : Int) (nm : List UInt8) (hv : RowB w v l) (hl : l.length ≤ 1000) (hs : SmallB l) (hn : nm.length ≤ 1000000) :
    Calls Tryz.prog 19 #[v, .int .i64 id, .string (str nm)] w fun e w' => ∃ v', e = .returned (.tuple #[v', .int .i64 ((nameL l id nm).2 : Nat)]) ∧ OwnB w' w.heap.size v' (nameL l id nm).1 ∧ Keeps w w' none_ := by
  have hv0 := hv
  obtain ⟨a, cap, rfl, hr⟩ := hv
  refine calls_of_vc (args := [.slice a l.length cap, .int .i64 id, .string (str nm)]) Tryz.func19 rfl (Nat.le_of_ble_eq_true rfl) ?_; refine Sat.go hmix ?_; conv => whnf
  refine CallS.of (Tryz.call42 _ _) (rq_Right (w := w) l hv0 hl hs) ?_
  rintro e w1 ⟨rfl, k1⟩
  refine ⟨_, rfl, ?_⟩; (first | refine Then.go hmix ?_ | refine Sat.go hmix ?_ | refine ResK.go ?_ | skip); conv => whnf
  by_cases h1 : rightL l = true
  rotate_left
  · rw [show rightL l = false by simpa using h1]
    refine KGO ?_
    exact ⟨fin_err (R := nameL l id nm) 1 (by unfold nameL; rw [if_pos h1]) k1⟩
  rw [h1]
  have hR := (rightL_iff l).1 h1
  have g1 : ¬ ¬ rightL l = true := fun h => h h1
  refine KGO ?_
  refine CallS.of (Tryz.call44 _ _) (rq_find (w := w1) l id (hv0.keep k1) (by omega)) ?_
  rintro e w2 ⟨rfl, k2⟩
  have K2 := k1.trans0 k2
  refine ⟨_, rfl, ?_⟩; (first | refine Then.go hmix ?_ | refine Sat.go hmix ?_ | refine ResK.go ?_ | skip); conv => whnf
  refine KGO ?_
  refine CallS.of (Tryz.call40 _ _) (rq_Named (w := w2) (str nm) (by rw [str_size]; omega)) ?_
  rintro e w3 ⟨rfl, k3⟩
  rw [L_str]
  have K3 := K2.trans0 k3
  refine ⟨_, rfl, ?_⟩; (first | refine Then.go hmix ?_ | refine Sat.go hmix ?_ | refine ResK.go ?_ | skip); conv => whnf
  cases hb : boxOf l id with
  | none =>
    have hneg := find_neg.2 hb
    refine KGO ?_
    exact ⟨fin_err (R := nameL l id nm) 5 (by unfold nameL; rw [if_neg g1, hb]) K3⟩
  | some b =>
    obtain ⟨hm, rfl⟩ := boxOf_mem hb
    obtain ⟨hk1, hk2, hf⟩ := find_nat hb
    rw [hf]
    generalize findN l b.id = k at *
    by_cases h2 : namedB nm = true
    rotate_left
    · rw [show namedB nm = false by simpa using h2]
      refine KGO ?_
      exact ⟨fin_err (R := nameL l b.id nm) 1 (by unfold nameL; rw [if_neg g1, hb]; dsimp only; rw [if_pos h2]) K3⟩
    rw [h2]
    obtain ⟨gb, o, rfl, hgb, hat⟩ := hr (by omega)
    refine KGO ?_
    rw [hk2]
    have vk := VarK.new w3 39 (boxCells b)
    refine Store.fresh (vs := boxCells b) (by rfl) rfl (flat_of (by rfl)) ?_
    have a_b4 := at_fresh w3 39 (boxCells b)
    have k_w4 : Keeps w3 (w3.alloc (.cells (List.toArray (boxCells b)) 39)) none_ := (Keeps.refl _ _).alloc _
    have z_w4 : (w3.alloc (.cells (List.toArray (boxCells b)) 39)).heap.size = w3.heap.size + 1 := by simp
    generalize w3.alloc (.cells (List.toArray (boxCells b)) 39) = w4 at *
    generalize hs_b4 : w3.heap.size = b4 at *
    clear a_b4
    refine KGO ?_
    refine Store.cellK vk (i := 2) (by show 2 < 4; omega) (by rfl) ⟨rfl, by simp, by simp⟩ fun w5 vk5 k5 => ?_
    have vk5 : VarK w5 b4 39 (boxCells { b with name := nm }) := vk5
    have K5 : Keeps w w5 none_ := (K3.trans0 k_w4).trans k5 fun q hq e => by
      have e : q = b4 := e
      have := K3.size
      omega
    have a5 := vk5.at
    refine KGO ?_
    refine CallS.of (Tryz.call46 _ _) (rq_beside (w := w5) l b.up nm b.id (hv0.keep K5) (by omega) hn hs) ?_
    rintro e w6 ⟨rfl, k6⟩
    have K6 := K5.trans0 k6
    refine ⟨_, rfl, ?_⟩; (first | refine Then.go hmix ?_ | refine Sat.go hmix ?_ | refine ResK.go ?_ | skip); conv => whnf
    by_cases h3 : takenL l b.up nm b.id = true
    · rw [h3]
      refine KGO ?_
      exact ⟨fin_err (R := nameL l b.id nm) 4 (by unfold nameL; rw [if_neg g1, hb]; dsimp only; rw [if_neg (fun h => h h2), if_pos h3]) K6⟩
    rw [show takenL l b.up nm b.id = false by simpa using h3]
    have hres : nameL l b.id nm = (setName l b.id nm, 0) := by unfold nameL; rw [if_neg g1, hb]; dsimp only; rw [if_neg (fun h => h h2), if_neg h3]
    refine KGO ?_
    refine CallS.of (Tryz.call47 _ _) (rq_with (w := w6) l k { b with name := nm } (hv0.keep K6) hl hk1) ?_
    rintro e w7 ⟨v7, rfl, o7, k7⟩
    rw [set_eq hR.asc hm (fun c => { c with name := nm }) hk1 hk2] at o7
    have o7 : OwnB w7 w6.heap.size v7 (setName l b.id nm) := o7
    obtain ⟨a7, c7, rfl⟩ := own_shape o7
    refine ⟨_, rfl, ?_⟩; (first | refine Then.go hmix ?_ | refine Sat.go hmix ?_ | refine ResK.go ?_ | skip); conv => whnf
    refine KGO ?_
    exact ⟨fin_ok (R := nameL l b.id nm) hres (own_base o7 K6.size) (K6.trans0 k7)⟩
set_option maxHeartbeats 4000000 in
theorem rq_Move {v : Value} (l : List Bx) (id up : Int) (hv : RowB w v l) (hl : l.length ≤ 1000) (hs : SmallB l) :
    Calls Tryz.prog 20 #[v, .int .i64 id, .int .i64 up] w fun e w' => ∃ v', e = .returned (.tuple #[v', .int .i64 ((moveL l id up).2 : Nat)]) ∧ OwnB w' w.heap.size v' (moveL l id up).1 ∧ Keeps w w' none_ := by
  have hv0 := hv
  obtain ⟨a, cap, rfl, hr⟩ := hv
  refine calls_of_vc (args := [.slice a l.length cap, .int .i64 id, .int .i64 up]) Tryz.func20 rfl (Nat.le_of_ble_eq_true rfl) ?_; refine Sat.go hmix ?_; conv => whnf
  refine CallS.of (Tryz.call42 _ _) (rq_Right (w := w) l hv0 hl hs) ?_
  rintro e w1 ⟨rfl, k1⟩
  refine ⟨_, rfl, ?_⟩; (first | refine Then.go hmix ?_ | refine Sat.go hmix ?_ | refine ResK.go ?_ | skip); conv => whnf
  by_cases h1 : rightL l = true
  rotate_left
  · rw [show rightL l = false by simpa using h1]
    refine KGO ?_
    exact ⟨fin_err (R := moveL l id up) 1 (by unfold moveL; rw [if_pos h1]) k1⟩
  rw [h1]
  have hR := (rightL_iff l).1 h1
  have g1 : ¬ ¬ rightL l = true := fun h => h h1
  refine KGO ?_
  refine CallS.of (Tryz.call44 _ _) (rq_find (w := w1) l id (hv0.keep k1) (by omega)) ?_
  rintro e w2 ⟨rfl, k2⟩
  have K2 := k1.trans0 k2
  refine ⟨_, rfl, ?_⟩; (first | refine Then.go hmix ?_ | refine Sat.go hmix ?_ | refine ResK.go ?_ | skip); conv => whnf
  cases hb : boxOf l id with
  | none =>
    have hneg := find_neg.2 hb
    refine KGO ?_
    exact ⟨fin_err (R := moveL l id up) 5 (by unfold moveL; rw [if_neg g1, hb]) K2⟩
  | some b =>
    obtain ⟨hm, rfl⟩ := boxOf_mem hb
    obtain ⟨hk1, hk2, hf⟩ := find_nat hb
    rw [hf]
    generalize findN l b.id = k at *
    by_cases h0 : up = 0
    · have hup : up = 0 ∨ hasId l up = true := .inl h0
      refine KGO ?_
      have Ky := K2
      have g2 : ¬ ¬ (up = 0 ∨ hasId l up = true) := fun h => h hup
      have hb0 : b.id ≠ 0 := by have := (hR.pos b hm).1; omega
      have hup2 : up = 0 ∨ ∃ c ∈ l, c.id = up := hup.imp id fun h => (hasId_iff _ _).1 h
      obtain ⟨hd, _⟩ := dep_up hR hup2
      refine CallS.of (Tryz.call48 _ _) (rq_in (w := w2) l up b.id (hv0.keep Ky) hR hd hb0) ?_
      rintro e w4 ⟨rfl, k4⟩
      have K4 := Ky.trans0 k4
      refine ⟨_, rfl, ?_⟩; (first | refine Then.go hmix ?_ | refine Sat.go hmix ?_ | refine ResK.go ?_ | skip); conv => whnf
      have hwu := within_up hR hm hup2
      by_cases h4 : within l up b.id = true
      · have hru := (within_of hR hb0 hd).1 h4
        rw [h4]
        refine KGO ?_
        exact ⟨fin_err (R := moveL l b.id up) 11 (by unfold moveL; rw [if_neg g1, hb]; dsimp only; rw [if_neg g2, if_pos (hwu.2 hru)]) K4⟩
      have hru : ¬ Go.Cs.Reach l b.id up := fun h => h4 ((within_of hR hb0 hd).2 h)
      have g3 : ¬ (up ≠ 0 ∧ within l up b.id = true) := fun h => h4 h.2
      rw [show within l up b.id = false by simpa using h4]
      have hdm := deep_moved hR hm hup hru
      clear hwu hd hup2
      obtain ⟨gb, o, rfl, hgb, hat⟩ := hr (by omega)
      refine KGO ?_
      rw [hk2]
      have vk := VarK.new w4 39 (boxCells b)
      refine Store.fresh (vs := boxCells b) (by rfl) rfl (flat_of (by rfl)) ?_
      have a_b5 := at_fresh w4 39 (boxCells b)
      have k_w5 : Keeps w4 (w4.alloc (.cells (List.toArray (boxCells b)) 39)) none_ := (Keeps.refl _ _).alloc _
      have z_w5 : (w4.alloc (.cells (List.toArray (boxCells b)) 39)).heap.size = w4.heap.size + 1 := by simp
      generalize w4.alloc (.cells (List.toArray (boxCells b)) 39) = w5 at *
      generalize hs_b5 : w4.heap.size = b5 at *
      clear a_b5
      refine KGO ?_
      refine Store.cellK vk (i := 1) (by show 1 < 4; omega) (by rfl) ⟨rfl, by simp, by simp⟩ fun w6 vk6 k6 => ?_
      have vk6 : VarK w6 b5 39 (boxCells { b with up := up }) := vk6
      have K6 : Keeps w w6 none_ := (K4.trans0 k_w5).trans k6 fun q hq e => by
        have e : q = b5 := e
        have := K4.size
        omega
      have a6 := vk6.at
      refine KGO ?_
      refine CallS.of (Tryz.call47 _ _) (rq_with (w := w6) l k { b with up := up } (hv0.keep K6) hl hk1) ?_
      rintro e w7 ⟨v7, rfl, o7, k7⟩
      rw [set_eq hR.asc hm (fun c => { c with up := up }) hk1 hk2] at o7
      have o7 : OwnB w7 w6.heap.size v7 (setUp l b.id up) := o7
      have hml : (setUp l b.id up).length = l.length := by unfold setUp; rw [List.length_map]
      have r7 := own_rowO o7
      have K7 := K6.trans0 k7
      have a7 := at_mono a6 k7
      clear a6 vk vk6
      obtain ⟨a8, c8, rfl⟩ := own_shape o7
      refine ⟨_, rfl, ?_⟩; (first | refine Then.go hmix ?_ | refine Sat.go hmix ?_ | refine ResK.go ?_ | skip); conv => whnf
      refine KGO ?_
      generalize hme : setUp l b.id up = m at *
      obtain ⟨a9, c9, hre, hr9⟩ := r7
      injection hre with e1 e2 e3
      subst e1; subst e3
      refine Loop.intro (ι := Nat) (fun i => [(0, .slice (some ⟨gb, o, none⟩) l.length cap), (1, .int .i64 b.id), (2, .int .i64 up), (9, .pointer (some ⟨b5, 0, none⟩)), (10, .slice a8 m.length c8), (11, .int .i64 (i : Nat))])
        (fun i wr => Keeps w7 wr none_ ∧ i ≤ m.length ∧ ∀ c ∈ m.take i, ¬ 8 < deepR m c.id) (fun i => m.length - i) 0 ⟨rfl, rfl, rfl, rfl, rfl, rfl, trivial⟩ ⟨Keeps.refl _ _, Nat.zero_le _, by simp⟩ ?_
      rintro i gg wr ⟨hK, hi, hnd⟩
      (first | refine Then.go hmix ?_ | refine Sat.go hmix ?_ | refine ResK.go ?_ | skip); conv => whnf
      by_cases hlt : i < m.length
      · obtain ⟨g8, o8, rfl, hg8, hat8⟩ := hr9 (by omega)
        refine KGO ?_
        refine CallS.of (Tryz.call45 _ _) (rq_deep (w := wr) m m[i].id (RowO.keep ⟨_, _, rfl, fun _ => ⟨g8, o8, rfl, hg8, hat8⟩⟩ hK) (by omega)) ?_
        rintro e w9 ⟨rfl, k9⟩
        have K9 := hK.trans0 k9
        refine ⟨_, rfl, ?_⟩; (first | refine Then.go hmix ?_ | refine Sat.go hmix ?_ | refine ResK.go ?_ | skip); conv => whnf
        by_cases h8 : 8 < deepR m m[i].id
        · have g4 : 8 < dpt l up + belowL l b.id := hdm.2 ⟨m[i], List.getElem_mem hlt, h8⟩
          refine KGO ?_
          exact ⟨fin_err (R := moveL l b.id up) 10 (by unfold moveL; rw [if_neg g1, hb]; dsimp only; rw [if_neg g2, if_neg g3, if_pos g4]) (K7.trans0 K9)⟩
        · refine KGO ?_
          refine ⟨i + 1, ⟨rfl, rfl, rfl, rfl, rfl, v_int (by simp), trivial⟩, ⟨K9, by omega, ?_⟩, by dsimp only; omega⟩
          rw [List.take_succ_eq_append_getElem hlt]
          intro c hc
          rcases List.mem_append.1 hc with hc | hc
          · exact hnd c hc
          · rw [List.mem_singleton.1 hc]; exact h8
      · have g4 : ¬ 8 < dpt l up + belowL l b.id := fun h => by
          obtain ⟨c, hc, h8⟩ := hdm.1 h
          rw [List.take_of_length_le (by omega)] at hnd
          exact hnd c hc h8
        clear hdm hnd
        refine KGO ?_
        refine CallS.of (Tryz.call46 _ _) (rq_beside (w := wr) l up b.name b.id (hv0.keep (K7.trans0 hK)) (by omega) (hs b hm).1 hs) ?_
        rintro e w9 ⟨rfl, k9⟩
        have K9 := hK.trans0 k9
        refine ⟨_, rfl, ?_⟩; (first | refine Then.go hmix ?_ | refine Sat.go hmix ?_ | refine ResK.go ?_ | skip); conv => whnf
        by_cases h5 : takenL l up b.name b.id = true
        · rw [h5]
          refine KGO ?_
          exact ⟨fin_err (R := moveL l b.id up) 4 (by unfold moveL; rw [if_neg g1, hb]; dsimp only; rw [if_neg g2, if_neg g3, if_neg g4, if_pos h5]) (K7.trans0 K9)⟩
        rw [show takenL l up b.name b.id = false by simpa using h5]
        refine KGO ?_
        exact ⟨fin_ok (R := moveL l b.id up) (m := m) (by rw [← hme]; unfold moveL; rw [if_neg g1, hb]; dsimp only; rw [if_neg g2, if_neg g3, if_neg g4, if_neg h5]) (own_base (own_keep0 o7 K9) K6.size) (K7.trans0 K9)⟩
    · refine KGO ?_
      refine CallS.of (Tryz.call44 _ _) (rq_find (w := w2) l up (hv0.keep K2) (by omega)) ?_
      rintro e w3 ⟨rfl, k3⟩
      have K3 := K2.trans0 k3
      refine ⟨_, rfl, ?_⟩; (first | refine Then.go hmix ?_ | refine Sat.go hmix ?_ | refine ResK.go ?_ | skip); conv => whnf
      cases hbu : boxOf l up with
      | none =>
        have hneg := find_neg.2 hbu
        have hnu : ¬ (up = 0 ∨ hasId l up = true) := fun h => h.elim h0 fun h => by rw [box_none hbu] at h; cases h
        refine KGO ?_
        exact ⟨fin_err (R := moveL l b.id up) 5 (by unfold moveL; rw [if_neg g1, hb]; dsimp only; rw [if_pos hnu]) K3⟩
      | some c =>
        obtain ⟨_, _, hfu⟩ := find_nat hbu
        have hup : up = 0 ∨ hasId l up = true := .inr (box_has hbu)
        rw [hfu]
        clear hfu
        refine KGO ?_
        have Ky := K3
        have g2 : ¬ ¬ (up = 0 ∨ hasId l up = true) := fun h => h hup
        have hb0 : b.id ≠ 0 := by have := (hR.pos b hm).1; omega
        have hup2 : up = 0 ∨ ∃ c ∈ l, c.id = up := hup.imp id fun h => (hasId_iff _ _).1 h
        obtain ⟨hd, _⟩ := dep_up hR hup2
        refine CallS.of (Tryz.call48 _ _) (rq_in (w := w3) l up b.id (hv0.keep Ky) hR hd hb0) ?_
        rintro e w4 ⟨rfl, k4⟩
        have K4 := Ky.trans0 k4
        refine ⟨_, rfl, ?_⟩; (first | refine Then.go hmix ?_ | refine Sat.go hmix ?_ | refine ResK.go ?_ | skip); conv => whnf
        have hwu := within_up hR hm hup2
        by_cases h4 : within l up b.id = true
        · have hru := (within_of hR hb0 hd).1 h4
          rw [h4]
          refine KGO ?_
          exact ⟨fin_err (R := moveL l b.id up) 11 (by unfold moveL; rw [if_neg g1, hb]; dsimp only; rw [if_neg g2, if_pos (hwu.2 hru)]) K4⟩
        have hru : ¬ Go.Cs.Reach l b.id up := fun h => h4 ((within_of hR hb0 hd).2 h)
        have g3 : ¬ (up ≠ 0 ∧ within l up b.id = true) := fun h => h4 h.2
        rw [show within l up b.id = false by simpa using h4]
        have hdm := deep_moved hR hm hup hru
        clear hwu hd hup2
        obtain ⟨gb, o, rfl, hgb, hat⟩ := hr (by omega)
        refine KGO ?_
        rw [hk2]
        have vk := VarK.new w4 39 (boxCells b)
        refine Store.fresh (vs := boxCells b) (by rfl) rfl (flat_of (by rfl)) ?_
        have a_b5 := at_fresh w4 39 (boxCells b)
        have k_w5 : Keeps w4 (w4.alloc (.cells (List.toArray (boxCells b)) 39)) none_ := (Keeps.refl _ _).alloc _
        have z_w5 : (w4.alloc (.cells (List.toArray (boxCells b)) 39)).heap.size = w4.heap.size + 1 := by simp
        generalize w4.alloc (.cells (List.toArray (boxCells b)) 39) = w5 at *
        generalize hs_b5 : w4.heap.size = b5 at *
        clear a_b5
        refine KGO ?_
        refine Store.cellK vk (i := 1) (by show 1 < 4; omega) (by rfl) ⟨rfl, by simp, by simp⟩ fun w6 vk6 k6 => ?_
        have vk6 : VarK w6 b5 39 (boxCells { b with up := up }) := vk6
        have K6 : Keeps w w6 none_ := (K4.trans0 k_w5).trans k6 fun q hq e => by
          have e : q = b5 := e
          have := K4.size
          omega
        have a6 := vk6.at
        refine KGO ?_
        refine CallS.of (Tryz.call47 _ _) (rq_with (w := w6) l k { b with up := up } (hv0.keep K6) hl hk1) ?_
        rintro e w7 ⟨v7, rfl, o7, k7⟩
        rw [set_eq hR.asc hm (fun c => { c with up := up }) hk1 hk2] at o7
        have o7 : OwnB w7 w6.heap.size v7 (setUp l b.id up) := o7
        have hml : (setUp l b.id up).length = l.length := by unfold setUp; rw [List.length_map]
        have r7 := own_rowO o7
        have K7 := K6.trans0 k7
        have a7 := at_mono a6 k7
        clear a6 vk vk6
        obtain ⟨a8, c8, rfl⟩ := own_shape o7
        refine ⟨_, rfl, ?_⟩; (first | refine Then.go hmix ?_ | refine Sat.go hmix ?_ | refine ResK.go ?_ | skip); conv => whnf
        refine KGO ?_
        generalize hme : setUp l b.id up = m at *
        obtain ⟨a9, c9, hre, hr9⟩ := r7
        injection hre with e1 e2 e3
        subst e1; subst e3
        refine Loop.intro (ι := Nat) (fun i => [(0, .slice (some ⟨gb, o, none⟩) l.length cap), (1, .int .i64 b.id), (2, .int .i64 up), (9, .pointer (some ⟨b5, 0, none⟩)), (10, .slice a8 m.length c8), (11, .int .i64 (i : Nat))])
          (fun i wr => Keeps w7 wr none_ ∧ i ≤ m.length ∧ ∀ c ∈ m.take i, ¬ 8 < deepR m c.id) (fun i => m.length - i) 0 ⟨rfl, rfl, rfl, rfl, rfl, rfl, trivial⟩ ⟨Keeps.refl _ _, Nat.zero_le _, by simp⟩ ?_
        rintro i gg wr ⟨hK, hi, hnd⟩
        (first | refine Then.go hmix ?_ | refine Sat.go hmix ?_ | refine ResK.go ?_ | skip); conv => whnf
        by_cases hlt : i < m.length
        · obtain ⟨g8, o8, rfl, hg8, hat8⟩ := hr9 (by omega)
          refine KGO ?_
          refine CallS.of (Tryz.call45 _ _) (rq_deep (w := wr) m m[i].id (RowO.keep ⟨_, _, rfl, fun _ => ⟨g8, o8, rfl, hg8, hat8⟩⟩ hK) (by omega)) ?_
          rintro e w9 ⟨rfl, k9⟩
          have K9 := hK.trans0 k9
          refine ⟨_, rfl, ?_⟩; (first | refine Then.go hmix ?_ | refine Sat.go hmix ?_ | refine ResK.go ?_ | skip); conv => whnf
          by_cases h8 : 8 < deepR m m[i].id
          · have g4 : 8 < dpt l up + belowL l b.id := hdm.2 ⟨m[i], List.getElem_mem hlt, h8⟩
            refine KGO ?_
            exact ⟨fin_err (R := moveL l b.id up) 10 (by unfold moveL; rw [if_neg g1, hb]; dsimp only; rw [if_neg g2, if_neg g3, if_pos g4]) (K7.trans0 K9)⟩
          · refine KGO ?_
            refine ⟨i + 1, ⟨rfl, rfl, rfl, rfl, rfl, v_int (by simp), trivial⟩, ⟨K9, by omega, ?_⟩, by dsimp only; omega⟩
            rw [List.take_succ_eq_append_getElem hlt]
            intro c hc
            rcases List.mem_append.1 hc with hc | hc
            · exact hnd c hc
            · rw [List.mem_singleton.1 hc]; exact h8
        · have g4 : ¬ 8 < dpt l up + belowL l b.id := fun h => by
            obtain ⟨c, hc, h8⟩ := hdm.1 h
            rw [List.take_of_length_le (by omega)] at hnd
            exact hnd c hc h8
          clear hdm hnd
          refine KGO ?_
          refine CallS.of (Tryz.call46 _ _) (rq_beside (w := wr) l up b.name b.id (hv0.keep (K7.trans0 hK)) (by omega) (hs b hm).1 hs) ?_
          rintro e w9 ⟨rfl, k9⟩
          have K9 := hK.trans0 k9
          refine ⟨_, rfl, ?_⟩; (first | refine Then.go hmix ?_ | refine Sat.go hmix ?_ | refine ResK.go ?_ | skip); conv => whnf
          by_cases h5 : takenL l up b.name b.id = true
          · rw [h5]
            refine KGO ?_
            exact ⟨fin_err (R := moveL l b.id up) 4 (by unfold moveL; rw [if_neg g1, hb]; dsimp only; rw [if_neg g2, if_neg g3, if_neg g4, if_pos h5]) (K7.trans0 K9)⟩
          rw [show takenL l up b.name b.id = false by simpa using h5]
          refine KGO ?_
          exact ⟨fin_ok (R := moveL l b.id up) (m := m) (by rw [← hme]; unfold moveL; rw [if_neg g1, hb]; dsimp only; rw [if_neg g2, if_neg g3, if_neg g4, if_neg h5]) (own_base (own_keep0 o7 K9) K6.size) (K7.trans0 K9)⟩
end
end Go.Proofs.YtdghfagipheabaaGreatDoor
