/- Helper text of this claim: Bl5: lemmas and contracts that the proved statement rests on; no conditions of its own. -/
import Derived.Test.YtdghfagipheabaaDoorGBl3
-- alias Tryd
namespace Go.Proofs.YtdghfagipheabaaDoor
open Go.RowKit Go.Pw Go.Vc Go.Cs Go.Lib
set_option linter.unusedVariables false
set_option maxRecDepth 100000
def withB (l : List Bx) (a : ActB) : ActB := match boxOf l a.Id with | some x => { a with Up := x.up, Name := x.name, Role := x.role } | none => a
theorem back_with (l : List Bx) (a : ActB) : backA l a = if a.Do % 4 = 0 then { withB l a with Do := 3 } else if a.Do % 4 = 3 then { withB l a with Do := 0 } else withB l a := rfl
theorem with_small {l : List Bx} (hs : SmallB l) {a : ActB} (h1 : a.Name.length ≤ 1000000) (h2 : a.Role.length ≤ 1000000) : (withB l a).Name.length ≤ 1000000 ∧ (withB l a).Role.length ≤ 1000000 := by
  unfold withB
  cases hb : boxOf l a.Id with
  | none => exact ⟨h1, h2⟩
  | some x => exact hs x (boxOf_mem hb).1
theorem with_step {l : List Bx} (h : l.Pairwise fun a b => a.id < b.id) (a : ActB) (i : Nat) (hi : i < l.length) : withB (l.take (i + 1)) a = if l[i].id = a.Id then { a with Up := l[i].up, Name := l[i].name, Role := l[i].role } else withB (l.take i) a := by
  have hno : l[i].id = a.Id → boxOf (l.take i) a.Id = none := fun e => boxOf_none.2 fun b hb => by
    obtain ⟨j, hj, rfl⟩ := List.getElem_of_mem hb
    rw [List.getElem_take]
    have hj2 : j < i := by rw [List.length_take] at hj; omega
    have := List.pairwise_iff_getElem.1 h j i (by omega) hi hj2
    omega
  have hst : boxOf (l.take (i + 1)) a.Id = (boxOf (l.take i) a.Id).or (if l[i].id = a.Id then some l[i] else none) := by
    rw [List.take_succ_eq_append_getElem hi]
    unfold boxOf
    rw [List.find?_append]
    congr 1
    by_cases e : l[i].id = a.Id
    · rw [if_pos e, List.find?_cons_of_pos (by simpa using e)]
    · rw [if_neg e, List.find?_cons_of_neg (by simpa using e)]; rfl
  unfold withB
  rw [hst]
  by_cases e : l[i].id = a.Id
  · rw [if_pos e, if_pos e, hno e]; rfl
  · rw [if_neg e, if_neg e]
    cases boxOf (l.take i) a.Id <;> rfl
theorem with_id (l : List Bx) (a : ActB) : (withB l a).Id = a.Id ∧ (withB l a).Do = a.Do := by
  unfold withB
  cases boxOf l a.Id <;> exact ⟨rfl, rfl⟩
section
variable {w w' : World}
set_option maxHeartbeats 8000000 in
theorem lw_Back {v : Value} (l : List Bx) (x : ActB) (hv : RowB w v l) (hlen : l.length ≤ 9223372036854775807) (hE : BEnv w) :
    Calls Tryd.prog 5 #[v, .agg (actCells x).toArray] w fun e w' => e = .returned (.bool true) ∧ Keeps w w' none_ := by
  have hv0 := hv
  obtain ⟨a, cap, rfl, hr⟩ := hv
  refine calls_of_vc (args := [.slice a l.length cap, .agg #[.int .i64 x.Do, .int .i64 x.Id, .int .i64 x.Up, .string (str x.Name), .string (str x.Role)]]) Tryd.func5 rfl (Nat.le_of_ble_eq_true rfl) ?_; refine Sat.go hmix ?_; conv => whnf
  rw [show w.alloc (.cells #[.int .i64 x.Do, .int .i64 x.Id, .int .i64 x.Up, .string (str x.Name), .string (str x.Role)] 32) = w.alloc (.cells (List.toArray [.int .i64 x.Do, .int .i64 x.Id, .int .i64 x.Up, .string (str x.Name), .string (str x.Role)]) 32) from rfl]
  have a_b3 := at_fresh w 32 [.int .i64 x.Do, .int .i64 x.Id, .int .i64 x.Up, .string (str x.Name), .string (str x.Role)]
  have k_w0 : Keeps w (w.alloc (.cells (List.toArray [.int .i64 x.Do, .int .i64 x.Id, .int .i64 x.Up, .string (str x.Name), .string (str x.Role)]) 32)) none_ := (Keeps.refl _ _).alloc _
  have z_w0 : (w.alloc (.cells (List.toArray [.int .i64 x.Do, .int .i64 x.Id, .int .i64 x.Up, .string (str x.Name), .string (str x.Role)]) 32)).heap.size = w.heap.size + 1 := by simp
  generalize w.alloc (.cells (List.toArray [.int .i64 x.Do, .int .i64 x.Id, .int .i64 x.Up, .string (str x.Name), .string (str x.Role)]) 32) = w0 at *
  generalize hs_b3 : w.heap.size = b3 at *
  refine CallS.of (Tryd.call7 _ _) (lw_small (w := w0) (hE.keep k_w0)) ?_
  rintro e w1 ⟨rfl, j1⟩
  have K1 := k_w0.trans0 j1
  refine ⟨_, rfl, ?_⟩; (first | refine Then.go hmix ?_ | refine Sat.go hmix ?_ | refine ResK.go ?_ | skip); conv => whnf
  refine KGO ?_
  refine CallS.of (Tryd.call8 _ _) (lw_few (w := w1) l (hv0.keep K1) hlen) ?_
  rintro e w2 ⟨⟨q, rfl, hq⟩, j2⟩
  have K2 := K1.trans0 j2
  have J2 := j1.trans0 j2
  refine ⟨_, rfl, ?_⟩; (first | refine Then.go hmix ?_ | refine Sat.go hmix ?_ | refine ResK.go ?_ | skip); conv => whnf
  cases q with
  | false =>
    refine KGO ?_
    exact ⟨rfl, K2⟩
  | true =>
    obtain ⟨hs, h70⟩ := small_few (hq rfl)
    have hsz := str_size x.Name
    have hsz2 := str_size x.Role
    refine KGO ?_
    by_cases q1 : 200 < x.Name.length
    · refine KGO ?_
      exact ⟨rfl, K2⟩
    by_cases q2 : 200 < x.Role.length
    · refine KGO ?_
      exact ⟨rfl, K2⟩
    refine KGO ?_
    refine CallS.of (Tryd.call13 _ _) (bx_Right (w := w2) l (hv0.keep K2) (by omega) hs (hE.F.keep K2) (hE.T.keep K2) (hE.R.keep K2)) ?_
    rintro e w3 ⟨rfl, j3⟩
    have K3 := K2.trans0 j3
    have J3 := J2.trans0 j3
    refine ⟨_, rfl, ?_⟩; (first | refine Then.go hmix ?_ | refine Sat.go hmix ?_ | refine ResK.go ?_ | skip); conv => whnf
    by_cases h1 : rightL l = true
    rotate_left
    · rw [show rightL l = false by simpa using h1]
      refine KGO ?_
      exact ⟨rfl, K3⟩
    rw [h1]
    have hR := (rightL_iff l).1 h1
    refine KGO ?_
    refine CallS.of (Tryd.call19 _ _) (lw_done (w := w3) l x (hv0.keep K3) (by omega) hs (by omega) (by omega) (hE.keep K3)) ?_
    rintro e w4 ⟨v4, rfl, o4, j4⟩
    have K4 := K3.trans0 j4
    have J4 := J3.trans0 j4
    have r4 := o4.row
    clear o4
    obtain ⟨a4, c4, rfl⟩ := row_shape r4
    refine ⟨_, rfl, ?_⟩; (first | refine Then.go hmix ?_ | refine Sat.go hmix ?_ | refine ResK.go ?_ | skip); conv => whnf
    by_cases he : (doneL l x).2 = 0
    rotate_left
    · refine KGO ?_
      exact ⟨rfl, K4⟩
    obtain ⟨hR4, hb4⟩ := done_back l x hR he
    refine KGO ?_
    have vk9 := VarK.new w4 32 [.int .i64 x.Do, .int .i64 x.Id, .int .i64 x.Up, .string (str x.Name), .string (str x.Role)]
    refine Store.fresh (vs := [.int .i64 x.Do, .int .i64 x.Id, .int .i64 x.Up, .string (str x.Name), .string (str x.Role)]) (by rfl) rfl (flat_of (by rfl)) ?_
    have a_b9 := at_fresh w4 32 ([.int .i64 x.Do, .int .i64 x.Id, .int .i64 x.Up, .string (str x.Name), .string (str x.Role)])
    have k_w5 : Keeps w4 (w4.alloc (.cells (List.toArray ([.int .i64 x.Do, .int .i64 x.Id, .int .i64 x.Up, .string (str x.Name), .string (str x.Role)])) 32)) none_ := (Keeps.refl _ _).alloc _
    have z_w5 : (w4.alloc (.cells (List.toArray ([.int .i64 x.Do, .int .i64 x.Id, .int .i64 x.Up, .string (str x.Name), .string (str x.Role)])) 32)).heap.size = w4.heap.size + 1 := by simp
    generalize w4.alloc (.cells (List.toArray ([.int .i64 x.Do, .int .i64 x.Id, .int .i64 x.Up, .string (str x.Name), .string (str x.Role)])) 32) = w5 at *
    generalize hs_b9 : w4.heap.size = b9 at *
    clear a_b9
    refine KGO ?_
    refine Loop.intro (ι := Nat) (fun i => [(0, .slice a l.length cap), (3, .pointer (some ⟨b3, 0, none⟩)), (5, .bool true), (7, .slice a4 (doneL l x).1.length c4), (9, .pointer (some ⟨b9, 0, none⟩)), (10, .int .i64 (i : Nat))])
      (fun i wr => Keeps w4 wr none_ ∧ i ≤ l.length ∧ VarK wr b9 32 (actCells (withB (l.take i) x))) (fun i => l.length - i) 0 ⟨rfl, rfl, rfl, rfl, rfl, rfl, trivial⟩ ⟨k_w5, Nat.zero_le _, vk9⟩ ?_
    rintro i gg wr ⟨hK, hi, vk⟩
    (first | refine Then.go hmix ?_ | refine Sat.go hmix ?_ | refine ResK.go ?_ | skip); conv => whnf
    by_cases hlt : i < l.length
    · obtain ⟨gb, o, rfl, hgb, hat⟩ := hr (by omega)
      have KK := K4.trans0 hK
      have JJ := J4.trans0 hK
      have hst := with_step hR.asc x i hlt
      have hid := with_id (l.take i) x
      refine KGO ?_
      by_cases hbi : l[i].id = x.Id
      · rw [if_pos hbi] at hst
        refine KGO ?_
        have vk := vk.keep0 (Keeps.refl wr none_).drew
        have q9 : w4.heap.size ≤ b9 := by omega
        have hcellK : ∀ {u u' : World}, Keeps w4 u none_ → Keeps u u' (one_ b9) → Keeps w4 u' none_ := fun h k => h.trans k fun q hq e => by
          have e : q = b9 := e
          omega
        refine Store.atK vk (by simp [actCells]) (by rfl) ⟨rfl, by simp, by simp⟩ fun wa va ka => ?_
        have Ka := hcellK hK.drew ka
        have KKa := K4.trans0 Ka
        refine KGO ?_
        refine Store.atK va (by simp [actCells]) (by rfl) ⟨rfl, by simp, by simp⟩ fun wb vb kb => ?_
        have Kb := hcellK Ka kb
        have KKb := K4.trans0 Kb
        refine KGO ?_
        refine Store.atK vb (by simp [actCells]) (by rfl) ⟨rfl, by simp, by simp⟩ fun wc vc kc => ?_
        have Kc := hcellK Kb kc
        refine KGO ?_
        refine ⟨i + 1, ⟨rfl, rfl, rfl, rfl, rfl, v_int (by simp), trivial⟩, ⟨Kc, by omega, ?_⟩, by dsimp only; omega⟩
        rw [hst]
        have e : (((actCells (withB (l.take i) x)).set (0 + 2) (.int .i64 l[i].up)).set (0 + 3) (.string (str l[i].name))).set (0 + 4) (.string (str l[i].role)) = actCells { x with Up := l[i].up, Name := l[i].name, Role := l[i].role } := by
          simp only [actCells, hid.1, hid.2]; rfl
        rw [← e]; exact vc
      · refine KGO ?_
        refine ⟨i + 1, ⟨rfl, rfl, rfl, rfl, rfl, v_int (by simp), trivial⟩, ⟨hK.drew, by omega, ?_⟩, by dsimp only; omega⟩
        rw [hst, if_neg hbi]
        exact vk.keep0 (Keeps.refl wr none_).drew
    · rw [List.take_of_length_le (by omega)] at vk
      have JJ := J4.trans0 hK
      have KK := K4.trans0 hK
      have q9 : w4.heap.size ≤ b9 := by omega
      have hcellK : ∀ {u u' : World}, Keeps w4 u none_ → Keeps u u' (one_ b9) → Keeps w4 u' none_ := fun h k => h.trans k fun q hq e => by
        have e : q = b9 := e
        omega
      have hid := with_id l x
      obtain ⟨hws1, hws2⟩ := with_small (a := x) hs (by omega) (by omega)
      have hsm := small_right hR4
      have hR4l := hR4.len
      have hbn : (backA l x).Name = (withB l x).Name ∧ (backA l x).Role = (withB l x).Role := by
        rw [back_with]
        split
        · exact ⟨rfl, rfl⟩
        · split <;> exact ⟨rfl, rfl⟩
      refine KGO ?_
      rw [and3]
      by_cases h0 : x.Do % 4 = 0
      · refine KGO ?_
        refine Store.atK vk (by simp [actCells]) (by rfl) ⟨rfl, by simp, by simp⟩ fun wa va ka => ?_
        have Ka := hcellK hK ka
        have ea : ((actCells (withB l x)).set 0 (.int .i64 3)) = actCells (backA l x) := by rw [back_with, if_pos h0]; rfl
        rw [ea] at va
        have a_9 := va.at
        have KKa := K4.trans0 Ka
        unfold actCells at a_9
        refine KGO ?_
        refine CallS.of (Tryd.call19 _ _) (lw_done (w := wa) (doneL l x).1 (backA l x) (r4.keep Ka) (by omega) hsm (by rw [hbn.1]; exact hws1) (by rw [hbn.2]; exact hws2) (hE.keep KKa)) ?_
        rintro e w6 ⟨v6, rfl, o6, k6⟩
        rw [hb4] at o6
        rw [hb4]
        dsimp only at o6 ⊢
        have K6 := KKa.trans0 k6
        have r6 := o6.row
        obtain ⟨a6, c6, rfl⟩ := row_shape r6
        refine ⟨_, rfl, ?_⟩; (first | refine Then.go hmix ?_ | refine Sat.go hmix ?_ | refine ResK.go ?_ | skip); conv => whnf
        refine KGO ?_
        refine CallS.of (Tryd.call22 _ _) (rf_Same (w := w6) l l r6 (hv0.keep K6) (by omega)) ?_
        rintro e w7 ⟨rfl, k7⟩
        rw [decide_eq_true (rfl : l = l)]
        refine ⟨_, rfl, ?_⟩; (first | refine Then.go hmix ?_ | refine Sat.go hmix ?_ | refine ResK.go ?_ | skip); conv => whnf
        refine KGO ?_
        exact ⟨rfl, K6.trans0 k7⟩
      · by_cases h3 : x.Do % 4 = 3
        · refine KGO ?_
          refine Store.atK vk (by simp [actCells]) (by rfl) ⟨rfl, by simp, by simp⟩ fun wa va ka => ?_
          have Ka := hcellK hK ka
          have ea : ((actCells (withB l x)).set 0 (.int .i64 0)) = actCells (backA l x) := by rw [back_with, if_neg h0, if_pos h3]; rfl
          rw [ea] at va
          have a_9 := va.at
          have KKa := K4.trans0 Ka
          unfold actCells at a_9
          refine KGO ?_
          refine CallS.of (Tryd.call19 _ _) (lw_done (w := wa) (doneL l x).1 (backA l x) (r4.keep Ka) (by omega) hsm (by rw [hbn.1]; exact hws1) (by rw [hbn.2]; exact hws2) (hE.keep KKa)) ?_
          rintro e w6 ⟨v6, rfl, o6, k6⟩
          rw [hb4] at o6
          rw [hb4]
          dsimp only at o6 ⊢
          have K6 := KKa.trans0 k6
          have r6 := o6.row
          obtain ⟨a6, c6, rfl⟩ := row_shape r6
          refine ⟨_, rfl, ?_⟩; (first | refine Then.go hmix ?_ | refine Sat.go hmix ?_ | refine ResK.go ?_ | skip); conv => whnf
          refine KGO ?_
          refine CallS.of (Tryd.call22 _ _) (rf_Same (w := w6) l l r6 (hv0.keep K6) (by omega)) ?_
          rintro e w7 ⟨rfl, k7⟩
          rw [decide_eq_true (rfl : l = l)]
          refine ⟨_, rfl, ?_⟩; (first | refine Then.go hmix ?_ | refine Sat.go hmix ?_ | refine ResK.go ?_ | skip); conv => whnf
          refine KGO ?_
          exact ⟨rfl, K6.trans0 k7⟩
        · refine KGO ?_
          have va := vk
          have Ka := hK
          have ea : withB l x = backA l x := by rw [back_with, if_neg h0, if_neg h3]
          rw [ea] at va
          generalize wr = wa at *
          have a_9 := va.at
          have KKa := K4.trans0 Ka
          unfold actCells at a_9
          refine KGO ?_
          refine CallS.of (Tryd.call19 _ _) (lw_done (w := wa) (doneL l x).1 (backA l x) (r4.keep Ka) (by omega) hsm (by rw [hbn.1]; exact hws1) (by rw [hbn.2]; exact hws2) (hE.keep KKa)) ?_
          rintro e w6 ⟨v6, rfl, o6, k6⟩
          rw [hb4] at o6
          rw [hb4]
          dsimp only at o6 ⊢
          have K6 := KKa.trans0 k6
          have r6 := o6.row
          obtain ⟨a6, c6, rfl⟩ := row_shape r6
          refine ⟨_, rfl, ?_⟩; (first | refine Then.go hmix ?_ | refine Sat.go hmix ?_ | refine ResK.go ?_ | skip); conv => whnf
          refine KGO ?_
          refine CallS.of (Tryd.call22 _ _) (rf_Same (w := w6) l l r6 (hv0.keep K6) (by omega)) ?_
          rintro e w7 ⟨rfl, k7⟩
          rw [decide_eq_true (rfl : l = l)]
          refine ⟨_, rfl, ?_⟩; (first | refine Then.go hmix ?_ | refine Sat.go hmix ?_ | refine ResK.go ?_ | skip); conv => whnf
          refine KGO ?_
          exact ⟨rfl, K6.trans0 k7⟩
end
end Go.Proofs.YtdghfagipheabaaDoor
