/- Helper text of this claim: Bq2, RowP, Bq5, Bq3: lemmas and contracts that the proved statement rests on; no conditions of its own. -/
import Derived.Test.YtdghfagipheabaaGreatDoorGBl3
import Derived.Test.YtdghfagipheabaaGreatDoorGBw5
import Derived.Test.YtdghfagipheabaaGreatDoorGBx9
-- alias Tryz
namespace Go.Proofs.YtdghfagipheabaaGreatDoor
open Go.RowKit Go.Pw Go.Vc Go.Cs Go.Lib
set_option linter.unusedVariables false
set_option maxRecDepth 100000
section
variable {w w' : World}
theorem build_roles (w : World) : (Instr.buildSlice 44 7 [(0, .string ⟨#[]⟩), (1, .string ⟨#[105, 110, 98, 111, 120]⟩), (2, .string ⟨#[100, 114, 97, 102, 116, 115]⟩), (3, .string ⟨#[115, 101, 110, 116]⟩), (4, .string ⟨#[116, 114, 97, 115, 104]⟩), (5, .string ⟨#[106, 117, 110, 107]⟩), (6, .string ⟨#[97, 114, 99, 104, 105, 118, 101]⟩)].toArray).run Tryz.prog w =
    .ok (.slice (some ⟨w.heap.size, 0, none⟩) 7 7) (w.alloc (.cells (rolesL.map sv).toArray 9)) := by
  simp [Instr.buildSlice, go_sem, Tryz.runUnderlying44, rolesL, sv, str]
set_option maxHeartbeats 1000000 in
theorem rq_role (s : List UInt8) : Calls Tryz.prog 41 #[.string (str s)] w fun e w' => e = .returned (.bool (decide (s ∈ rolesL))) ∧ Keeps w w' none_ := by
  refine calls_of_vc (args := [.string (str s)]) Tryz.func41 rfl (Nat.le_of_ble_eq_true rfl) ?_; refine Sat.go hmix ?_; conv => whnf
  refine RunV.of (build_roles _) ?_
  have a1 := at_fresh w 9 (rolesL.map sv)
  have k1 : Keeps w (w.alloc (.cells (rolesL.map sv).toArray 9)) none_ := (Keeps.refl _ _).alloc _
  generalize w.alloc (.cells (rolesL.map sv).toArray 9) = w1 at *
  generalize w.heap.size = g at *
  have h7 : rolesL.length = 7 := rfl
  refine KGO ?_
  refine Loop.intro (ι := Nat) (fun i => [(0, .string (str s)), (3, .slice (some ⟨g, 0, none⟩) 7 7), (4, .int .i64 (i : Nat))])
    (fun i wr => Keeps w1 wr none_ ∧ i ≤ 7 ∧ ∀ x ∈ rolesL.take i, x ≠ s) (fun i => 7 - i) 0 ⟨rfl, rfl, rfl, trivial⟩ ⟨Keeps.refl _ _, Nat.zero_le _, by simp⟩ ?_
  rintro i gg wr ⟨hK, hi, ht⟩
  (first | refine Then.go hmix ?_ | refine Sat.go hmix ?_ | refine ResK.go ?_ | skip); conv => whnf
  by_cases hlt : i < 7
  · have hi7 : i < rolesL.length := by omega
    have c0 : wr.cell? ⟨g, 0 + i, none⟩ = some (.string (str rolesL[i])) := (at_mono a1 hK) i _ (by rw [List.getElem?_map, List.getElem?_eq_getElem hi7]; rfl)
    have hm : rolesL[i] ∈ rolesL := List.getElem_mem hi7
    have htk : rolesL.take (i + 1) = rolesL.take i ++ [rolesL[i]] := List.take_succ_eq_append_getElem hi7
    have hq : decide (str rolesL[i] = str s) = decide (rolesL[i] = s) := by rw [decide_eq_decide, str_eq]
    generalize rolesL[i] = x at *
    by_cases he : x = s
    · rw [decide_eq_true he] at hq
      refine KGO ?_
      exact ⟨ret_bool (decide_eq_true (he ▸ hm)).symm, k1.trans0 hK⟩
    · rw [decide_eq_false he] at hq
      refine KGO ?_
      refine ⟨i + 1, ⟨rfl, rfl, v_int (by simp), trivial⟩, ⟨hK, by omega, ?_⟩, by dsimp only; omega⟩
      rw [htk]
      intro b hb
      rcases List.mem_append.1 hb with hb | hb
      · exact ht b hb
      · rw [List.mem_singleton.1 hb]; exact he
  · refine KGO ?_
    rw [List.take_of_length_le (by omega)] at ht
    exact ⟨ret_bool (decide_eq_false fun h => ht s h rfl).symm, k1.trans0 hK⟩
set_option maxHeartbeats 4000000 in
theorem rq_Right {v : Value} (l : List Bx) (hv : RowB w v l) (hl : l.length ≤ 1000) (hs : SmallB l) :
    Calls Tryz.prog 42 #[v] w fun e w' => e = .returned (.bool (rightL l)) ∧ Keeps w w' none_ := by
  have hv0 := hv
  obtain ⟨a, cap, rfl, hr⟩ := hv
  refine calls_of_vc (args := [.slice a l.length cap]) Tryz.func42 rfl (Nat.le_of_ble_eq_true rfl) ?_; refine Sat.go hmix ?_; conv => whnf
  have href := right_ref l
  by_cases hlen : 64 < l.length
  · refine KGO ?_
    refine ⟨ret_bool ?_, Keeps.refl _ _⟩
    cases hq : rightL l with
    | false => rfl
    | true => have := (href.1 hq).1; omega
  refine KGO ?_
  refine Loop.intro (ι := Nat) (fun i => [(0, .slice a l.length cap), (3, .int .i64 (i : Nat))])
    (fun i wr => Keeps w wr none_ ∧ i ≤ l.length ∧ ∀ j (hj : j < l.length), j < i → OkR l j l[j]) (fun i => l.length - i) 0 ⟨rfl, rfl, trivial⟩ ⟨Keeps.refl _ _, Nat.zero_le _, fun j _ h => by omega⟩ ?_
  rintro i gg wr ⟨hK, hi, hok⟩
  (first | refine Then.go hmix ?_ | refine Sat.go hmix ?_ | refine ResK.go ?_ | skip); conv => whnf
  by_cases hlt : i < l.length
  · obtain ⟨g, o, rfl, hg, hat⟩ := hr (by omega)
    have hbs := hs l[i] (List.getElem_mem hlt)
    have hfalse : ¬ OkR l i l[i] → rightL l = false := fun h => by
      cases hq : rightL l with
      | false => rfl
      | true => exact absurd ((href.1 hq).2 i hlt) h
    refine KGO ?_
    refine CallS.of (Tryz.call40 _ _) (rq_Named (w := wr) (str l[i].name) (by rw [str_size]; omega)) ?_
    rintro e w1 ⟨rfl, k1⟩
    rw [L_str]
    have K1 := hK.trans0 k1
    refine ⟨_, rfl, ?_⟩; (first | refine Then.go hmix ?_ | refine Sat.go hmix ?_ | refine ResK.go ?_ | skip); conv => whnf
    refine KGO ?_
    refine CallS.of (Tryz.call41 _ _) (rq_role (w := w1) l[i].role) ?_
    rintro e w2 ⟨rfl, k2⟩
    have K2 := K1.trans0 k2
    refine ⟨_, rfl, ?_⟩; (first | refine Then.go hmix ?_ | refine Sat.go hmix ?_ | refine ResK.go ?_ | skip); conv => whnf
    by_cases q1 : namedB l[i].name = true
    rotate_left
    · rw [show namedB l[i].name = false by simpa using q1]
      refine KGO ?_
      exact ⟨ret_bool (hfalse fun h => q1 h.named).symm, K2.drew⟩
    rw [q1]
    by_cases q2 : l[i].role ∈ rolesL
    rotate_left
    · rw [decide_eq_false q2]
      refine KGO ?_
      exact ⟨ret_bool (hfalse fun h => q2 h.role).symm, K2.drew⟩
    rw [decide_eq_true q2]
    by_cases h3 : l[i].id < 1
    · refine KGO ?_
      exact ⟨ret_bool (hfalse fun h => by have := h.pos; omega).symm, K2.drew⟩
    by_cases h4 : 1099511627776 < l[i].id
    · refine KGO ?_
      exact ⟨ret_bool (hfalse fun h => by have := h.pos; omega).symm, K2.drew⟩
    by_cases h0 : i = 0
    · have hasc : ∀ c, 0 < i → l[i - 1]? = some c → c.id < l[i].id := fun c h => by omega
      refine KGO ?_
      refine CallS.of (Tryz.call45 _ _) (rq_deep (w := w2.drew) l l[i].id (hv0.keep K2.drew) (by omega)) ?_
      rintro e w3 ⟨rfl, k3⟩
      have K3 := K2.drew.trans0 k3
      refine ⟨_, rfl, ?_⟩; (first | refine Then.go hmix ?_ | refine Sat.go hmix ?_ | refine ResK.go ?_ | skip); conv => whnf
      by_cases h6 : 8 < deepR l l[i].id
      · refine KGO ?_
        exact ⟨ret_bool (hfalse fun h => by have := h.deep; omega).symm, K3⟩
      refine KGO ?_
      have hokN : (∀ k c, k < i → l[k]? = some c → ¬ (c.role = l[i].role ∧ l[i].role ≠ []) ∧ ¬ (c.up = l[i].up ∧ foldL c.name = foldL l[i].name)) → OkR l i l[i] := fun h =>
        ⟨q1, q2, ⟨by omega, by omega⟩, hasc, by omega, h⟩
      clear hasc h0
      refine Loop.intro (ι := Nat) (fun k => [(0, .slice (some ⟨g, o, none⟩) l.length cap), (3, .int .i64 (i : Nat)), (6, .int .i64 (k : Nat))])
        (fun k wk => Keeps w wk none_ ∧ k ≤ i ∧ ∀ k' c, k' < k → l[k']? = some c → ¬ (c.role = l[i].role ∧ l[i].role ≠ []) ∧ ¬ (c.up = l[i].up ∧ foldL c.name = foldL l[i].name)) (fun k => i - k) 0 ⟨rfl, rfl, rfl, trivial⟩ ⟨K3, Nat.zero_le _, fun _ _ h => by omega⟩ ?_
      rintro k gk wk ⟨kk, hki, hfree⟩
      (first | refine Then.go hmix ?_ | refine Sat.go hmix ?_ | refine ResK.go ?_ | skip); conv => whnf
      by_cases hkt : k < i
      · have hk2 : k < l.length := by omega
        have hbk := hs l[k] (List.getElem_mem hk2)
        have hnext0 : ∀ (hno : ¬ (l[k].role = l[i].role ∧ l[i].role ≠ [])) (hu : ¬ (l[k].up = l[i].up ∧ foldL l[k].name = foldL l[i].name)), (∀ k' c, k' < k + 1 → l[k']? = some c → ¬ (c.role = l[i].role ∧ l[i].role ≠ []) ∧ ¬ (c.up = l[i].up ∧ foldL c.name = foldL l[i].name)) := fun hno hu k' c hk' hc => by
          by_cases e : k' < k
          · exact hfree k' c e hc
          · obtain rfl : k' = k := by omega
            rw [List.getElem?_eq_getElem hk2] at hc
            obtain rfl := Option.some.inj hc
            exact ⟨hno, hu⟩
        have d1 : decide (str l[k].role = str l[i].role) = decide (l[k].role = l[i].role) := by rw [decide_eq_decide, str_eq]
        have d2 := str_nilq l[i].role
        by_cases r1 : l[k].role = l[i].role
        · rw [decide_eq_true r1] at d1
          by_cases r2 : l[i].role = []
          · rw [decide_eq_true r2] at d2
            have hno : ¬ (l[k].role = l[i].role ∧ l[i].role ≠ []) := fun h => h.2 r2
            by_cases u1 : l[k].up = l[i].up
            rotate_left
            · refine KGO ?_
              exact ⟨k + 1, ⟨rfl, rfl, v_int (by simp), trivial⟩, ⟨kk.drew, by omega, hnext0 hno fun h => u1 h.1⟩, by dsimp only; omega⟩
            refine KGO ?_
            refine CallS.of (Tryz.call67 _ _) (rq_Equal (w := wk.drew) l[k].name l[i].name (by omega) (by omega)) ?_
            rintro e w4 ⟨rfl, k4⟩
            have K4 := kk.drew.trans0 k4
            refine ⟨_, rfl, ?_⟩; (first | refine Then.go hmix ?_ | refine Sat.go hmix ?_ | refine ResK.go ?_ | skip); conv => whnf
            by_cases u2 : foldL l[k].name = foldL l[i].name
            · rw [decide_eq_true u2]
              refine KGO ?_
              exact ⟨ret_bool (hfalse fun h => (h.free k _ hkt (List.getElem?_eq_getElem hk2)).2 ⟨u1, u2⟩).symm, K4⟩
            · rw [decide_eq_false u2]
              refine KGO ?_
              exact ⟨k + 1, ⟨rfl, rfl, v_int (by simp), trivial⟩, ⟨K4, by omega, hnext0 hno fun h => u2 h.2⟩, by dsimp only; omega⟩
          · rw [decide_eq_false r2] at d2
            refine KGO ?_
            exact ⟨ret_bool (hfalse fun h => (h.free k _ hkt (List.getElem?_eq_getElem hk2)).1 ⟨r1, r2⟩).symm, kk.drew⟩
        · rw [decide_eq_false r1] at d1
          have hno : ¬ (l[k].role = l[i].role ∧ l[i].role ≠ []) := fun h => r1 h.1
          by_cases u1 : l[k].up = l[i].up
          rotate_left
          · refine KGO ?_
            exact ⟨k + 1, ⟨rfl, rfl, v_int (by simp), trivial⟩, ⟨kk.drew, by omega, hnext0 hno fun h => u1 h.1⟩, by dsimp only; omega⟩
          refine KGO ?_
          refine CallS.of (Tryz.call67 _ _) (rq_Equal (w := wk.drew) l[k].name l[i].name (by omega) (by omega)) ?_
          rintro e w4 ⟨rfl, k4⟩
          have K4 := kk.drew.trans0 k4
          refine ⟨_, rfl, ?_⟩; (first | refine Then.go hmix ?_ | refine Sat.go hmix ?_ | refine ResK.go ?_ | skip); conv => whnf
          by_cases u2 : foldL l[k].name = foldL l[i].name
          · rw [decide_eq_true u2]
            refine KGO ?_
            exact ⟨ret_bool (hfalse fun h => (h.free k _ hkt (List.getElem?_eq_getElem hk2)).2 ⟨u1, u2⟩).symm, K4⟩
          · rw [decide_eq_false u2]
            refine KGO ?_
            exact ⟨k + 1, ⟨rfl, rfl, v_int (by simp), trivial⟩, ⟨K4, by omega, hnext0 hno fun h => u2 h.2⟩, by dsimp only; omega⟩
      · refine KGO ?_
        have hk3 : k = i := by omega
        refine ⟨i + 1, ⟨rfl, v_int (by simp), trivial⟩, ⟨kk, by omega, fun j hj h => ?_⟩, by dsimp only; omega⟩
        by_cases hj2 : j < i
        · exact hok j hj hj2
        · obtain rfl : j = i := by omega
          rw [hk3] at hfree
          exact hokN hfree
    · have hp : ((i : Int) - 1).toNat < l.length := by omega
      have hpe : ((i : Int) - 1).toNat = i - 1 := by omega
      have hpp : l[i - 1]? = some l[((i : Int) - 1).toNat] := by rw [← hpe]; exact List.getElem?_eq_getElem hp
      by_cases h5 : l[i].id ≤ l[((i : Int) - 1).toNat].id
      · refine KGO ?_
        exact ⟨ret_bool (hfalse fun h => by have := h.asc _ (by omega) hpp; omega).symm, K2.drew⟩
      · have hasc : ∀ c, 0 < i → l[i - 1]? = some c → c.id < l[i].id := fun c _ h => by
          rw [hpp] at h
          rw [← Option.some.inj h]
          omega
        refine KGO ?_
        refine CallS.of (Tryz.call45 _ _) (rq_deep (w := w2.drew) l l[i].id (hv0.keep K2.drew) (by omega)) ?_
        rintro e w3 ⟨rfl, k3⟩
        have K3 := K2.drew.trans0 k3
        refine ⟨_, rfl, ?_⟩; (first | refine Then.go hmix ?_ | refine Sat.go hmix ?_ | refine ResK.go ?_ | skip); conv => whnf
        by_cases h6 : 8 < deepR l l[i].id
        · refine KGO ?_
          exact ⟨ret_bool (hfalse fun h => by have := h.deep; omega).symm, K3⟩
        refine KGO ?_
        have hokN : (∀ k c, k < i → l[k]? = some c → ¬ (c.role = l[i].role ∧ l[i].role ≠ []) ∧ ¬ (c.up = l[i].up ∧ foldL c.name = foldL l[i].name)) → OkR l i l[i] := fun h =>
          ⟨q1, q2, ⟨by omega, by omega⟩, hasc, by omega, h⟩
        clear hasc h0
        refine Loop.intro (ι := Nat) (fun k => [(0, .slice (some ⟨g, o, none⟩) l.length cap), (3, .int .i64 (i : Nat)), (6, .int .i64 (k : Nat))])
          (fun k wk => Keeps w wk none_ ∧ k ≤ i ∧ ∀ k' c, k' < k → l[k']? = some c → ¬ (c.role = l[i].role ∧ l[i].role ≠ []) ∧ ¬ (c.up = l[i].up ∧ foldL c.name = foldL l[i].name)) (fun k => i - k) 0 ⟨rfl, rfl, rfl, trivial⟩ ⟨K3, Nat.zero_le _, fun _ _ h => by omega⟩ ?_
        rintro k gk wk ⟨kk, hki, hfree⟩
        (first | refine Then.go hmix ?_ | refine Sat.go hmix ?_ | refine ResK.go ?_ | skip); conv => whnf
        by_cases hkt : k < i
        · have hk2 : k < l.length := by omega
          have hbk := hs l[k] (List.getElem_mem hk2)
          have hnext0 : ∀ (hno : ¬ (l[k].role = l[i].role ∧ l[i].role ≠ [])) (hu : ¬ (l[k].up = l[i].up ∧ foldL l[k].name = foldL l[i].name)), (∀ k' c, k' < k + 1 → l[k']? = some c → ¬ (c.role = l[i].role ∧ l[i].role ≠ []) ∧ ¬ (c.up = l[i].up ∧ foldL c.name = foldL l[i].name)) := fun hno hu k' c hk' hc => by
            by_cases e : k' < k
            · exact hfree k' c e hc
            · obtain rfl : k' = k := by omega
              rw [List.getElem?_eq_getElem hk2] at hc
              obtain rfl := Option.some.inj hc
              exact ⟨hno, hu⟩
          have d1 : decide (str l[k].role = str l[i].role) = decide (l[k].role = l[i].role) := by rw [decide_eq_decide, str_eq]
          have d2 := str_nilq l[i].role
          by_cases r1 : l[k].role = l[i].role
          · rw [decide_eq_true r1] at d1
            by_cases r2 : l[i].role = []
            · rw [decide_eq_true r2] at d2
              have hno : ¬ (l[k].role = l[i].role ∧ l[i].role ≠ []) := fun h => h.2 r2
              by_cases u1 : l[k].up = l[i].up
              rotate_left
              · refine KGO ?_
                exact ⟨k + 1, ⟨rfl, rfl, v_int (by simp), trivial⟩, ⟨kk.drew, by omega, hnext0 hno fun h => u1 h.1⟩, by dsimp only; omega⟩
              refine KGO ?_
              refine CallS.of (Tryz.call67 _ _) (rq_Equal (w := wk.drew) l[k].name l[i].name (by omega) (by omega)) ?_
              rintro e w4 ⟨rfl, k4⟩
              have K4 := kk.drew.trans0 k4
              refine ⟨_, rfl, ?_⟩; (first | refine Then.go hmix ?_ | refine Sat.go hmix ?_ | refine ResK.go ?_ | skip); conv => whnf
              by_cases u2 : foldL l[k].name = foldL l[i].name
              · rw [decide_eq_true u2]
                refine KGO ?_
                exact ⟨ret_bool (hfalse fun h => (h.free k _ hkt (List.getElem?_eq_getElem hk2)).2 ⟨u1, u2⟩).symm, K4⟩
              · rw [decide_eq_false u2]
                refine KGO ?_
                exact ⟨k + 1, ⟨rfl, rfl, v_int (by simp), trivial⟩, ⟨K4, by omega, hnext0 hno fun h => u2 h.2⟩, by dsimp only; omega⟩
            · rw [decide_eq_false r2] at d2
              refine KGO ?_
              exact ⟨ret_bool (hfalse fun h => (h.free k _ hkt (List.getElem?_eq_getElem hk2)).1 ⟨r1, r2⟩).symm, kk.drew⟩
          · rw [decide_eq_false r1] at d1
            have hno : ¬ (l[k].role = l[i].role ∧ l[i].role ≠ []) := fun h => r1 h.1
            by_cases u1 : l[k].up = l[i].up
            rotate_left
            · refine KGO ?_
              exact ⟨k + 1, ⟨rfl, rfl, v_int (by simp), trivial⟩, ⟨kk.drew, by omega, hnext0 hno fun h => u1 h.1⟩, by dsimp only; omega⟩
            refine KGO ?_
            refine CallS.of (Tryz.call67 _ _) (rq_Equal (w := wk.drew) l[k].name l[i].name (by omega) (by omega)) ?_
            rintro e w4 ⟨rfl, k4⟩
            have K4 := kk.drew.trans0 k4
            refine ⟨_, rfl, ?_⟩; (first | refine Then.go hmix ?_ | refine Sat.go hmix ?_ | refine ResK.go ?_ | skip); conv => whnf
            by_cases u2 : foldL l[k].name = foldL l[i].name
            · rw [decide_eq_true u2]
              refine KGO ?_
              exact ⟨ret_bool (hfalse fun h => (h.free k _ hkt (List.getElem?_eq_getElem hk2)).2 ⟨u1, u2⟩).symm, K4⟩
            · rw [decide_eq_false u2]
              refine KGO ?_
              exact ⟨k + 1, ⟨rfl, rfl, v_int (by simp), trivial⟩, ⟨K4, by omega, hnext0 hno fun h => u2 h.2⟩, by dsimp only; omega⟩
        · refine KGO ?_
          have hk3 : k = i := by omega
          refine ⟨i + 1, ⟨rfl, v_int (by simp), trivial⟩, ⟨kk, by omega, fun j hj h => ?_⟩, by dsimp only; omega⟩
          by_cases hj2 : j < i
          · exact hok j hj hj2
          · obtain rfl : j = i := by omega
            rw [hk3] at hfree
            exact hokN hfree
  · refine KGO ?_
    have e : i = l.length := by omega
    refine ⟨ret_bool ?_, hK⟩
    exact (href.2 ⟨by omega, fun j hj => hok j hj (by omega)⟩).symm
end
end Go.Proofs.YtdghfagipheabaaGreatDoor

namespace Go.Vc
open Go Go.Pw
set_option linter.unusedVariables false
/-! A row of one's own with one element turned whole. -/
theorem VarK.setMid {b : Nat} {T : TypeId} : ∀ (vs pre mid post : List Value) (w : World), VarK w b T (pre ++ mid ++ post) → vs.length = mid.length → VarK (setCells b vs pre.length w) b T (pre ++ vs ++ post)
  | [], pre, mid, post, w, h, hl => by
    obtain rfl : mid = [] := List.eq_nil_of_length_eq_zero hl.symm
    exact h
  | v :: r, pre, [], post, w, h, hl => by simp at hl
  | v :: r, pre, m :: mid, post, w, h, hl => by
    have h1 := h.set pre.length v
    rw [show (pre ++ (m :: mid) ++ post).set pre.length v = (pre ++ [v]) ++ mid ++ post by
      rw [List.append_assoc, List.set_append_right _ _ (Nat.le_refl _), Nat.sub_self]
      simp] at h1
    have h2 := VarK.setMid r (pre ++ [v]) mid post _ h1 (by simpa using hl)
    rw [show (pre ++ [v]).length = pre.length + 1 by simp] at h2
    have e : pre ++ v :: r ++ post = pre ++ [v] ++ r ++ post := by simp
    rw [e]
    exact h2
theorem flatK_put {α : Type} (f : α → List Value) (s : Nat) (hf : ∀ x, (f x).length = s) (l : List α) (k : Nat) (hk : k < l.length) (x : α) : (l.set k x).flatMap f = (l.flatMap f).take (k * s) ++ f x ++ (l.flatMap f).drop (k * s + s) := by
  rw [flatK_take f s hf, show k * s + s = (k + 1) * s by rw [Nat.succ_mul], flatK_drop f s hf, List.set_eq_take_append_cons_drop, if_pos hk, List.flatMap_append, List.flatMap_cons, List.append_assoc]
/-- Store of one element. -/
theorem Store.elemK {P : Program} {t e : TypeId} {w : World} {B s g cap k : Nat} {cells : List Value} {α : Type} {f : α → List Value} {l : List α} (x : α) {K : World → Prop} (hf : ∀ x, (f x).length = s) (hs : sizeOfT P t = some s) (hfl : ∀ v ∈ f x, Flat v)
    (hv : VarK w g e cells) (hB : B ≤ g) (hn : l.length ≤ cap) (hc : cap ≤ maxLen) (hl : cells.length = cap * s) (ht : cells.take (l.length * s) = l.flatMap f) (hk : k < l.length)
    (q : ∀ w', w'.ownsRow B e s (.slice (some ⟨g, 0, none⟩) l.length cap) l.length ((l.set k x).flatMap f) → VarK w' g e (cells.take (k * s) ++ f x ++ cells.drop (k * s + s)) → Keeps w w' (one_ g) → K w') :
    Store P t ⟨g, 0 + k * s, none⟩ (.agg (f x).toArray) w K := by
  have hks : k * s + s ≤ l.length * s := by rw [← Nat.succ_mul]; exact Nat.mul_le_mul_right s hk
  have hls : l.length * s ≤ cells.length := by rw [hl]; exact Nat.mul_le_mul_right s hn
  have hA : (cells.take (k * s)).length = k * s := by rw [List.length_take]; omega
  have hM : ((cells.drop (k * s)).take s).length = s := by rw [List.length_take, List.length_drop]; omega
  have hsp : cells = cells.take (k * s) ++ (cells.drop (k * s)).take s ++ cells.drop (k * s + s) := by
    conv => lhs; rw [← List.take_append_drop (k * s) cells, ← List.take_append_drop s (cells.drop (k * s)), List.drop_drop]
    rw [List.append_assoc]
  have v2 : VarK (setCells g (f x) (0 + k * s) w) g e (cells.take (k * s) ++ f x ++ cells.drop (k * s + s)) := by
    have h := VarK.setMid (f x) (cells.take (k * s)) ((cells.drop (k * s)).take s) (cells.drop (k * s + s)) w (by rw [← hsp]; exact hv) (by rw [hf, hM])
    rw [hA] at h
    rw [show 0 + k * s = k * s from Nat.zero_add _]
    exact h
  refine Store.agg (f x) (by rw [hs, hf]) hfl (fun j hj => ⟨cells[k * s + j]'(by rw [hf] at hj; omega), ?_⟩) (fun j => hv.frozen j) (q _ ?_ v2 (setCells_keepsK (f x) (0 + k * s) w))
  · have := hv.at (k * s + j) _ (List.getElem?_eq_getElem (by rw [hf] at hj; omega))
    rw [Nat.zero_add] at this ⊢
    exact this
  · have hsl : (l.set k x).length = l.length := List.length_set
    refine own_ofK hB v2 hn hc ?_ ?_ ?_
    · rw [List.length_append, List.length_append, hA, hf, List.length_drop]; omega
    · have hAX : (cells.take (k * s) ++ f x).length = k * s + s := by rw [List.length_append, hA, hf]
      rw [flatK_put f s hf l k hk x, ← ht, List.take_take, Nat.min_eq_left (by omega), List.drop_take]
      generalize hX : cells.take (k * s) ++ f x = X at *
      rw [List.take_append, List.take_of_length_le (by omega), hAX]
    · rw [flatK_len f s hf, hsl]
end Go.Vc

-- alias Tryz
namespace Go.Proofs.YtdghfagipheabaaGreatDoor
open Go.RowKit Go.Pw Go.Vc Go.Cs Go.Lib
set_option linter.unusedVariables false
set_option maxRecDepth 100000
section
variable {w w' : World}
set_option maxHeartbeats 1000000 in
theorem rq_beside {v : Value} (l : List Bx) (up : Int) (nm : List UInt8) (but : Int) (hv : RowB w v l) (hl : l.length ≤ 1000000) (hn : nm.length ≤ 1000000) (hs : SmallB l) :
    Calls Tryz.prog 46 #[v, .int .i64 up, .string (str nm), .int .i64 but] w fun e w' => e = .returned (.bool (takenL l up nm but)) ∧ Keeps w w' none_ := by
  obtain ⟨a, cap, rfl, hr⟩ := hv
  refine calls_of_vc (args := [.slice a l.length cap, .int .i64 up, .string (str nm), .int .i64 but]) Tryz.func46 rfl (Nat.le_of_ble_eq_true rfl) ?_; refine Sat.go hmix ?_; conv => whnf
  refine Loop.intro (ι := Nat) (fun i => [(0, .slice a l.length cap), (1, .int .i64 up), (2, .string (str nm)), (3, .int .i64 but), (9, .int .i64 (i : Nat))])
    (fun i wr => Keeps w wr none_ ∧ i ≤ l.length ∧ takenL l up nm but = takenL (l.drop i) up nm but) (fun i => l.length - i) 0 ⟨rfl, rfl, rfl, rfl, rfl, trivial⟩ ⟨Keeps.refl _ _, Nat.zero_le _, rfl⟩ ?_
  rintro i gg wr ⟨hK, hi, ht⟩
  (first | refine Then.go hmix ?_ | refine Sat.go hmix ?_ | refine ResK.go ?_ | skip); conv => whnf
  by_cases hlt : i < l.length
  · obtain ⟨g, o, rfl, hg, hat⟩ := hr (by omega)
    have hbs := hs l[i] (List.getElem_mem hlt)
    rw [List.drop_eq_getElem_cons hlt] at ht
    have hstep : takenL (l[i] :: l.drop (i + 1)) up nm but = (decide (l[i].up = up ∧ l[i].id ≠ but ∧ foldL l[i].name = foldL nm) || takenL (l.drop (i + 1)) up nm but) := rfl
    rw [hstep] at ht
    have hno : ¬ (l[i].up = up ∧ l[i].id ≠ but ∧ foldL l[i].name = foldL nm) → takenL l up nm but = takenL (l.drop (i + 1)) up nm but := fun h => by rw [ht, decide_eq_false h]; rfl
    have hyes : (l[i].up = up ∧ l[i].id ≠ but ∧ foldL l[i].name = foldL nm) → takenL l up nm but = true := fun h => by rw [ht, decide_eq_true h]; rfl
    clear ht hstep
    refine KGO ?_
    refine CallS.of (Tryz.call67 _ _) (rq_Equal (w := wr) l[i].name nm (by omega) (by omega)) ?_
    rintro e w1 ⟨rfl, k1⟩
    have K1 := hK.trans0 k1
    refine ⟨_, rfl, ?_⟩; (first | refine Then.go hmix ?_ | refine Sat.go hmix ?_ | refine ResK.go ?_ | skip); conv => whnf
    by_cases h1 : l[i].up = up
    rotate_left
    · refine KGO ?_
      exact ⟨i + 1, ⟨rfl, rfl, rfl, rfl, v_int (by simp), trivial⟩, ⟨K1, by omega, hno fun h => h1 h.1⟩, by dsimp only; omega⟩
    by_cases h2 : l[i].id = but
    · refine KGO ?_
      exact ⟨i + 1, ⟨rfl, rfl, rfl, rfl, v_int (by simp), trivial⟩, ⟨K1, by omega, hno fun h => h.2.1 h2⟩, by dsimp only; omega⟩
    by_cases h3 : foldL l[i].name = foldL nm
    · rw [decide_eq_true h3]
      refine KGO ?_
      exact ⟨ret_bool (hyes ⟨h1, h2, h3⟩).symm, K1⟩
    · rw [decide_eq_false h3]
      refine KGO ?_
      exact ⟨i + 1, ⟨rfl, rfl, rfl, rfl, v_int (by simp), trivial⟩, ⟨K1, by omega, hno fun h => h3 h.2.2⟩, by dsimp only; omega⟩
  · refine KGO ?_
    refine ⟨ret_bool ?_, hK⟩
    rw [ht, List.drop_eq_nil_of_le (by omega)]; rfl
set_option maxHeartbeats 1000000 in
theorem rq_in {v : Value} (l : List Bx) (id bx : Int) (hv : RowB w v l) (hr : RightP l) {d : Nat} (hd : Dep l d id) (hb0 : bx ≠ 0) :
    Calls Tryz.prog 48 #[v, .int .i64 id, .int .i64 bx] w fun e w' => e = .returned (.bool (within l id bx)) ∧ Keeps w w' none_ := by
  have hv0 := hv
  have hlen := hr.len
  obtain ⟨a, cap, rfl, hra⟩ := hv
  refine calls_of_vc (args := [.slice a l.length cap, .int .i64 id, .int .i64 bx]) Tryz.func48 rfl (Nat.le_of_ble_eq_true rfl) ?_; refine Sat.go hmix ?_; conv => whnf
  refine Loop.intro (ι := Int × Nat) (fun i => [(0, .slice a l.length cap), (1, .int .i64 i.1), (2, .int .i64 bx)])
    (fun i wr => Keeps w wr none_ ∧ Dep l i.2 i.1 ∧ (within l id bx = true ↔ Go.Cs.Reach l bx i.1)) (fun i => i.2) (id, d) ⟨rfl, rfl, rfl, trivial⟩ ⟨Keeps.refl _ _, hd, within_of hr hb0 hd⟩ ?_
  rintro ⟨y, m⟩ gg wr ⟨hK, hm, ht⟩
  dsimp only at hm ht ⊢
  (first | refine Then.go hmix ?_ | refine Sat.go hmix ?_ | refine ResK.go ?_ | skip); conv => whnf
  by_cases h0 : y = 0
  · refine KGO ?_
    refine ⟨ret_bool (Eq.symm ?_), hK⟩
    rw [Bool.eq_false_iff]
    intro h
    have h2 := ht.1 h
    rw [h0] at h2
    cases h2 with
    | here => exact hb0 rfl
    | up h _ => rw [hr.zero] at h; cases h
  by_cases h1 : y = bx
  · refine KGO ?_
    exact ⟨ret_bool (ht.2 (h1 ▸ .here)).symm, hK⟩
  obtain ⟨m, rfl⟩ : ∃ m', m = m' + 1 := by
    cases m with
    | zero => exact absurd hm h0
    | succ m => exact ⟨m, rfl⟩
  obtain ⟨_, u, hu, hm2⟩ := hm
  rw [boxOf_up] at hu
  cases hb : boxOf l y with
  | none => rw [hb] at hu; cases hu
  | some b =>
    rw [hb] at hu
    obtain rfl : b.up = u := Option.some.inj hu
    obtain ⟨hk, he, hf⟩ := find_nat hb
    refine KGO ?_
    refine CallS.of (Tryz.call44 _ _) (rq_find (w := wr) l y (hv0.keep hK) (by omega)) ?_
    rintro e w1 ⟨rfl, k1⟩
    have K1 := hK.trans0 k1
    rw [hf]
    refine ⟨_, rfl, ?_⟩; (first | refine Then.go hmix ?_ | refine Sat.go hmix ?_ | refine ResK.go ?_ | skip); conv => whnf
    obtain ⟨g, o, rfl, hg, hat⟩ := hra (by omega)
    refine KGO ?_
    rw [he]
    refine KGO ?_
    refine ⟨(b.up, m), ⟨rfl, rfl, rfl, trivial⟩, ⟨K1, hm2, ?_⟩, by dsimp only; omega⟩
    dsimp only
    rw [ht]
    constructor
    · intro h
      cases h with
      | here => exact absurd rfl h1
      | up h k => rw [boxOf_up, hb] at h; rw [← Option.some.inj h] at k; exact k
    · intro h
      exact .up (by rw [boxOf_up, hb]; rfl) h
set_option maxHeartbeats 1000000 in
theorem rq_with {v : Value} (l : List Bx) (k : Nat) (x : Bx) (hv : RowB w v l) (hl : l.length ≤ 1000) (hk : k < l.length) :
    Calls Tryz.prog 47 #[v, .int .i64 (k : Nat), .agg (boxCells x).toArray] w fun e w' => ∃ v', e = .returned v' ∧ OwnB w' w.heap.size v' (l.set k x) ∧ Keeps w w' none_ := by
  have hv0 := hv
  obtain ⟨a, cap, rfl, hra⟩ := hv
  obtain ⟨g0, o0, rfl, hg0, hat0⟩ := hra (by omega)
  refine calls_of_vc (args := [.slice (some ⟨g0, o0, none⟩) l.length cap, .int .i64 (k : Nat), .agg #[.int .i64 x.id, .int .i64 x.up, .string (str x.name), .string (str x.role)]]) Tryz.func47 rfl (Nat.le_of_ble_eq_true rfl) ?_; refine Sat.go hmix ?_; conv => whnf
  rw [show w.alloc (.cells #[.int .i64 x.id, .int .i64 x.up, .string (str x.name), .string (str x.role)] 39) = w.alloc (.cells (List.toArray [.int .i64 x.id, .int .i64 x.up, .string (str x.name), .string (str x.role)]) 39) from rfl]
  have a_b0 := at_fresh w 39 [.int .i64 x.id, .int .i64 x.up, .string (str x.name), .string (str x.role)]
  have k_w0 : Keeps w (w.alloc (.cells (List.toArray [.int .i64 x.id, .int .i64 x.up, .string (str x.name), .string (str x.role)]) 39)) none_ := (Keeps.refl _ _).alloc _
  have z_w0 : (w.alloc (.cells (List.toArray [.int .i64 x.id, .int .i64 x.up, .string (str x.name), .string (str x.role)]) 39)).heap.size = w.heap.size + 1 := by simp
  generalize w.alloc (.cells (List.toArray [.int .i64 x.id, .int .i64 x.up, .string (str x.name), .string (str x.role)]) 39) = w0 at *
  generalize hs_b0 : w.heap.size = b0 at *
  refine KGO ?_
  refine RunV.of (build_b0 _) ?_
  have o1 : (w0.alloc (.cells #[] 39)).ownsRow w0.heap.size 39 4 (.slice (some ⟨w0.heap.size, 0, none⟩) 0 0) 0 [] := World.ownsRow_made w0 #[] 0 (Nat.le_refl _) (by decide) (by simp)
  have k1 : Keeps w0 (w0.alloc (.cells #[] 39)) none_ := (Keeps.refl _ _).alloc _
  have hB : w0.heap.size ≤ (w0.alloc (.cells #[] 39)).heap.size := k1.size
  generalize w0.alloc (.cells #[] 39) = w1 at *
  refine KGO ?_
  have K1 := k_w0.trans0 k1
  have hnews : ∀ j u, (l.flatMap boxCells)[j]? = some u → w1.cell? ((⟨g0, o0, none⟩ : Addr).add j) = some u := fun j u hj => by
    rw [add_none]
    exact cell_mono (hat0 j u hj) K1
  refine RunN.app Tryz.underlying22 boxInfo rfl (by decide) o1 hB ⟨g0, o0, none⟩ l.length cap (l.flatMap boxCells) (flatK_len boxCells 4 boxLen l) hnews (boxesOne l) (by omega) (by omega) fun v' w' h2 h3 => ?_
  have K2 : Keeps w0 w' none_ := k1.own o1 (Nat.le_refl _) h3
  rw [List.nil_append, Nat.zero_add] at h2
  rcases own_blockK h2 with ⟨_, h0⟩ | ⟨g, cap2, cells, rfl, hBg, hvk, hnc, hcm, hcl, htk⟩
  · omega
  have hlt0 := at_mono a_b0 K2
  refine KGO ?_
  refine Store.elemK x boxLen (by rfl) (flat_of (by rfl)) hvk hBg hnc hcm hcl htk hk fun w6 o6 v6 k6 => ?_
  have K6 : Keeps w w6 none_ := (k_w0.trans0 K2).trans k6 fun q hq e => by
    have e : q = g := e
    have := k_w0.size
    omega
  refine KGO ?_
  refine ⟨_, rfl, ?_, K6⟩
  rw [OwnB, List.length_set]
  exact own_base o6 (by omega)
end
end Go.Proofs.YtdghfagipheabaaGreatDoor

-- alias Tryz
namespace Go.Proofs.YtdghfagipheabaaGreatDoor
open Go.RowKit Go.Pw Go.Vc Go.Cs Go.Lib
set_option linter.unusedVariables false
set_option maxRecDepth 100000
section
variable {w w' : World}
theorem join_cons (x : List UInt8) (r : List (List UInt8)) (h : r ≠ []) : joinS (x :: r) = x ++ 47 :: joinS r := by
  cases r with
  | nil => exact absurd rfl h
  | cons y r => rfl
theorem path_step (l : List Bx) (p : List UInt8) (r : List Bx) (b : Bx) : ((b :: r).find? fun b => decide (fullL l b.id ≠ [] ∧ foldL (fullL l b.id) = foldL p)) = if fullL l b.id ≠ [] ∧ foldL (fullL l b.id) = foldL p then some b else r.find? fun b => decide (fullL l b.id ≠ [] ∧ foldL (fullL l b.id) = foldL p) := by
  by_cases h : fullL l b.id ≠ [] ∧ foldL (fullL l b.id) = foldL p
  · rw [if_pos h, List.find?_cons_of_pos (by simpa using h)]
  · rw [if_neg h, List.find?_cons_of_neg (by simpa using h)]
theorem full_lim {l : List Bx} (id : Int) : (fullL l id).length ≤ 6464 := by
  by_cases h : rightL l = true
  · exact full_short ((rightL_iff l).1 h) id
  · rw [fullL, if_neg h]; simp
end
end Go.Proofs.YtdghfagipheabaaGreatDoor
