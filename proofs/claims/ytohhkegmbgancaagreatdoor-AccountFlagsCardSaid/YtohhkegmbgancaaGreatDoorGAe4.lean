/- Helper text of this claim: Ae4, Ae5, Ae7, Ae8, Bw15, Bw16, Bl1: lemmas and contracts that the proved statement rests on; no conditions of its own. -/
import Derived.Test.YtohhkegmbgancaaGreatDoorGAa3
import Derived.Test.YtohhkegmbgancaaGreatDoorGAx4
import Derived.Test.YtohhkegmbgancaaGreatDoorGCw3
import Derived.Laws.StructEq
import Derived.Test.YtohhkegmbgancaaGreatDoorGAd2
-- alias Tryz
namespace Go.Proofs.YtohhkegmbgancaaGreatDoor
open Go.Shelf Go.RowKit Go.Pw Go.Vc Go.Cs Go.Lib
set_option linter.unusedVariables false
set_option maxRecDepth 100000
def dgL (d : Dg) : List Int := [d.d0, d.d1, d.d2, d.d3, d.d4, d.d5, d.d6, d.d7, d.d8, d.d9, d.d10, d.d11, d.d12, d.d13, d.d14, d.d15, d.d16, d.d17, d.d18, d.d19, d.d20, d.d21, d.d22, d.d23, d.d24, d.d25, d.d26, d.d27, d.d28, d.d29, d.d30, d.d31]
theorem dgC_eq (d : Dg) : dgC d = (dgL d).map (Value.int .u8) := rfl
theorem dgL_inj {a b : Dg} : dgL a = dgL b ↔ a = b := by
  constructor
  · intro h
    cases a; cases b
    simp only [dgL, List.cons.injEq, and_true] at h
    simp only [Dg.mk.injEq]
    exact h
  · rintro rfl; rfl
theorem all_getD : ∀ (xs ys : List Int), xs.length = ys.length → ((List.range xs.length).all fun i => xs.getD i 0 == ys.getD i 0) = decide (xs = ys) := fun xs ys h => by
  rw [Bool.eq_iff_iff, List.all_eq_true, decide_eq_true_eq]
  constructor
  · intro hq
    refine List.ext_getElem h fun i h1 h2 => ?_
    have := hq i (List.mem_range.2 h1)
    rw [beq_iff_eq, List.getD_eq_getElem?_getD, List.getD_eq_getElem?_getD, List.getElem?_eq_getElem h1, List.getElem?_eq_getElem h2] at this
    exact this
  · rintro rfl i _; simp
theorem eq_cells (d : Nat) (t e : TypeId) (n : Nat) (w : World) (ht : Tryz.prog.underlying t = some (.array n e)) (he : Tryz.prog.underlying e = some (.int .u8)) (hsz : ∀ w, (sizeOf e).run Tryz.prog w = .ok 1 w)
    (xs ys : List Int) (hx : xs.length = n) (hy : ys.length = n) :
    (Op.equalIn (d + 2) t (.agg (xs.map (Value.int .u8)).toArray) (.agg (ys.map (Value.int .u8)).toArray)).run Tryz.prog w = .ok (decide (xs = ys)) w := by
  rw [← all_getD xs ys (hx.trans hy.symm), hx, List.range_eq_range', Op.equalIn]
  simp only [Sem.run_bind, run_underlying ht, Result.andThen_ok, hsz, Std.Legacy.Range.forIn_eq_forIn_range', Std.Legacy.Range.size, Nat.sub_zero, Nat.add_sub_cancel, Nat.div_one]
  have hl : ∀ i ∈ List.range' 0 n 1, i < n := fun i hi => by simpa using (List.mem_range'_1.1 hi).2
  generalize List.range' 0 n 1 = l at hl ⊢
  induction l with
  | nil => simp
  | cons i l ih =>
    have hi : i < n := hl i (by simp)
    have px : (part e (xs.map (Value.int .u8)).toArray (i * 1)).run Tryz.prog w = .ok (.int .u8 (xs.getD i 0)) w := by
      simp [part, isAgg, run_underlying he, List.getD, List.getElem?_eq_getElem (show i < xs.length by omega)]
    have py : (part e (ys.map (Value.int .u8)).toArray (i * 1)).run Tryz.prog w = .ok (.int .u8 (ys.getD i 0)) w := by
      simp [part, isAgg, run_underlying he, List.getD, List.getElem?_eq_getElem (show i < ys.length by omega)]
    have pe := run_equalIn_int (P := Tryz.prog) w d e .u8 .u8 (xs.getD i 0) (ys.getD i 0) he
    simp only [List.forIn_cons, Sem.run_bind, px, py, Result.andThen_ok, List.all_cons, show (Op.equalIn (d + 1) e (.int .u8 (xs.getD i 0)) (.int .u8 (ys.getD i 0))).run Tryz.prog w = .ok (xs.getD i 0 == ys.getD i 0) w by rw [pe]]
    cases hb : (xs.getD i 0 == ys.getD i 0)
    · simp
    · simp only [Bool.not_true, Bool.false_eq_true, if_false, Sem.run_pure, Result.andThen_ok, Bool.true_and]
      exact ih fun j hj => hl j (by simp [hj])
theorem dg_eql (x y : Dg) (a b : Operand) {K : Value → World → Prop} {w : World} (k : K (.bool (decide (x = y))) w) :
    RunV Tryz.prog (do eqGuard .eql 24 a b (.agg (dgC x).toArray) (.agg (dgC y).toArray); binOp .eql 24 (.agg (dgC x).toArray) (.agg (dgC y).toArray)) w K := by
  refine RunV.of ?_ k
  rw [Sem.run_bind, run_eqGuard_agg w .eql 24 a b _ _ (by kernel_rfl), Result.andThen_ok, run_eql_struct, dgC_eq, dgC_eq]
  rw [show (10000 : Nat) = 9998 + 2 from rfl, eq_cells 9998 24 5 32 w (by rfl) (by rfl) (fun w => by rfl) (dgL x) (dgL y) rfl rfl]
  simp only [Result.andThen_ok, dgL_inj]
section
variable {w : World}
set_option maxHeartbeats 1000000 in
theorem rf_SameInts {va vb : Value} (la lb : List Int) (ha : RowI w va la) (hb : RowI w vb lb) (hl : la.length ≤ 1000000) (hl2 : lb.length ≤ 1000000) :
    Calls Tryz.prog 14 #[va, vb] w fun e w' => e = .returned (.bool (decide (la = lb))) ∧ Keeps w w' none_ := by
  obtain ⟨a, ca, rfl, hra⟩ := ha
  obtain ⟨b, cb, rfl, hrb⟩ := hb
  refine calls_of_vc (args := [.slice a la.length ca, .slice b lb.length cb]) Tryz.func14 rfl (Nat.le_of_ble_eq_true rfl) ?_; refine Sat.go hmix ?_; conv => whnf
  by_cases hn : la.length = lb.length
  rotate_left
  · refine KGO ?_
    refine ⟨ret_bool ?_, Keeps.refl _ _⟩
    exact (decide_eq_false fun h => hn (by rw [h])).symm
  refine KGO ?_
  refine Loop.intro (ι := Nat) (fun i => [(0, .slice a la.length ca), (1, .slice b lb.length cb), (5, .int .i64 (i : Nat))])
    (fun i wr => Keeps w wr none_ ∧ i ≤ la.length ∧ la.take i = lb.take i) (fun i => la.length - i) 0 ⟨rfl, rfl, rfl, trivial⟩ ⟨Keeps.refl _ _, Nat.zero_le _, rfl⟩ ?_
  rintro i gg wr ⟨hK, hi, ht⟩
  (first | refine Then.go hmix ?_ | refine Sat.go hmix ?_ | refine ResK.go ?_ | skip); conv => whnf
  by_cases hlt : i < la.length
  · have hlt2 : i < lb.length := by omega
    obtain ⟨ga, oa, rfl, hga, hata⟩ := hra (by omega)
    obtain ⟨gb, ob, rfl, hgb, hatb⟩ := hrb (by omega)
    have ca := at_int hata hlt
    have cb := at_int hatb hlt2
    by_cases he : la[i] = lb[i]
    · rw [he] at ca
      refine KGO ?_
      exact ⟨i + 1, ⟨rfl, rfl, v_int (by simp), trivial⟩, ⟨hK.drew, by omega, by rw [List.take_succ_eq_append_getElem hlt, List.take_succ_eq_append_getElem hlt2, ht, he]⟩, by dsimp only; omega⟩
    · refine KGO ?_
      refine ⟨ret_bool ?_, hK.drew⟩
      exact (decide_eq_false fun h => he (by subst h; rfl)).symm
  · refine KGO ?_
    refine ⟨ret_bool ?_, hK⟩
    rw [List.take_of_length_le (by omega), List.take_of_length_le (by omega)] at ht
    exact (decide_eq_true ht).symm
set_option maxHeartbeats 1000000 in
theorem rf_SameTexts {va vb : Value} (la lb : List (List UInt8)) (ha : RowT w va la) (hb : RowT w vb lb) (hl : la.length ≤ 1000000) (hl2 : lb.length ≤ 1000000) :
    Calls Tryz.prog 42 #[va, vb] w fun e w' => e = .returned (.bool (decide (la = lb))) ∧ Keeps w w' none_ := by
  obtain ⟨a, ca, rfl, hra⟩ := ha
  obtain ⟨b, cb, rfl, hrb⟩ := hb
  refine calls_of_vc (args := [.slice a la.length ca, .slice b lb.length cb]) Tryz.func42 rfl (Nat.le_of_ble_eq_true rfl) ?_; refine Sat.go hmix ?_; conv => whnf
  by_cases hn : la.length = lb.length
  rotate_left
  · refine KGO ?_
    refine ⟨ret_bool ?_, Keeps.refl _ _⟩
    exact (decide_eq_false fun h => hn (by rw [h])).symm
  refine KGO ?_
  refine Loop.intro (ι := Nat) (fun i => [(0, .slice a la.length ca), (1, .slice b lb.length cb), (5, .int .i64 (i : Nat))])
    (fun i wr => Keeps w wr none_ ∧ i ≤ la.length ∧ la.take i = lb.take i) (fun i => la.length - i) 0 ⟨rfl, rfl, rfl, trivial⟩ ⟨Keeps.refl _ _, Nat.zero_le _, rfl⟩ ?_
  rintro i gg wr ⟨hK, hi, ht⟩
  (first | refine Then.go hmix ?_ | refine Sat.go hmix ?_ | refine ResK.go ?_ | skip); conv => whnf
  by_cases hlt : i < la.length
  · have hlt2 : i < lb.length := by omega
    obtain ⟨ga, oa, rfl, hga, hata⟩ := hra (by omega)
    obtain ⟨gb, ob, rfl, hgb, hatb⟩ := hrb (by omega)
    have ca := at_txt hata hlt
    have cb := at_txt hatb hlt2
    by_cases he : la[i] = lb[i]
    · rw [he] at ca
      refine KGO ?_
      exact ⟨i + 1, ⟨rfl, rfl, v_int (by simp), trivial⟩, ⟨hK.drew, by omega, by rw [List.take_succ_eq_append_getElem hlt, List.take_succ_eq_append_getElem hlt2, ht, he]⟩, by dsimp only; omega⟩
    · have he2 : ¬ str la[i] = str lb[i] := fun e => he (str_inj.1 e)
      refine KGO ?_
      refine ⟨ret_bool ?_, hK.drew⟩
      exact (decide_eq_false fun h => he (by subst h; rfl)).symm
  · refine KGO ?_
    refine ⟨ret_bool ?_, hK⟩
    rw [List.take_of_length_le (by omega), List.take_of_length_le (by omega)] at ht
    exact (decide_eq_true ht).symm
set_option maxHeartbeats 1000000 in
theorem rf_Has {va : Value} (la : List Int) (n : Int) (ha : RowI w va la) (hl : la.length ≤ 1000000) :
    Calls Tryz.prog 16 #[va, .int .i64 n] w fun e w' => e = .returned (.bool (decide (n ∈ la))) ∧ Keeps w w' none_ := by
  obtain ⟨a, ca, rfl, hra⟩ := ha
  refine calls_of_vc (args := [.slice a la.length ca, .int .i64 n]) Tryz.func16 rfl (Nat.le_of_ble_eq_true rfl) ?_; refine Sat.go hmix ?_; conv => whnf
  refine Loop.intro (ι := Nat) (fun i => [(0, .slice a la.length ca), (1, .int .i64 n), (5, .int .i64 (i : Nat))])
    (fun i wr => Keeps w wr none_ ∧ i ≤ la.length ∧ n ∉ la.take i) (fun i => la.length - i) 0 ⟨rfl, rfl, rfl, trivial⟩ ⟨Keeps.refl _ _, Nat.zero_le _, by simp⟩ ?_
  rintro i gg wr ⟨hK, hi, ht⟩
  (first | refine Then.go hmix ?_ | refine Sat.go hmix ?_ | refine ResK.go ?_ | skip); conv => whnf
  by_cases hlt : i < la.length
  · obtain ⟨ga, oa, rfl, hga, hata⟩ := hra (by omega)
    have ca := at_int hata hlt
    by_cases he : la[i] = n
    · refine KGO ?_
      exact ⟨ret_bool (decide_eq_true (he ▸ List.getElem_mem hlt)).symm, hK⟩
    · refine KGO ?_
      exact ⟨i + 1, ⟨rfl, rfl, v_int (by simp), trivial⟩, ⟨hK, by omega, by
        rw [List.take_succ_eq_append_getElem hlt, List.mem_append, List.mem_singleton]
        exact fun q => q.elim ht fun q => he q.symm⟩, by dsimp only; omega⟩
  · refine KGO ?_
    rw [List.take_of_length_le (by omega)] at ht
    exact ⟨ret_bool (decide_eq_false ht).symm, hK⟩
end
end Go.Proofs.YtohhkegmbgancaaGreatDoor

-- alias Tryz
namespace Go.Proofs.YtohhkegmbgancaaGreatDoor
open Go.Shelf Go.RowKit Go.Pw Go.Vc Go.Cs Go.Lib
set_option linter.unusedVariables false
set_option maxRecDepth 100000
theorem dg_at {w : World} {b : Nat} {x : Mr} (h : At w b 0 (mrC x)) : At w b (0 + 1) (dgC x.m.blob) := fun i u hi => by
  have hl : (dgC x.m.blob).length = 32 := rfl
  have hi2 : i < 32 := by have := (List.getElem?_eq_some_iff.1 hi).1; omega
  have := h (1 + i) u (by
    unfold mrC
    rw [Nat.add_comm, List.getElem?_cons_succ, List.getElem?_append_left (by omega)]
    exact hi)
  rw [show 0 + (1 + i) = 0 + 1 + i by omega] at this
  exact this
section
variable {w : World}
set_option maxHeartbeats 4000000 in
theorem rf_SameMail (x y : Mr) (hx : MailOk w x) (hy : MailOk w y) (h1 : x.m.boxes.length ≤ 1000000) (h2 : x.m.flags.length ≤ 1000000) (h3 : y.m.boxes.length ≤ 1000000) (h4 : y.m.flags.length ≤ 1000000) :
    Calls Tryz.prog 12 #[.agg (mrC x).toArray, .agg (mrC y).toArray] w fun e w' => e = .returned (.bool (decide (x.m = y.m))) ∧ Keeps w w' none_ := by
  have hmm : x.m = y.m ↔ x.m.boxes = y.m.boxes ∧ x.m.flags = y.m.flags ∧ x.m.id = y.m.id ∧ x.m.blob = y.m.blob ∧ x.m.at_ = y.m.at_ ∧ x.m.size = y.m.size ∧ x.m.mod = y.m.mod := by
    constructor
    · intro h; rw [h]; simp
    · rintro ⟨e1, e2, e3, e4, e5, e6, e7⟩
      obtain ⟨m, _, _⟩ := x
      obtain ⟨n, _, _⟩ := y
      cases m; cases n
      simp_all
  refine calls_of_vc (args := [.agg (mrC x).toArray, .agg (mrC y).toArray]) Tryz.func12 rfl (Nat.le_of_ble_eq_true rfl) ?_; refine Sat.go hmix ?_; conv => whnf
  have a_b1 := at_fresh w 42 (mrC x)
  have v_b1 := VarK.new w 42 (mrC x)
  have k_w1 : Keeps w (w.alloc (.cells (List.toArray (mrC x)) 42)) none_ := (Keeps.refl _ _).alloc _
  have z_w1 : (w.alloc (.cells (List.toArray (mrC x)) 42)).heap.size = w.heap.size + 1 := by simp
  generalize w.alloc (.cells (List.toArray (mrC x)) 42) = w1 at *
  generalize hs_b1 : w.heap.size = b1 at *
  have r_w1 : Keeps w1 w1 none_ := Keeps.refl _ _
  have a_b2 := at_fresh w1 42 (mrC y)
  have v_b2 := VarK.new w1 42 (mrC y)
  have k_w2 : Keeps w1 (w1.alloc (.cells (List.toArray (mrC y)) 42)) none_ := (Keeps.refl _ _).alloc _
  have z_w2 : (w1.alloc (.cells (List.toArray (mrC y)) 42)).heap.size = w1.heap.size + 1 := by simp
  generalize w1.alloc (.cells (List.toArray (mrC y)) 42) = w2 at *
  generalize hs_b2 : w1.heap.size = b2 at *
  have r_w2 : Keeps w2 w2 none_ := Keeps.refl _ _
  have K2 : Keeps w w2 none_ := k_w1.trans0 k_w2
  have a1 := at_mono a_b1 k_w2
  have a2 := a_b2
  have kr2 : Keeps w2 w2 none_ := Keeps.refl _ _
  refine KGO ?_
  refine CallS.of (Tryz.call14 _ _) (rf_SameInts (w := w2) x.m.boxes y.m.boxes (hx.b.keep K2) (hy.b.keep K2) h1 h3) ?_
  rintro e w3 ⟨rfl, k3⟩
  have K3 := K2.trans0 k3
  have a13 := at_mono a1 k3
  have a23 := at_mono a2 k3
  have kr3 : Keeps w3 w3 none_ := Keeps.refl _ _
  refine ⟨_, rfl, ?_⟩; (first | refine Then.go hmix ?_ | refine Sat.go hmix ?_ | refine ResK.go ?_ | skip); conv => whnf
  refine KGO ?_
  refine CallS.of (Tryz.call42 _ _) (rf_SameTexts (w := w3) x.m.flags y.m.flags (hx.f.keep K3) (hy.f.keep K3) h2 h4) ?_
  rintro e w4 ⟨rfl, k4⟩
  have K4 := K3.trans0 k4
  have a14 := at_mono a13 k4
  have a24 := at_mono a23 k4
  have d14 := dg_at a14
  have d24 := dg_at a24
  have kr4 : Keeps w4 w4 none_ := Keeps.refl _ _
  refine ⟨_, rfl, ?_⟩; (first | refine Then.go hmix ?_ | refine Sat.go hmix ?_ | refine ResK.go ?_ | skip); conv => whnf
  by_cases c1 : x.m.boxes = y.m.boxes
  rotate_left
  · rw [decide_eq_false c1]
    refine KGO ?_
    exact ⟨ret_bool (decide_eq_false fun h => c1 (hmm.1 h).1).symm, K4⟩
  rw [decide_eq_true c1]
  by_cases c2 : x.m.flags = y.m.flags
  rotate_left
  · rw [decide_eq_false c2]
    refine KGO ?_
    exact ⟨ret_bool (decide_eq_false fun h => c2 (hmm.1 h).2.1).symm, K4⟩
  rw [decide_eq_true c2]
  by_cases c3 : x.m.id = y.m.id
  rotate_left
  · refine KGO ?_
    exact ⟨ret_bool (decide_eq_false fun h => c3 (hmm.1 h).2.2.1).symm, K4⟩
  refine KGO ?_
  refine dg_eql _ _ _ _ ?_
  by_cases c4 : x.m.blob = y.m.blob
  rotate_left
  · rw [decide_eq_false c4]
    refine KGO ?_
    exact ⟨ret_bool (decide_eq_false fun h => c4 (hmm.1 h).2.2.2.1).symm, K4⟩
  rw [decide_eq_true c4]
  by_cases c5 : x.m.at_ = y.m.at_
  rotate_left
  · refine KGO ?_
    exact ⟨ret_bool (decide_eq_false fun h => c5 (hmm.1 h).2.2.2.2.1).symm, K4⟩
  by_cases c6 : x.m.size = y.m.size
  rotate_left
  · refine KGO ?_
    exact ⟨ret_bool (decide_eq_false fun h => c6 (hmm.1 h).2.2.2.2.2.1).symm, K4⟩
  refine KGO ?_
  exact ⟨ret_bool (by rw [Bool.eq_iff_iff, beq_iff_eq, decide_eq_true_eq]; exact ⟨fun h => hmm.2 ⟨c1, c2, c3, c4, c5, c6, h⟩, fun h => (hmm.1 h).2.2.2.2.2.2⟩), K4⟩
end
end Go.Proofs.YtohhkegmbgancaaGreatDoor

-- alias Tryz
namespace Go.Proofs.YtohhkegmbgancaaGreatDoor
open Go.Shelf Go.RowKit Go.Pw Go.Vc Go.Cs Go.Lib
set_option linter.unusedVariables false
set_option maxRecDepth 100000
def opC' (p : Ov × Opr) : List Value := opC p.1 p.2
/-- A row of operations in memory. -/
def RowOp (w : World) (v : Value) (l : List Opr) : Prop := ∃ lv : List (Ov × Opr), lv.map (·.2) = l ∧ RowO w v opC' lv ∧ ∀ p ∈ lv, OpR w p.1 p.2
section
variable {w : World}
set_option maxHeartbeats 1000000 in
theorem lw_has {va : Value} (la : List (List UInt8)) (n : List UInt8) (ha : RowT w va la) (hl : la.length ≤ 8796093022208) :
    Calls Tryz.prog 13 #[va, .string (str n)] w fun e w' => e = .returned (.bool (decide (n ∈ la))) ∧ Keeps w w' none_ := by
  obtain ⟨a, ca, rfl, hra⟩ := ha
  refine calls_of_vc (args := [.slice a la.length ca, .string (str n)]) Tryz.func13 rfl (Nat.le_of_ble_eq_true rfl) ?_; refine Sat.go hmix ?_; conv => whnf
  refine Loop.intro (ι := Nat) (fun i => [(0, .slice a la.length ca), (1, .string (str n)), (5, .int .i64 (i : Nat))])
    (fun i wr => Keeps w wr none_ ∧ i ≤ la.length ∧ n ∉ la.take i) (fun i => la.length - i) 0 ⟨rfl, rfl, rfl, trivial⟩ ⟨Keeps.refl _ _, Nat.zero_le _, by simp⟩ ?_
  rintro i gg wr ⟨hK, hi, ht⟩
  (first | refine Then.go hmix ?_ | refine Sat.go hmix ?_ | refine ResK.go ?_ | skip); conv => whnf
  by_cases hlt : i < la.length
  · obtain ⟨ga, oa, rfl, hga, hata⟩ := hra (by omega)
    have ca := at_txt hata hlt
    by_cases he : la[i] = n
    · rw [he] at ca
      refine KGO ?_
      exact ⟨ret_bool (decide_eq_true (he ▸ List.getElem_mem hlt)).symm, hK⟩
    · have he2 : ¬ str la[i] = str n := fun e => he (str_inj.1 e)
      refine KGO ?_
      exact ⟨i + 1, ⟨rfl, rfl, v_int (by simp), trivial⟩, ⟨hK, by omega, by
        rw [List.take_succ_eq_append_getElem hlt, List.mem_append, List.mem_singleton]
        exact fun q => q.elim ht fun q => he q.symm⟩, by dsimp only; omega⟩
  · refine KGO ?_
    rw [List.take_of_length_le (by omega)] at ht
    exact ⟨ret_bool (decide_eq_false ht).symm, hK⟩
end
end Go.Proofs.YtohhkegmbgancaaGreatDoor

-- alias Tryz
namespace Go.Proofs.YtohhkegmbgancaaGreatDoor
open Go.Shelf Go.RowKit Go.Pw Go.Vc Go.Cs Go.Lib
set_option linter.unusedVariables false
set_option maxRecDepth 100000
section
variable {w : World}
set_option maxHeartbeats 4000000 in
theorem lw_few42 {v : Value} (l : List Opr) (hv : RowOp w v l) (hl : l.length ≤ 1000000000000) (hf : ∀ o ∈ l, FitO o) :
    Calls Tryz.prog 8 #[v] w fun e w' => (∃ q, e = .returned (.bool q) ∧ (q = true → l.length ≤ 40)) ∧ Keeps w w' none_ := by
  obtain ⟨lv, hlv, hr, hop⟩ := hv
  have hlen : lv.length = l.length := by rw [← hlv, List.length_map]
  obtain ⟨a, cap, rfl, hr⟩ := hr
  refine calls_of_vc (args := [.slice a lv.length cap]) Tryz.func8 rfl (Nat.le_of_ble_eq_true rfl) ?_; refine Sat.go hmix ?_; conv => whnf
  refine Loop.intro (ι := Nat × Int) (fun p => [(0, .slice a lv.length cap), (3, .int .i64 p.2), (4, .int .i64 (p.1 : Nat))])
    (fun p wr => Keeps w wr none_ ∧ p.1 ≤ lv.length ∧ -9223372036854775808 ≤ p.2 ∧ p.2 ≤ 9223372036854775807) (fun p => lv.length - p.1) (0, 0) ⟨rfl, rfl, rfl, trivial⟩ ⟨Keeps.refl _ _, Nat.zero_le _, by decide, by decide⟩ ?_
  rintro ⟨i, z⟩ gg wr ⟨hK, hi, hz1, hz2⟩
  dsimp only at hi hz1 hz2 ⊢
  (first | refine Then.go hmix ?_ | refine Sat.go hmix ?_ | refine ResK.go ?_ | skip); conv => whnf
  by_cases hlt : i < lv.length
  · obtain ⟨gb, o, rfl, hgb, hat⟩ := hr (by omega)
    have hat := at_mono hat hK
    have kr : Keeps wr wr none_ := Keeps.refl _ _
    have hO := hop lv[i] (List.getElem_mem hlt)
    have hfo := hf lv[i].2 (by rw [← hlv]; exact List.mem_map_of_mem (List.getElem_mem hlt))
    have hfa := hfo.a
    have hfd := hfo.d
    have hbn : lv[i].1.b.n = lv[i].2.boxes.length := RowO.len hO.b
    have han : lv[i].1.a.n = lv[i].2.add.length := RowO.len hO.a
    have hdn : lv[i].1.d.n = lv[i].2.drop.length := RowO.len hO.d
    refine KGO ?_
    try (refine Num.any (fun zz hzz1 hzz2 _ => ?_) rfl; refine KGO ?_)
    try (refine Num.any (fun zz hzz1 hzz2 _ => ?_) rfl; refine KGO ?_)
    try (refine Num.any (fun zz hzz1 hzz2 _ => ?_) rfl; refine KGO ?_)
    try (refine Num.any (fun zz hzz1 hzz2 _ => ?_) rfl; refine KGO ?_)
    try (refine Num.any (fun zz hzz1 hzz2 _ => ?_) rfl; refine KGO ?_)
    try (refine Num.any (fun zz hzz1 hzz2 _ => ?_) rfl; refine KGO ?_)
    try (refine Num.any (fun zz hzz1 hzz2 _ => ?_) rfl; refine KGO ?_)
    try (refine Num.any (fun zz hzz1 hzz2 _ => ?_) rfl; refine KGO ?_)
    try (refine Num.any (fun zz hzz1 hzz2 _ => ?_) rfl; refine KGO ?_)
    have K1 : Keeps w wr.drew none_ := hK.drew
    have hat1 : At wr.drew gb o (lv.flatMap opC') := hat
    clear hat hK kr
    generalize wr.drew = w1 at *
    refine Loop.intro (ι := Nat × Int) (fun q => [(0, .slice (some ⟨gb, o, none⟩) lv.length cap), (3, .int .i64 q.2), (4, .int .i64 (i : Nat)), (5, .int .i64 (q.1 : Nat))])
      (fun q w2 => Keeps w1 w2 none_ ∧ q.1 ≤ lv[i].2.add.length ∧ -9223372036854775808 ≤ q.2 ∧ q.2 ≤ 9223372036854775807) (fun q => lv[i].2.add.length - q.1) (0, zz) ⟨rfl, rfl, rfl, rfl, trivial⟩ ⟨Keeps.refl _ _, Nat.zero_le _, hzz1, hzz2⟩ ?_
    clear hz1 hz2
    rintro ⟨k, z1⟩ g1 w2 ⟨hK2, hk, hz1, hz2⟩
    dsimp only at hk hz1 hz2 ⊢
    (first | refine Then.go hmix ?_ | refine Sat.go hmix ?_ | refine ResK.go ?_ | skip); conv => whnf
    by_cases hka : k < lv[i].2.add.length
    · obtain ⟨ra, rc, re, rh⟩ := hO.a
      obtain ⟨g2, o2, rfl, hg2, hat2⟩ := rh (by omega)
      injection re with re _ _
      have hat2 := at_mono hat2 (K1.trans0 hK2)
      have ct := at_txt hat2 hka
      refine KGO ?_
      rw [re]
      refine KGO ?_
      refine Num.any (fun zz hzz1 hzz2 _ => ?_) rfl
      refine KGO ?_
      exact ⟨(k + 1, zz), ⟨rfl, rfl, rfl, v_int (by simp), trivial⟩, ⟨hK2, by dsimp only; omega, hzz1, hzz2⟩, by dsimp only; omega⟩
    · refine KGO ?_
      have K3 := K1.trans0 hK2
      have hat2 := at_mono hat1 hK2
      clear hat1
      refine Loop.intro (ι := Nat × Int) (fun q => [(0, .slice (some ⟨gb, o, none⟩) lv.length cap), (3, .int .i64 q.2), (4, .int .i64 (i : Nat)), (6, .int .i64 (q.1 : Nat))])
        (fun q w3 => Keeps w2 w3 none_ ∧ q.1 ≤ lv[i].2.drop.length ∧ -9223372036854775808 ≤ q.2 ∧ q.2 ≤ 9223372036854775807) (fun q => lv[i].2.drop.length - q.1) (0, z1) ⟨rfl, rfl, rfl, rfl, trivial⟩ ⟨Keeps.refl _ _, Nat.zero_le _, hz1, hz2⟩ ?_
      clear hz1 hz2 hk hka
      rintro ⟨k, z1⟩ g1 w3 ⟨hK4, hk, hz1, hz2⟩
      dsimp only at hk hz1 hz2 ⊢
      (first | refine Then.go hmix ?_ | refine Sat.go hmix ?_ | refine ResK.go ?_ | skip); conv => whnf
      by_cases hka : k < lv[i].2.drop.length
      · obtain ⟨ra, rc, re, rh⟩ := hO.d
        obtain ⟨g2, o2, rfl, hg2, hat3⟩ := rh (by omega)
        injection re with re _ _
        have hat3 := at_mono hat3 (K3.trans0 hK4)
        have ct := at_txt hat3 hka
        refine KGO ?_
        rw [re]
        refine KGO ?_
        refine Num.any (fun zz hzz1 hzz2 _ => ?_) rfl
        refine KGO ?_
        exact ⟨(k + 1, zz), ⟨rfl, rfl, rfl, v_int (by simp), trivial⟩, ⟨hK4, by dsimp only; omega, hzz1, hzz2⟩, by dsimp only; omega⟩
      · refine KGO ?_
        exact ⟨(i + 1, z1), ⟨rfl, rfl, v_int (by simp), trivial⟩, ⟨K3.trans0 hK4, by dsimp only; omega, hz1, hz2⟩, by dsimp only; omega⟩
  · by_cases h40 : l.length ≤ 40
    · refine KGO ?_
      exact ⟨⟨_, rfl, fun _ => h40⟩, hK⟩
    · refine KGO ?_
      exact ⟨⟨_, rfl, fun h => by cases h⟩, hK⟩
end
end Go.Proofs.YtohhkegmbgancaaGreatDoor

-- alias Tryz
namespace Go.Proofs.YtohhkegmbgancaaGreatDoor
open Go.RowKit Go.Pw Go.Vc Go.Cs Go.Lib
set_option linter.unusedVariables false
set_option maxRecDepth 100000
theorem fullN_len {l : List Bx} (h : ∀ b ∈ l, b.name.length ≤ 100) : ∀ (n : Nat) (id : Int), (fullN l n id).length ≤ 101 * n
  | 0, id => by simp [fullN]
  | n + 1, id => by
    rw [fullN]
    cases hb : boxOf l id with
    | none => simp
    | some b =>
      obtain ⟨hm, rfl⟩ := boxOf_mem hb
      have h1 := h b hm
      have h2 := fullN_len h n b.up
      dsimp only
      split
      · rw [List.length_append, List.length_cons]; omega
      · omega
section
variable {w w' : World}
theorem bx_FullR {v : Value} (l : List Bx) (hr1 : rightL l = true) (hl : l.length ≤ 1000) (hs : SmallB l) : ∀ (d : Nat) (hd8 : d ≤ 8) (id : Int) (w : World), RowB w v l → BEnv w → Dep l d id →
    Calls Tryz.prog 15 #[v, .int .i64 id] w fun e w' => e = .returned (.string (str (fullN l d id))) ∧ Keeps w w' none_ := by
  intro d
  have hR := (rightL_iff l).1 hr1
  have hnl : ∀ b ∈ l, b.name.length ≤ 100 := fun b hb => ((named_iff _).1 (hR.named b hb)).2.1
  induction d with
  | zero =>
    intro hd8 id w hv hE hd
    have hd : id = 0 := hd
    have hv0 := hv
    obtain ⟨a, cap, rfl, hr⟩ := hv
    refine calls_of_vc (args := [.slice a l.length cap, .int .i64 id]) Tryz.func15 rfl (Nat.le_of_ble_eq_true rfl) ?_; refine Sat.go hmix ?_; conv => whnf
    refine CallS.of (Tryz.call43 _ _) (bx_search (w := w) l id hv0 (by omega)) ?_
    rintro e w1 ⟨k, q, rfl, hkl, hasc, k1⟩
    obtain ⟨rfl, rfl⟩ := hasc hR.asc
    have hno : hasId l id = false := by
      rw [Bool.eq_false_iff]
      exact fun h => by
        obtain ⟨c, hc, he⟩ := (hasId_iff _ _).1 h
        have := (hR.pos c hc).1
        omega
    rw [hno]
    refine ⟨_, rfl, ?_⟩; (first | refine Then.go hmix ?_ | refine Sat.go hmix ?_ | refine ResK.go ?_ | skip); conv => whnf
    refine KGO ?_
    refine CallS.of (Tryz.call44 _ _) (bx_Right (w := w1) l (hv0.keep k1) hl hs (hE.F.keep k1) (hE.T.keep k1) (hE.R.keep k1)) ?_
    rintro e w2 ⟨rfl, k2⟩
    rw [hr1]
    refine ⟨_, rfl, ?_⟩; (first | refine Then.go hmix ?_ | refine Sat.go hmix ?_ | refine ResK.go ?_ | skip); conv => whnf
    refine KGO ?_
    exact ⟨rfl, k1.trans0 k2⟩
  | succ d ih =>
    intro hd8 id w hv hE hd
    obtain ⟨h0, u, hu, hdu⟩ := hd
    have hv0 := hv
    obtain ⟨a, cap, rfl, hr⟩ := hv
    refine calls_of_vc (args := [.slice a l.length cap, .int .i64 id]) Tryz.func15 rfl (Nat.le_of_ble_eq_true rfl) ?_; refine Sat.go hmix ?_; conv => whnf
    refine CallS.of (Tryz.call43 _ _) (bx_search (w := w) l id hv0 (by omega)) ?_
    rintro e w1 ⟨k, q, rfl, hkl, hasc, k1⟩
    obtain ⟨rfl, rfl⟩ := hasc hR.asc
    cases hb : boxOf l id with
    | none => rw [boxOf_up, hb] at hu; cases hu
    | some b =>
      obtain ⟨hm, rfl⟩ := boxOf_mem hb
      obtain rfl : b.up = u := by rw [boxOf_up, hb] at hu; exact Option.some.inj hu
      rw [(hasId_iff l b.id).2 ⟨b, hm, rfl⟩]
      obtain ⟨hk1, hk2⟩ := idx_at hR.asc hm
      generalize idxL l b.id = k at *
      refine ⟨_, rfl, ?_⟩; (first | refine Then.go hmix ?_ | refine Sat.go hmix ?_ | refine ResK.go ?_ | skip); conv => whnf
      refine KGO ?_
      refine CallS.of (Tryz.call44 _ _) (bx_Right (w := w1) l (hv0.keep k1) hl hs (hE.F.keep k1) (hE.T.keep k1) (hE.R.keep k1)) ?_
      rintro e w2 ⟨rfl, k2⟩
      have K2 := k1.trans0 k2
      rw [hr1]
      refine ⟨_, rfl, ?_⟩; (first | refine Then.go hmix ?_ | refine Sat.go hmix ?_ | refine ResK.go ?_ | skip); conv => whnf
      obtain ⟨gb, o, rfl, hgb, hat⟩ := hr (by omega)
      refine KGO ?_
      rw [hk2]
      refine CallS.of (Tryz.call15 _ _) (ih (by omega) b.up w2 (hv0.keep K2) (hE.keep K2) hdu) ?_
      rintro e w3 ⟨rfl, k3⟩
      have K3 := K2.trans0 k3
      have hfl := fullN_len hnl d b.up
      have hbl := hnl b hm
      rw [fullN, hb]
      dsimp only
      generalize fullN l d b.up = f at *
      refine ⟨_, rfl, ?_⟩; (first | refine Then.go hmix ?_ | refine Sat.go hmix ?_ | refine ResK.go ?_ | skip); conv => whnf
      by_cases hf : f = []
      · have hfd : decide (str f = (⟨#[]⟩ : ByteArray)) = true := by rw [hf]; rfl
        refine KGO ?_
        rw [hk2, if_neg (fun h => h hf)]
        exact ⟨rfl, K3⟩
      · have hfd : decide (str f = (⟨#[]⟩ : ByteArray)) = false := decide_eq_false fun h => hf (by have := congrArg L h; rwa [L_str] at this)
        refine KGO ?_
        refine RunV.cat (by rw [str_size]; show _ + 1 ≤ _; omega) ?_
        rw [show str f ++ ⟨#[47]⟩ = str (f ++ [47]) from str_append f [47]]
        refine KGO ?_
        rw [hk2]
        refine RunV.cat (by rw [str_size, str_size, List.length_append, List.length_singleton]; omega) ?_
        refine KGO ?_
        rw [if_pos hf]
        refine ⟨?_, K3⟩
        rw [show f ++ 47 :: b.name = (f ++ [47]) ++ b.name by simp, str_append]
theorem bx_Full {v : Value} (l : List Bx) (id : Int) (hl : l.length ≤ 1000) (hs : SmallB l) (hv : RowB w v l) (hE : BEnv w) :
    Calls Tryz.prog 15 #[v, .int .i64 id] w fun e w' => e = .returned (.string (str (fullL l id))) ∧ Keeps w w' none_ := by
  by_cases h1 : rightL l = true
  · have hR := (rightL_iff l).1 h1
    by_cases h2 : hasId l id = true
    · obtain ⟨b, hm, rfl⟩ := (hasId_iff _ _).1 h2
      obtain ⟨hd, hd8⟩ := dep_up hR (.inr ⟨b, hm, rfl⟩)
      refine (bx_FullR l h1 hl hs _ hd8 b.id w hv hE hd).mono fun e w' ⟨h, k⟩ => ⟨?_, k⟩
      rw [h, fullL, if_pos h1, full_join hR, full_join hR, names_more hR _ _ ((dep_iff _ _ _ _).2 ⟨hd, Nat.le_refl _⟩) _ hd.len]
    · have hno : hasId l id = false := by simpa using h2
      have hv0 := hv
      obtain ⟨a, cap, rfl, hr⟩ := hv
      refine calls_of_vc (args := [.slice a l.length cap, .int .i64 id]) Tryz.func15 rfl (Nat.le_of_ble_eq_true rfl) ?_; refine Sat.go hmix ?_; conv => whnf
      refine CallS.of (Tryz.call43 _ _) (bx_search (w := w) l id hv0 (by omega)) ?_
      rintro e w1 ⟨k, q, rfl, hkl, hasc, k1⟩
      obtain ⟨rfl, rfl⟩ := hasc hR.asc
      rw [hno]
      refine ⟨_, rfl, ?_⟩; (first | refine Then.go hmix ?_ | refine Sat.go hmix ?_ | refine ResK.go ?_ | skip); conv => whnf
      refine KGO ?_
      refine CallS.of (Tryz.call44 _ _) (bx_Right (w := w1) l (hv0.keep k1) hl hs (hE.F.keep k1) (hE.T.keep k1) (hE.R.keep k1)) ?_
      rintro e w2 ⟨rfl, k2⟩
      rw [h1]
      refine ⟨_, rfl, ?_⟩; (first | refine Then.go hmix ?_ | refine Sat.go hmix ?_ | refine ResK.go ?_ | skip); conv => whnf
      refine KGO ?_
      refine ⟨?_, k1.trans0 k2⟩
      rw [fullL, if_pos h1, full_none hR fun b hb e => h2 ((hasId_iff _ _).2 ⟨b, hb, e⟩)]; rfl
  · have hv0 := hv
    obtain ⟨a, cap, rfl, hr⟩ := hv
    refine calls_of_vc (args := [.slice a l.length cap, .int .i64 id]) Tryz.func15 rfl (Nat.le_of_ble_eq_true rfl) ?_; refine Sat.go hmix ?_; conv => whnf
    refine CallS.of (Tryz.call43 _ _) (bx_search (w := w) l id hv0 (by omega)) ?_
    rintro e w1 ⟨k, q, rfl, hkl, hasc, k1⟩
    refine ⟨_, rfl, ?_⟩; (first | refine Then.go hmix ?_ | refine Sat.go hmix ?_ | refine ResK.go ?_ | skip); conv => whnf
    refine KGO ?_
    refine CallS.of (Tryz.call44 _ _) (bx_Right (w := w1) l (hv0.keep k1) hl hs (hE.F.keep k1) (hE.T.keep k1) (hE.R.keep k1)) ?_
    rintro e w2 ⟨rfl, k2⟩
    rw [show rightL l = false by simpa using h1]
    refine ⟨_, rfl, ?_⟩; (first | refine Then.go hmix ?_ | refine Sat.go hmix ?_ | refine ResK.go ?_ | skip); conv => whnf
    refine KGO ?_
    exact ⟨by rw [fullL, if_neg h1]; rfl, k1.trans0 k2⟩
end
end Go.Proofs.YtohhkegmbgancaaGreatDoor

-- alias Tryz
namespace Go.Proofs.YtohhkegmbgancaaGreatDoor
open Go.RowKit Go.Pw Go.Vc Go.Cs Go.Lib
set_option linter.unusedVariables false
set_option maxRecDepth 100000
section
end
end Go.Proofs.YtohhkegmbgancaaGreatDoor

-- alias Tryz
namespace Go.Proofs.YtohhkegmbgancaaGreatDoor
open Go.RowKit Go.Pw Go.Vc Go.Cs Go.Lib
set_option linter.unusedVariables false
set_option maxRecDepth 100000
theorem boxFields : ∃ a b c d, (Tryz.prog.fieldsOf 74).toList = [a, b, c, d] ∧ a.name ≠ "_" ∧ b.name ≠ "_" ∧ c.name ≠ "_" ∧ d.name ≠ "_" ∧ a.type = 3 ∧ b.type = 3 ∧ c.type = 9 ∧ d.type = 9 ∧ a.offset = 0 ∧ b.offset = 1 ∧ c.offset = 2 ∧ d.offset = 3 :=
  ⟨_, _, _, _, rfl, by decide, by decide, by decide, by decide, rfl, rfl, rfl, rfl, rfl, rfl, rfl, rfl⟩
theorem eq_box (x y : Bx) (w : World) : (Op.equalIn (9999 + 1) 74 (.agg (boxCells x).toArray) (.agg (boxCells y).toArray)).run Tryz.prog w = .ok (decide (x = y)) w := by
  rw [run_equalIn_agg w 9999 74 _ _ (by rfl) (by kernel_rfl)]
  obtain ⟨a, b, c, d, hf, na, nb, nc, nd, ta, tb, tc, td, oa, ob, oc, od⟩ := boxFields
  rw [hf]
  simp only [Op.eqFields, na, nb, nc, nd, ne_eq, not_false_eq_true, if_true, ta, tb, tc, td, oa, ob, oc, od]
  have p0 : (part 3 (boxCells x).toArray 0).run Tryz.prog w = .ok (.int .i64 x.id) w := by rfl
  have p1 : (part 3 (boxCells x).toArray 1).run Tryz.prog w = .ok (.int .i64 x.up) w := by rfl
  have p2 : (part 9 (boxCells x).toArray 2).run Tryz.prog w = .ok (.string (str x.name)) w := by rfl
  have p3 : (part 9 (boxCells x).toArray 3).run Tryz.prog w = .ok (.string (str x.role)) w := by rfl
  have q0 : (part 3 (boxCells y).toArray 0).run Tryz.prog w = .ok (.int .i64 y.id) w := by rfl
  have q1 : (part 3 (boxCells y).toArray 1).run Tryz.prog w = .ok (.int .i64 y.up) w := by rfl
  have q2 : (part 9 (boxCells y).toArray 2).run Tryz.prog w = .ok (.string (str y.name)) w := by rfl
  have q3 : (part 9 (boxCells y).toArray 3).run Tryz.prog w = .ok (.string (str y.role)) w := by rfl
  have i1 (a b : Int) : (Op.equalIn (9998 + 1) 3 (.int .i64 a) (.int .i64 b)).run Tryz.prog w = .ok (a == b) w := run_equalIn_int w 9998 3 .i64 .i64 a b (by rfl)
  have i2 (a b : ByteArray) : (Op.equalIn (9998 + 1) 9 (.string a) (.string b)).run Tryz.prog w = .ok (a.toList == b.toList) w := run_equalIn_string w 9998 9 a b (by rfl)
  simp only [Sem.run_bind, Sem.run_ite, p0, p1, p2, p3, q0, q1, q2, q3, i1, i2, Result.andThen_ok]
  obtain ⟨x1, x2, x3, x4⟩ := x
  obtain ⟨y1, y2, y3, y4⟩ := y
  dsimp only
  rw [str_beq, str_beq]
  by_cases h1 : x1 = y1 <;> by_cases h2 : x2 = y2 <;> by_cases h3 : x3 = y3 <;> by_cases h4 : x4 = y4 <;> simp [h1, h2, h3, h4]
theorem box_neq (x y : Bx) (a b : Operand) {K : Value → World → Prop} {w : World} (k : K (.bool (!decide (x = y))) w) :
    RunV Tryz.prog (do eqGuard .neq 74 a b (.agg (boxCells x).toArray) (.agg (boxCells y).toArray); binOp .neq 74 (.agg (boxCells x).toArray) (.agg (boxCells y).toArray)) w K := by
  refine RunV.of ?_ k
  rw [Sem.run_bind, run_eqGuard_agg w .neq 74 a b _ _ (by kernel_rfl), Result.andThen_ok, run_neq_struct]
  rw [show (10000 : Nat) = 9999 + 1 from rfl, eq_box]
  rfl
section
end
end Go.Proofs.YtohhkegmbgancaaGreatDoor
