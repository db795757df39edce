/- Helper text of this claim: Ag3, Ae9: lemmas and contracts that the proved statement rests on; no conditions of its own. -/
import Derived.Test.YtohhkegmbgancaaGreatDoorGAg2
import Derived.Test.YtohhkegmbgancaaGreatDoorGAe4
-- alias Tryz
namespace Go.Proofs.YtohhkegmbgancaaGreatDoor
open Go.RowKit Go.Pw Go.Vc Go.Cs Go.Lib
set_option linter.unusedVariables false
set_option maxRecDepth 100000
theorem fldsSrc : ∃ a b, (Tryz.prog.fieldsOf 76).toList = [a, b] ∧ a.name ≠ "_" ∧ b.name ≠ "_" ∧ a.type = 9 ∧ b.type = 9 ∧ a.offset = 0 ∧ b.offset = 1 :=
  ⟨_, _, rfl, by decide, by decide, rfl, rfl, rfl, rfl⟩
theorem eqlSrc (x y : Sc) (w : World) : (Op.equalIn (9999 + 1) 76 (.agg (srcC x).toArray) (.agg (srcC y).toArray)).run Tryz.prog w = .ok (decide (x = y)) w := by
  rw [run_equalIn_agg w 9999 76 _ _ (by rfl) (by kernel_rfl)]
  obtain ⟨a, b, hf, na, nb, ta, tb, oa, ob⟩ := fldsSrc
  rw [hf]
  simp only [Op.eqFields, na, nb, ne_eq, not_false_eq_true, if_true, ta, tb, oa, ob]
  have p0 : (part 9 (srcC x).toArray 0).run Tryz.prog w = .ok (.string (str x.name)) w := by rfl
  have p1 : (part 9 (srcC x).toArray 1).run Tryz.prog w = .ok (.string (str x.text)) w := by rfl
  have q0 : (part 9 (srcC y).toArray 0).run Tryz.prog w = .ok (.string (str y.name)) w := by rfl
  have q1 : (part 9 (srcC y).toArray 1).run Tryz.prog w = .ok (.string (str y.text)) w := by rfl
  have i1 (a b : Int) : (Op.equalIn (9998 + 1) 3 (.int .i64 a) (.int .i64 b)).run Tryz.prog w = .ok (a == b) w := run_equalIn_int w 9998 3 .i64 .i64 a b (by rfl)
  have i2 (a b : ByteArray) : (Op.equalIn (9998 + 1) 9 (.string a) (.string b)).run Tryz.prog w = .ok (a.toList == b.toList) w := run_equalIn_string w 9998 9 a b (by rfl)
  simp only [Sem.run_bind, Sem.run_ite, p0, q0, p1, q1, i2, Result.andThen_ok]
  obtain ⟨x0, x1⟩ := x
  obtain ⟨y0, y1⟩ := y
  dsimp only
  rw [str_beq]; rw [str_beq]
  by_cases h0 : x0 = y0 <;> by_cases h1 : x1 = y1 <;> simp [h0, h1]
theorem neqSrc (x y : Sc) (a b : Operand) {K : Value → World → Prop} {w : World} (k : K (.bool (!decide (x = y))) w) :
    RunV Tryz.prog (do eqGuard .neq 76 a b (.agg (srcC x).toArray) (.agg (srcC y).toArray); binOp .neq 76 (.agg (srcC x).toArray) (.agg (srcC y).toArray)) w K := by
  refine RunV.of ?_ k
  rw [Sem.run_bind, run_eqGuard_agg w .neq 76 a b _ _ (by kernel_rfl), Result.andThen_ok, run_neq_struct]
  rw [show (10000 : Nat) = 9999 + 1 from rfl, eqlSrc]
  rfl
theorem fldsSn : ∃ a b, (Tryz.prog.fieldsOf 78).toList = [a, b] ∧ a.name ≠ "_" ∧ b.name ≠ "_" ∧ a.type = 9 ∧ b.type = 3 ∧ a.offset = 0 ∧ b.offset = 1 :=
  ⟨_, _, rfl, by decide, by decide, rfl, rfl, rfl, rfl⟩
theorem eqlSn (x y : Sn) (w : World) : (Op.equalIn (9999 + 1) 78 (.agg (snC x).toArray) (.agg (snC y).toArray)).run Tryz.prog w = .ok (decide (x = y)) w := by
  rw [run_equalIn_agg w 9999 78 _ _ (by rfl) (by kernel_rfl)]
  obtain ⟨a, b, hf, na, nb, ta, tb, oa, ob⟩ := fldsSn
  rw [hf]
  simp only [Op.eqFields, na, nb, ne_eq, not_false_eq_true, if_true, ta, tb, oa, ob]
  have p0 : (part 9 (snC x).toArray 0).run Tryz.prog w = .ok (.string (str x.key)) w := by rfl
  have p1 : (part 3 (snC x).toArray 1).run Tryz.prog w = .ok (.int .i64 x.at_) w := by rfl
  have q0 : (part 9 (snC y).toArray 0).run Tryz.prog w = .ok (.string (str y.key)) w := by rfl
  have q1 : (part 3 (snC y).toArray 1).run Tryz.prog w = .ok (.int .i64 y.at_) w := by rfl
  have i1 (a b : Int) : (Op.equalIn (9998 + 1) 3 (.int .i64 a) (.int .i64 b)).run Tryz.prog w = .ok (a == b) w := run_equalIn_int w 9998 3 .i64 .i64 a b (by rfl)
  have i2 (a b : ByteArray) : (Op.equalIn (9998 + 1) 9 (.string a) (.string b)).run Tryz.prog w = .ok (a.toList == b.toList) w := run_equalIn_string w 9998 9 a b (by rfl)
  simp only [Sem.run_bind, Sem.run_ite, p0, q0, p1, q1, i1, i2, Result.andThen_ok]
  obtain ⟨x0, x1⟩ := x
  obtain ⟨y0, y1⟩ := y
  dsimp only
  rw [str_beq]
  by_cases h0 : x0 = y0 <;> by_cases h1 : x1 = y1 <;> simp [h0, h1]
theorem neqSn (x y : Sn) (a b : Operand) {K : Value → World → Prop} {w : World} (k : K (.bool (!decide (x = y))) w) :
    RunV Tryz.prog (do eqGuard .neq 78 a b (.agg (snC x).toArray) (.agg (snC y).toArray); binOp .neq 78 (.agg (snC x).toArray) (.agg (snC y).toArray)) w K := by
  refine RunV.of ?_ k
  rw [Sem.run_bind, run_eqGuard_agg w .neq 78 a b _ _ (by kernel_rfl), Result.andThen_ok, run_neq_struct]
  rw [show (10000 : Nat) = 9999 + 1 from rfl, eqlSn]
  rfl
set_option maxHeartbeats 2000000 in
theorem eqs_Src {w : World} {va vb : Value} (la lb : List Sc) (ha : RowO w va srcC la) (hb : RowO w vb srcC lb) (hl : la.length ≤ 1000000) :
    Calls Tryz.prog 51 #[va, vb] w fun e w' => e = .returned (.bool (decide (la = lb))) ∧ Keeps w w' none_ := by
  obtain ⟨a, ca, rfl, hra⟩ := ha
  obtain ⟨b, cb, rfl, hrb⟩ := hb
  refine calls_of_vc (args := [.slice a la.length ca, .slice b lb.length cb]) Tryz.func51 rfl (Nat.le_of_ble_eq_true rfl) ?_; refine Sat.go hmix ?_; conv => whnf
  by_cases hn : la.length = lb.length
  rotate_left
  · refine KGO ?_
    refine ⟨ret_bool ?_, Keeps.refl _ _⟩
    exact (decide_eq_false fun h => hn (by rw [h])).symm
  refine KGO ?_
  refine Loop.intro (ι := Nat) (fun i => [(0, .slice a la.length ca), (1, .slice b lb.length cb), (12, .int .i64 (la.length : Nat)), (13, .int .i64 (i : Nat))])
    (fun i wr => Keeps w wr none_ ∧ i ≤ la.length ∧ la.take i = lb.take i) (fun i => la.length - i) 0 ⟨rfl, rfl, rfl, rfl, trivial⟩ ⟨Keeps.refl _ _, Nat.zero_le _, rfl⟩ ?_
  rintro i gg wr ⟨hK, hi, ht⟩
  (first | refine Then.go hmix ?_ | refine Sat.go hmix ?_ | refine ResK.go ?_ | skip); conv => whnf
  by_cases hlt : i < la.length
  · have hlt2 : i < lb.length := by omega
    obtain ⟨ga, oa, rfl, hga, hata⟩ := hra (by omega)
    obtain ⟨gb, ob, rfl, hgb, hatb⟩ := hrb (by omega)
    refine KGO ?_
    refine neqSrc _ _ _ _ ?_
    by_cases he : la[i] = lb[i]
    · rw [decide_eq_true he]
      refine KGO ?_
      exact ⟨i + 1, ⟨rfl, rfl, rfl, v_int (by simp), trivial⟩, ⟨hK.drew, by omega, by rw [List.take_succ_eq_append_getElem hlt, List.take_succ_eq_append_getElem hlt2, ht, he]⟩, by dsimp only; omega⟩
    · rw [decide_eq_false he]
      refine KGO ?_
      exact ⟨ret_bool (decide_eq_false fun h => he (by simp [h])).symm, hK.drew⟩
  · refine KGO ?_
    refine ⟨ret_bool ?_, hK⟩
    have e : i = la.length := by omega
    rw [e, List.take_length, hn, List.take_length] at ht
    simp [ht]
set_option maxHeartbeats 2000000 in
theorem eqs_Sn {w : World} {va vb : Value} (la lb : List Sn) (ha : RowO w va snC la) (hb : RowO w vb snC lb) (hl : la.length ≤ 1000000) :
    Calls Tryz.prog 52 #[va, vb] w fun e w' => e = .returned (.bool (decide (la = lb))) ∧ Keeps w w' none_ := by
  obtain ⟨a, ca, rfl, hra⟩ := ha
  obtain ⟨b, cb, rfl, hrb⟩ := hb
  refine calls_of_vc (args := [.slice a la.length ca, .slice b lb.length cb]) Tryz.func52 rfl (Nat.le_of_ble_eq_true rfl) ?_; refine Sat.go hmix ?_; conv => whnf
  by_cases hn : la.length = lb.length
  rotate_left
  · refine KGO ?_
    refine ⟨ret_bool ?_, Keeps.refl _ _⟩
    exact (decide_eq_false fun h => hn (by rw [h])).symm
  refine KGO ?_
  refine Loop.intro (ι := Nat) (fun i => [(0, .slice a la.length ca), (1, .slice b lb.length cb), (12, .int .i64 (la.length : Nat)), (13, .int .i64 (i : Nat))])
    (fun i wr => Keeps w wr none_ ∧ i ≤ la.length ∧ la.take i = lb.take i) (fun i => la.length - i) 0 ⟨rfl, rfl, rfl, rfl, trivial⟩ ⟨Keeps.refl _ _, Nat.zero_le _, rfl⟩ ?_
  rintro i gg wr ⟨hK, hi, ht⟩
  (first | refine Then.go hmix ?_ | refine Sat.go hmix ?_ | refine ResK.go ?_ | skip); conv => whnf
  by_cases hlt : i < la.length
  · have hlt2 : i < lb.length := by omega
    obtain ⟨ga, oa, rfl, hga, hata⟩ := hra (by omega)
    obtain ⟨gb, ob, rfl, hgb, hatb⟩ := hrb (by omega)
    refine KGO ?_
    refine neqSn _ _ _ _ ?_
    by_cases he : la[i] = lb[i]
    · rw [decide_eq_true he]
      refine KGO ?_
      exact ⟨i + 1, ⟨rfl, rfl, rfl, v_int (by simp), trivial⟩, ⟨hK.drew, by omega, by rw [List.take_succ_eq_append_getElem hlt, List.take_succ_eq_append_getElem hlt2, ht, he]⟩, by dsimp only; omega⟩
    · rw [decide_eq_false he]
      refine KGO ?_
      exact ⟨ret_bool (decide_eq_false fun h => he (by simp [h])).symm, hK.drew⟩
  · refine KGO ?_
    refine ⟨ret_bool ?_, hK⟩
    have e : i = la.length := by omega
    rw [e, List.take_length, hn, List.take_length] at ht
    simp [ht]
set_option maxHeartbeats 2000000 in
theorem eqs_Box {w : World} {va vb : Value} (la lb : List Bx) (ha : RowO w va boxCells la) (hb : RowO w vb boxCells lb) (hl : la.length ≤ 1000000) :
    Calls Tryz.prog 48 #[va, vb] w fun e w' => e = .returned (.bool (decide (la = lb))) ∧ Keeps w w' none_ := by
  obtain ⟨a, ca, rfl, hra⟩ := ha
  obtain ⟨b, cb, rfl, hrb⟩ := hb
  refine calls_of_vc (args := [.slice a la.length ca, .slice b lb.length cb]) Tryz.func48 rfl (Nat.le_of_ble_eq_true rfl) ?_; refine Sat.go hmix ?_; conv => whnf
  by_cases hn : la.length = lb.length
  rotate_left
  · refine KGO ?_
    refine ⟨ret_bool ?_, Keeps.refl _ _⟩
    exact (decide_eq_false fun h => hn (by rw [h])).symm
  refine KGO ?_
  refine Loop.intro (ι := Nat) (fun i => [(0, .slice a la.length ca), (1, .slice b lb.length cb), (12, .int .i64 (la.length : Nat)), (13, .int .i64 (i : Nat))])
    (fun i wr => Keeps w wr none_ ∧ i ≤ la.length ∧ la.take i = lb.take i) (fun i => la.length - i) 0 ⟨rfl, rfl, rfl, rfl, trivial⟩ ⟨Keeps.refl _ _, Nat.zero_le _, rfl⟩ ?_
  rintro i gg wr ⟨hK, hi, ht⟩
  (first | refine Then.go hmix ?_ | refine Sat.go hmix ?_ | refine ResK.go ?_ | skip); conv => whnf
  by_cases hlt : i < la.length
  · have hlt2 : i < lb.length := by omega
    obtain ⟨ga, oa, rfl, hga, hata⟩ := hra (by omega)
    obtain ⟨gb, ob, rfl, hgb, hatb⟩ := hrb (by omega)
    refine KGO ?_
    refine box_neq _ _ _ _ ?_
    by_cases he : la[i] = lb[i]
    · rw [decide_eq_true he]
      refine KGO ?_
      exact ⟨i + 1, ⟨rfl, rfl, rfl, v_int (by simp), trivial⟩, ⟨hK.drew, by omega, by rw [List.take_succ_eq_append_getElem hlt, List.take_succ_eq_append_getElem hlt2, ht, he]⟩, by dsimp only; omega⟩
    · rw [decide_eq_false he]
      refine KGO ?_
      exact ⟨ret_bool (decide_eq_false fun h => he (by simp [h])).symm, hK.drew⟩
  · refine KGO ?_
    refine ⟨ret_bool ?_, hK⟩
    have e : i = la.length := by omega
    rw [e, List.take_length, hn, List.take_length] at ht
    simp [ht]
set_option maxHeartbeats 2000000 in
theorem eqs_I {w : World} {va vb : Value} (la lb : List Int) (ha : RowO w va inC la) (hb : RowO w vb inC lb) (hl : la.length ≤ 1000000) :
    Calls Tryz.prog 117 #[va, vb] w fun e w' => e = .returned (.bool (decide (la = lb))) ∧ Keeps w w' none_ := by
  obtain ⟨a, ca, rfl, hra⟩ := ha
  obtain ⟨b, cb, rfl, hrb⟩ := hb
  refine calls_of_vc (args := [.slice a la.length ca, .slice b lb.length cb]) Tryz.func117 rfl (Nat.le_of_ble_eq_true rfl) ?_; refine Sat.go hmix ?_; conv => whnf
  by_cases hn : la.length = lb.length
  rotate_left
  · refine KGO ?_
    refine ⟨ret_bool ?_, Keeps.refl _ _⟩
    exact (decide_eq_false fun h => hn (by rw [h])).symm
  refine KGO ?_
  refine Loop.intro (ι := Nat) (fun i => [(0, .slice a la.length ca), (1, .slice b lb.length cb), (12, .int .i64 (la.length : Nat)), (13, .int .i64 (i : Nat))])
    (fun i wr => Keeps w wr none_ ∧ i ≤ la.length ∧ la.take i = lb.take i) (fun i => la.length - i) 0 ⟨rfl, rfl, rfl, rfl, trivial⟩ ⟨Keeps.refl _ _, Nat.zero_le _, rfl⟩ ?_
  rintro i gg wr ⟨hK, hi, ht⟩
  (first | refine Then.go hmix ?_ | refine Sat.go hmix ?_ | refine ResK.go ?_ | skip); conv => whnf
  by_cases hlt : i < la.length
  · have hlt2 : i < lb.length := by omega
    obtain ⟨ga, oa, rfl, hga, hata⟩ := hra (by omega)
    obtain ⟨gb, ob, rfl, hgb, hatb⟩ := hrb (by omega)
    have hca := at_int hata hlt
    have hcb := at_int hatb hlt2
    by_cases he : la[i] = lb[i]
    · refine KGO ?_
      exact ⟨i + 1, ⟨rfl, rfl, rfl, v_int (by simp), trivial⟩, ⟨hK.drew, by omega, by rw [List.take_succ_eq_append_getElem hlt, List.take_succ_eq_append_getElem hlt2, ht, he]⟩, by dsimp only; omega⟩
    · refine KGO ?_
      exact ⟨ret_bool (decide_eq_false fun h => he (by simp [h])).symm, hK.drew⟩
  · refine KGO ?_
    refine ⟨ret_bool ?_, hK⟩
    have e : i = la.length := by omega
    rw [e, List.take_length, hn, List.take_length] at ht
    simp [ht]
set_option maxHeartbeats 2000000 in
theorem eqs_T {w : World} {va vb : Value} (la lb : List (List UInt8)) (ha : RowO w va txC la) (hb : RowO w vb txC lb) (hl : la.length ≤ 1000000) :
    Calls Tryz.prog 118 #[va, vb] w fun e w' => e = .returned (.bool (decide (la = lb))) ∧ Keeps w w' none_ := by
  obtain ⟨a, ca, rfl, hra⟩ := ha
  obtain ⟨b, cb, rfl, hrb⟩ := hb
  refine calls_of_vc (args := [.slice a la.length ca, .slice b lb.length cb]) Tryz.func118 rfl (Nat.le_of_ble_eq_true rfl) ?_; refine Sat.go hmix ?_; conv => whnf
  by_cases hn : la.length = lb.length
  rotate_left
  · refine KGO ?_
    refine ⟨ret_bool ?_, Keeps.refl _ _⟩
    exact (decide_eq_false fun h => hn (by rw [h])).symm
  refine KGO ?_
  refine Loop.intro (ι := Nat) (fun i => [(0, .slice a la.length ca), (1, .slice b lb.length cb), (12, .int .i64 (la.length : Nat)), (13, .int .i64 (i : Nat))])
    (fun i wr => Keeps w wr none_ ∧ i ≤ la.length ∧ la.take i = lb.take i) (fun i => la.length - i) 0 ⟨rfl, rfl, rfl, rfl, trivial⟩ ⟨Keeps.refl _ _, Nat.zero_le _, rfl⟩ ?_
  rintro i gg wr ⟨hK, hi, ht⟩
  (first | refine Then.go hmix ?_ | refine Sat.go hmix ?_ | refine ResK.go ?_ | skip); conv => whnf
  by_cases hlt : i < la.length
  · have hlt2 : i < lb.length := by omega
    obtain ⟨ga, oa, rfl, hga, hata⟩ := hra (by omega)
    obtain ⟨gb, ob, rfl, hgb, hatb⟩ := hrb (by omega)
    have hca := at_txt hata hlt
    have hcb := at_txt hatb hlt2
    by_cases he : la[i] = lb[i]
    · have hd : str la[i] = str lb[i] := by rw [he]
      refine KGO ?_
      exact ⟨i + 1, ⟨rfl, rfl, rfl, v_int (by simp), trivial⟩, ⟨hK.drew, by omega, by rw [List.take_succ_eq_append_getElem hlt, List.take_succ_eq_append_getElem hlt2, ht, he]⟩, by dsimp only; omega⟩
    · have hd : ¬ str la[i] = str lb[i] := fun h => he ((str_eq _ _).1 h)
      refine KGO ?_
      exact ⟨ret_bool (decide_eq_false fun h => he (by simp [h])).symm, hK.drew⟩
  · refine KGO ?_
    refine ⟨ret_bool ?_, hK⟩
    have e : i = la.length := by omega
    rw [e, List.take_length, hn, List.take_length] at ht
    simp [ht]
end Go.Proofs.YtohhkegmbgancaaGreatDoor

-- alias Tryz
namespace Go.Proofs.YtohhkegmbgancaaGreatDoor
open Go.Shelf Go.RowKit Go.Pw Go.Vc Go.Cs Go.Lib
set_option linter.unusedVariables false
set_option maxRecDepth 100000
section
variable {w : World}
theorem ml_eq {x y : Ml} : x = y ↔ x.id = y.id ∧ x.blob = y.blob ∧ x.boxes = y.boxes ∧ x.flags = y.flags ∧ x.at_ = y.at_ ∧ x.size = y.size ∧ x.mod = y.mod := by
  cases x; cases y; simp
set_option maxHeartbeats 4000000 in
theorem ac_sameMail (x y : Mr) (hx : MailOk w x) (hy : MailOk w y) (h1 : x.m.boxes.length ≤ 1000000) (h2 : x.m.flags.length ≤ 1000000) :
    Calls Tryz.prog 50 #[.agg (mrC x).toArray, .agg (mrC y).toArray] w fun e w' => e = .returned (.bool (decide (x.m = y.m))) ∧ Keeps w w' none_ := by
  have hmm := ml_eq (x := x.m) (y := y.m)
  refine calls_of_vc (args := [.agg (mrC x).toArray, .agg (mrC y).toArray]) Tryz.func50 rfl (Nat.le_of_ble_eq_true rfl) ?_; refine Sat.go hmix ?_; conv => whnf
  have a_b1 := at_fresh w 42 (mrC x)
  have v_b1 := VarK.new w 42 (mrC x)
  have k_w1 : Keeps w (w.alloc (.cells (List.toArray (mrC x)) 42)) none_ := (Keeps.refl _ _).alloc _
  have z_w1 : (w.alloc (.cells (List.toArray (mrC x)) 42)).heap.size = w.heap.size + 1 := by simp
  generalize w.alloc (.cells (List.toArray (mrC x)) 42) = w1 at *
  generalize hs_b1 : w.heap.size = b1 at *
  have r_w1 : Keeps w1 w1 none_ := Keeps.refl _ _
  have a_b2 := at_fresh w1 42 (mrC y)
  have v_b2 := VarK.new w1 42 (mrC y)
  have k_w2 : Keeps w1 (w1.alloc (.cells (List.toArray (mrC y)) 42)) none_ := (Keeps.refl _ _).alloc _
  have z_w2 : (w1.alloc (.cells (List.toArray (mrC y)) 42)).heap.size = w1.heap.size + 1 := by simp
  generalize w1.alloc (.cells (List.toArray (mrC y)) 42) = w2 at *
  generalize hs_b2 : w1.heap.size = b2 at *
  have r_w2 : Keeps w2 w2 none_ := Keeps.refl _ _
  have K2 : Keeps w w2 none_ := k_w1.trans0 k_w2
  have a1 := at_mono a_b1 k_w2
  have a2 := a_b2
  have d1 := dg_at a1
  have d2 := dg_at a2
  have kr2 : Keeps w2 w2 none_ := Keeps.refl _ _
  by_cases c1 : x.m.id = y.m.id
  rotate_left
  · refine KGO ?_
    exact ⟨ret_bool (decide_eq_false fun h => c1 (hmm.1 h).1).symm, K2⟩
  refine KGO ?_
  refine dg_eql _ _ _ _ ?_
  by_cases c2 : x.m.blob = y.m.blob
  rotate_left
  · rw [decide_eq_false c2]
    refine KGO ?_
    exact ⟨ret_bool (decide_eq_false fun h => c2 (hmm.1 h).2.1).symm, K2⟩
  rw [decide_eq_true c2]
  refine KGO ?_
  refine CallS.of (Tryz.call117 _ _) (eqs_I (w := w2) x.m.boxes y.m.boxes (hx.b.keep K2) (hy.b.keep K2) h1) ?_
  rintro e w3 ⟨rfl, k3⟩
  have K3 := K2.trans0 k3
  have a13 := at_mono a1 k3
  have a23 := at_mono a2 k3
  have kr3 : Keeps w3 w3 none_ := Keeps.refl _ _
  refine ⟨_, rfl, ?_⟩; (first | refine Then.go hmix ?_ | refine Sat.go hmix ?_ | refine ResK.go ?_ | skip); conv => whnf
  by_cases c3 : x.m.boxes = y.m.boxes
  rotate_left
  · rw [decide_eq_false c3]
    refine KGO ?_
    exact ⟨ret_bool (decide_eq_false fun h => c3 (hmm.1 h).2.2.1).symm, K3⟩
  rw [decide_eq_true c3]
  refine KGO ?_
  refine CallS.of (Tryz.call118 _ _) (eqs_T (w := w3) x.m.flags y.m.flags (hx.f.keep K3) (hy.f.keep K3) h2) ?_
  rintro e w4 ⟨rfl, k4⟩
  have K4 := K3.trans0 k4
  have a14 := at_mono a13 k4
  have a24 := at_mono a23 k4
  have kr4 : Keeps w4 w4 none_ := Keeps.refl _ _
  refine ⟨_, rfl, ?_⟩; (first | refine Then.go hmix ?_ | refine Sat.go hmix ?_ | refine ResK.go ?_ | skip); conv => whnf
  by_cases c4 : x.m.flags = y.m.flags
  rotate_left
  · rw [decide_eq_false c4]
    refine KGO ?_
    exact ⟨ret_bool (decide_eq_false fun h => c4 (hmm.1 h).2.2.2.1).symm, K4⟩
  rw [decide_eq_true c4]
  by_cases c5 : x.m.at_ = y.m.at_
  rotate_left
  · refine KGO ?_
    exact ⟨ret_bool (decide_eq_false fun h => c5 (hmm.1 h).2.2.2.2.1).symm, K4⟩
  by_cases c6 : x.m.size = y.m.size
  rotate_left
  · refine KGO ?_
    exact ⟨ret_bool (decide_eq_false fun h => c6 (hmm.1 h).2.2.2.2.2.1).symm, K4⟩
  refine KGO ?_
  exact ⟨ret_bool (by rw [Bool.eq_iff_iff, beq_iff_eq, decide_eq_true_eq]; exact ⟨fun h => hmm.2 ⟨c1, c2, c3, c4, c5, c6, h⟩, fun h => (hmm.1 h).2.2.2.2.2.2⟩), K4⟩
set_option maxHeartbeats 4000000 in
theorem eqf_Ml {va vb : Value} (la lb : List Mr) (ha : RowMr w va la) (hb : RowMr w vb lb) (oa : ∀ x ∈ la, MailOk w x) (ob : ∀ x ∈ lb, MailOk w x) (hl : la.length ≤ 1000000) (hx : ∀ x ∈ la, x.m.boxes.length ≤ 1000000 ∧ x.m.flags.length ≤ 1000000) :
    Calls Tryz.prog 49 #[va, vb, fv 50] w fun e w' => e = .returned (.bool (decide (la.map (·.m) = lb.map (·.m)))) ∧ Keeps w w' none_ := by
  obtain ⟨a, ca, rfl, hra⟩ := ha
  obtain ⟨b, cb, rfl, hrb⟩ := hb
  refine calls_of_vc (args := [.slice a la.length ca, .slice b lb.length cb, fv 50]) Tryz.func49 rfl (Nat.le_of_ble_eq_true rfl) ?_; refine Sat.go hmix ?_; conv => whnf
  by_cases hn : la.length = lb.length
  rotate_left
  · refine KGO ?_
    refine ⟨ret_bool ?_, Keeps.refl _ _⟩
    exact (decide_eq_false fun h => hn (by have := congrArg List.length h; simpa using this)).symm
  refine KGO ?_
  refine Loop.intro (ι := Nat) (fun i => [(0, .slice a la.length ca), (1, .slice b lb.length cb), (2, fv 50), (15, .slice a la.length ca), (16, .int .i64 (la.length : Nat)), (17, .int .i64 (i : Nat))])
    (fun i wr => Keeps w wr none_ ∧ i ≤ la.length ∧ (la.map (·.m)).take i = (lb.map (·.m)).take i) (fun i => la.length - i) 0 ⟨rfl, rfl, rfl, rfl, rfl, rfl, trivial⟩ ⟨Keeps.refl _ _, Nat.zero_le _, rfl⟩ ?_
  rintro i gg wr ⟨hK, hi, ht⟩
  (first | refine Then.go hmix ?_ | refine Sat.go hmix ?_ | refine ResK.go ?_ | skip); conv => whnf
  by_cases hlt : i < la.length
  · have hlt2 : i < lb.length := by omega
    obtain ⟨ga, oga, rfl, hga, hata⟩ := hra (by omega)
    obtain ⟨gb, ogb, rfl, hgb, hatb⟩ := hrb (by omega)
    refine KGO ?_
    refine Store.fresh (vs := mrC la[i]) (by rfl) rfl (flat_of (by rfl)) ?_
    have a_b4 := at_fresh wr 42 (mrC la[i])
    have k_w4 : Keeps wr (wr.alloc (.cells (List.toArray (mrC la[i])) 42)) none_ := (Keeps.refl _ _).alloc _
    have z_w4 : (wr.alloc (.cells (List.toArray (mrC la[i])) 42)).heap.size = wr.heap.size + 1 := by simp
    generalize wr.alloc (.cells (List.toArray (mrC la[i])) 42) = w4 at *
    generalize hs_b4 : wr.heap.size = b4 at *
    have K4 := hK.trans0 k_w4
    refine KGO ?_
    refine Store.fresh (vs := mrC lb[i]) (by rfl) rfl (flat_of (by rfl)) ?_
    have a_b5 := at_fresh w4 42 (mrC lb[i])
    have k_w5 : Keeps w4 (w4.alloc (.cells (List.toArray (mrC lb[i])) 42)) none_ := (Keeps.refl _ _).alloc _
    have z_w5 : (w4.alloc (.cells (List.toArray (mrC lb[i])) 42)).heap.size = w4.heap.size + 1 := by simp
    generalize w4.alloc (.cells (List.toArray (mrC lb[i])) 42) = w5 at *
    generalize hs_b5 : w4.heap.size = b5 at *
    have K5 := K4.trans0 k_w5
    have a45 := at_mono a_b4 k_w5
    have kr5 : Keeps w5 w5 none_ := Keeps.refl _ _
    refine KGO ?_
    refine CallS.of (Tryz.call50 _ _) (ac_sameMail (w := w5) la[i] lb[i] ((oa _ (List.getElem_mem hlt)).keep K5) ((ob _ (List.getElem_mem hlt2)).keep K5) (hx _ (List.getElem_mem hlt)).1 (hx _ (List.getElem_mem hlt)).2) ?_
    rintro e w6 ⟨rfl, k6⟩
    have K6 := K5.trans0 k6
    refine ⟨_, rfl, ?_⟩; (first | refine Then.go hmix ?_ | refine Sat.go hmix ?_ | refine ResK.go ?_ | skip); conv => whnf
    by_cases he : la[i].m = lb[i].m
    · rw [decide_eq_true he]
      refine KGO ?_
      exact ⟨i + 1, ⟨rfl, rfl, rfl, rfl, rfl, v_int (by simp), trivial⟩, ⟨K6, by omega, by rw [List.take_succ_eq_append_getElem (by simpa using hlt), List.take_succ_eq_append_getElem (by simpa using hlt2), ht, List.getElem_map, List.getElem_map, he]⟩, by dsimp only; omega⟩
    · rw [decide_eq_false he]
      refine KGO ?_
      refine ⟨ret_bool (decide_eq_false fun h => he ?_).symm, K6⟩
      have h1 : (la.map (·.m))[i]? = (lb.map (·.m))[i]? := by rw [h]
      rw [List.getElem?_map, List.getElem?_map, List.getElem?_eq_getElem hlt, List.getElem?_eq_getElem hlt2] at h1
      injection h1
  · refine KGO ?_
    refine ⟨ret_bool ?_, hK⟩
    have e : i = la.length := by omega
    rw [List.take_of_length_le (by simp; omega), List.take_of_length_le (by simp; omega)] at ht
    rw [ht]; simp
set_option maxHeartbeats 8000000 in
theorem ac_Same {h h' : Hd} {A A' : Acc} (hr : AccR w h A) (hr' : AccR w h' A') (f : Fit A) :
    Calls Tryz.prog 21 #[.agg (accC h A).toArray, .agg (accC h' A').toArray] w fun e w' => e = .returned (.bool (decide (A = A'))) ∧ Keeps w w' none_ := by
  obtain ⟨lx, hlx, hmx, hox⟩ := hr.m
  obtain ⟨ly, hly, hmy, hoy⟩ := hr'.m
  have hll : lx.length = A.mails.length := by rw [← hlx, List.length_map]
  have hacc : A = A' ↔ A.boxes = A'.boxes ∧ A.mails = A'.mails ∧ A.scripts = A'.scripts ∧ A.active = A'.active ∧ A.seen = A'.seen ∧ A.nm = A'.nm ∧ A.nb = A'.nb ∧ A.st = A'.st := by
    cases A; cases A'; simp
  have f1 := f.bl; have f2 := f.ml; have f3 := f.sl; have f4 := f.nl
  refine calls_of_vc (args := [.agg (accC h A).toArray, .agg (accC h' A').toArray]) Tryz.func21 rfl (Nat.le_of_ble_eq_true rfl) ?_; refine Sat.go hmix ?_; conv => whnf
  have a_b1 := at_fresh w 36 (accC h A)
  have v_b1 := VarK.new w 36 (accC h A)
  have k_w1 : Keeps w (w.alloc (.cells (List.toArray (accC h A)) 36)) none_ := (Keeps.refl _ _).alloc _
  have z_w1 : (w.alloc (.cells (List.toArray (accC h A)) 36)).heap.size = w.heap.size + 1 := by simp
  generalize w.alloc (.cells (List.toArray (accC h A)) 36) = w1 at *
  generalize hs_b1 : w.heap.size = b1 at *
  have r_w1 : Keeps w1 w1 none_ := Keeps.refl _ _
  have a_b2 := at_fresh w1 36 (accC h' A')
  have v_b2 := VarK.new w1 36 (accC h' A')
  have k_w2 : Keeps w1 (w1.alloc (.cells (List.toArray (accC h' A')) 36)) none_ := (Keeps.refl _ _).alloc _
  have z_w2 : (w1.alloc (.cells (List.toArray (accC h' A')) 36)).heap.size = w1.heap.size + 1 := by simp
  generalize w1.alloc (.cells (List.toArray (accC h' A')) 36) = w2 at *
  generalize hs_b2 : w1.heap.size = b2 at *
  have r_w2 : Keeps w2 w2 none_ := Keeps.refl _ _
  have K2 : Keeps w w2 none_ := k_w1.trans0 k_w2
  have a1 := at_mono a_b1 k_w2
  have a2 := a_b2
  have kr2 : Keeps w2 w2 none_ := Keeps.refl _ _
  refine KGO ?_
  refine CallS.of (Tryz.call48 _ _) (eqs_Box (w := w2) A.boxes A'.boxes (hr.b.keep K2) (hr'.b.keep K2) (by omega)) ?_
  rintro e w3 ⟨rfl, k3⟩
  have K3 := K2.trans0 k3
  have a13 := at_mono a1 k3
  have a23 := at_mono a2 k3
  have kr3 : Keeps w3 w3 none_ := Keeps.refl _ _
  refine ⟨_, rfl, ?_⟩; (first | refine Then.go hmix ?_ | refine Sat.go hmix ?_ | refine ResK.go ?_ | skip); conv => whnf
  by_cases c1 : A.boxes = A'.boxes
  rotate_left
  · rw [decide_eq_false c1]
    refine KGO ?_
    exact ⟨ret_bool (decide_eq_false fun q => c1 (hacc.1 q).1).symm, K3⟩
  rw [decide_eq_true c1]
  refine KGO ?_
  refine CallS.of (Tryz.call49 _ _) (eqf_Ml (w := w3) lx ly (hmx.keep K3) (hmy.keep K3) (fun x hx => (hox x hx).keep K3) (fun x hx => (hoy x hx).keep K3) (by omega) (fun x hx => by have := f.mb x.m (by rw [← hlx]; exact List.mem_map_of_mem hx); omega)) ?_
  rintro e w4 ⟨rfl, k4⟩
  rw [hlx, hly]
  have K4 := K3.trans0 k4
  have a14 := at_mono a13 k4
  have a24 := at_mono a23 k4
  have kr4 : Keeps w4 w4 none_ := Keeps.refl _ _
  refine ⟨_, rfl, ?_⟩; (first | refine Then.go hmix ?_ | refine Sat.go hmix ?_ | refine ResK.go ?_ | skip); conv => whnf
  by_cases c2 : A.mails = A'.mails
  rotate_left
  · rw [decide_eq_false c2]
    refine KGO ?_
    exact ⟨ret_bool (decide_eq_false fun q => c2 (hacc.1 q).2.1).symm, K4⟩
  rw [decide_eq_true c2]
  refine KGO ?_
  refine CallS.of (Tryz.call51 _ _) (eqs_Src (w := w4) A.scripts A'.scripts (hr.s.keep K4) (hr'.s.keep K4) (by omega)) ?_
  rintro e w5 ⟨rfl, k5⟩
  have K5 := K4.trans0 k5
  have a15 := at_mono a14 k5
  have a25 := at_mono a24 k5
  have kr5 : Keeps w5 w5 none_ := Keeps.refl _ _
  refine ⟨_, rfl, ?_⟩; (first | refine Then.go hmix ?_ | refine Sat.go hmix ?_ | refine ResK.go ?_ | skip); conv => whnf
  by_cases c3 : A.scripts = A'.scripts
  rotate_left
  · rw [decide_eq_false c3]
    refine KGO ?_
    exact ⟨ret_bool (decide_eq_false fun q => c3 (hacc.1 q).2.2.1).symm, K5⟩
  rw [decide_eq_true c3]
  by_cases c4 : A.active = A'.active
  rotate_left
  · have c4' : ¬ str A.active = str A'.active := fun e => c4 (str_inj.1 e)
    refine KGO ?_
    exact ⟨ret_bool (decide_eq_false fun q => c4 (hacc.1 q).2.2.2.1).symm, K5⟩
  have c4' : str A.active = str A'.active := by rw [c4]
  refine KGO ?_
  refine CallS.of (Tryz.call52 _ _) (eqs_Sn (w := w5) A.seen A'.seen (hr.n.keep K5) (hr'.n.keep K5) (by omega)) ?_
  rintro e w6 ⟨rfl, k6⟩
  have K6 := K5.trans0 k6
  have a16 := at_mono a15 k6
  have a26 := at_mono a25 k6
  have kr6 : Keeps w6 w6 none_ := Keeps.refl _ _
  refine ⟨_, rfl, ?_⟩; (first | refine Then.go hmix ?_ | refine Sat.go hmix ?_ | refine ResK.go ?_ | skip); conv => whnf
  by_cases c5 : A.seen = A'.seen
  rotate_left
  · rw [decide_eq_false c5]
    refine KGO ?_
    exact ⟨ret_bool (decide_eq_false fun q => c5 (hacc.1 q).2.2.2.2.1).symm, K6⟩
  rw [decide_eq_true c5]
  by_cases c6 : A.nm = A'.nm
  rotate_left
  · refine KGO ?_
    exact ⟨ret_bool (decide_eq_false fun q => c6 (hacc.1 q).2.2.2.2.2.1).symm, K6⟩
  by_cases c7 : A.nb = A'.nb
  rotate_left
  · refine KGO ?_
    exact ⟨ret_bool (decide_eq_false fun q => c7 (hacc.1 q).2.2.2.2.2.2.1).symm, K6⟩
  refine KGO ?_
  exact ⟨ret_bool (by rw [Bool.eq_iff_iff, beq_iff_eq, decide_eq_true_eq]; exact ⟨fun h => hacc.2 ⟨c1, c2, c3, c4, c5, c6, c7, h⟩, fun h => (hacc.1 h).2.2.2.2.2.2.2⟩), K6⟩
end
end Go.Proofs.YtohhkegmbgancaaGreatDoor
