/- Helper text of this claim: Ax6, Ae4, Mg9, Mh1, WcM: lemmas and contracts that the proved statement rests on; no conditions of its own. -/
import Derived.Test.YtcdpocffoapbeaaGreatDoorGAe0
import Derived.Test.YtcdpocffoapbeaaGreatDoorGBw11
import Derived.Test.YtcdpocffoapbeaaGreatDoorGCw5
import Derived.Laws.StructEq
import Derived.Test.YtcdpocffoapbeaaGreatDoorGWcR
namespace Go.Cs
set_option linter.unusedVariables false
open Go.Lib
set_option linter.unusedVariables false
section
variable {A : Acc} {o : Opr} {r : Acc × Int}
theorem GoodQ.scripts (g : GoodQ A) {l : List Sc} (h1 : l.length ≤ 16) (h2 : AscS l) (h3 : ∀ s ∈ l, srcB s = true) (h4 : A.active = [] ∨ hasS l A.active = true) : GoodQ { A with scripts := l } :=
  ⟨g.nm, g.nb, g.st, g.bx, g.bid, g.ml, g.asc, fun m hm => (g.fit m hm).mono (Int.le_refl _) (Int.le_refl _) fun _ h => h, h1, h2, h3, g.nl, g.key, g.knd, h4⟩
end
end Go.Cs

-- alias Tryz
namespace Go.Proofs.YtcdpocffoapbeaaGreatDoor
set_option linter.unusedVariables false
open Go.Shelf Go.RowKit Go.Pw Go.Vc Go.Cs Go.Lib
set_option linter.unusedVariables false
set_option maxRecDepth 100000
section
variable {w : World}
set_option maxHeartbeats 1000000 in
theorem rf_SameInts {va vb : Value} (la lb : List Int) (ha : RowI w va la) (hb : RowI w vb lb) (hl : la.length ≤ 1000000) (hl2 : lb.length ≤ 1000000) :
    Calls Tryz.prog 30 #[va, vb] w fun e w' => e = .returned (.bool (decide (la = lb))) ∧ Keeps w w' none_ := by
  obtain ⟨a, ca, rfl, hra⟩ := ha
  obtain ⟨b, cb, rfl, hrb⟩ := hb
  refine calls_of_vc (args := [.slice a la.length ca, .slice b lb.length cb]) Tryz.func30 rfl (Nat.le_of_ble_eq_true rfl) ?_; refine Sat.go hmix ?_; conv => whnf
  by_cases hn : la.length = lb.length
  rotate_left
  · refine KGO ?_
    refine ⟨ret_bool ?_, Keeps.refl _ _⟩
    exact (decide_eq_false fun h => hn (by rw [h])).symm
  refine KGO ?_
  refine Loop.intro (ι := Nat) (fun i => [(0, .slice a la.length ca), (1, .slice b lb.length cb), (5, .int .i64 (i : Nat))])
    (fun i wr => Keeps w wr none_ ∧ i ≤ la.length ∧ la.take i = lb.take i) (fun i => la.length - i) 0 ⟨rfl, rfl, rfl, trivial⟩ ⟨Keeps.refl _ _, Nat.zero_le _, rfl⟩ ?_
  rintro i gg wr ⟨hK, hi, ht⟩
  (first | refine Then.go hmix ?_ | refine Sat.go hmix ?_ | refine ResK.go ?_ | skip); conv => whnf
  by_cases hlt : i < la.length
  · have hlt2 : i < lb.length := by omega
    obtain ⟨ga, oa, rfl, hga, hata⟩ := hra (by omega)
    obtain ⟨gb, ob, rfl, hgb, hatb⟩ := hrb (by omega)
    have ca := at_int hata hlt
    have cb := at_int hatb hlt2
    by_cases he : la[i] = lb[i]
    · rw [he] at ca
      refine KGO ?_
      exact ⟨i + 1, ⟨rfl, rfl, v_int (by simp), trivial⟩, ⟨hK.drew, by omega, by rw [List.take_succ_eq_append_getElem hlt, List.take_succ_eq_append_getElem hlt2, ht, he]⟩, by dsimp only; omega⟩
    · refine KGO ?_
      refine ⟨ret_bool ?_, hK.drew⟩
      exact (decide_eq_false fun h => he (by subst h; rfl)).symm
  · refine KGO ?_
    refine ⟨ret_bool ?_, hK⟩
    rw [List.take_of_length_le (by omega), List.take_of_length_le (by omega)] at ht
    exact (decide_eq_true ht).symm
end
end Go.Proofs.YtcdpocffoapbeaaGreatDoor

-- alias Tryz
namespace Go.Proofs.YtcdpocffoapbeaaGreatDoor
set_option linter.unusedVariables false
open Go.Shelf Go.RowKit Go.Pw Go.Vc Go.Cs Go.Lib Go.Cd Go.Mg
set_option linter.unusedVariables false
set_option maxRecDepth 100000
/-! Segments compared; validOrEmpty, postings. -/
theorem fldsTm : ∃ a b c, (Tryz.prog.fieldsOf 56).toList = [a, b, c] ∧ a.name ≠ "_" ∧ b.name ≠ "_" ∧ c.name ≠ "_" ∧ a.type = 3 ∧ b.type = 9 ∧ c.type = 9 ∧ a.offset = 0 ∧ b.offset = 1 ∧ c.offset = 2 :=
  ⟨_, _, _, rfl, by decide, by decide, by decide, rfl, rfl, rfl, rfl, rfl, rfl⟩
theorem eqlTm (x y : Trm) (w : World) : (Op.equalIn (9999 + 1) 56 (.agg (tmC x).toArray) (.agg (tmC y).toArray)).run Tryz.prog w = .ok (decide (x = y)) w := by
  rw [run_equalIn_agg w 9999 56 _ _ (by rfl) (by kernel_rfl)]
  obtain ⟨a, b, c, hf, na, nb, nc, ta, tb, tc, oa, ob, oc⟩ := fldsTm
  rw [hf]
  simp only [Op.eqFields, na, nb, nc, ne_eq, not_false_eq_true, if_true, ta, tb, tc, oa, ob, oc]
  have p0 : (part 3 (tmC x).toArray 0).run Tryz.prog w = .ok (.int .i64 x.field) w := by rfl
  have p1 : (part 9 (tmC x).toArray 1).run Tryz.prog w = .ok (.string (str x.word)) w := by rfl
  have p2 : (part 9 (tmC x).toArray 2).run Tryz.prog w = .ok (.string (str x.list)) w := by rfl
  have q0 : (part 3 (tmC y).toArray 0).run Tryz.prog w = .ok (.int .i64 y.field) w := by rfl
  have q1 : (part 9 (tmC y).toArray 1).run Tryz.prog w = .ok (.string (str y.word)) w := by rfl
  have q2 : (part 9 (tmC y).toArray 2).run Tryz.prog w = .ok (.string (str y.list)) w := by rfl
  have i1 (a b : Int) : (Op.equalIn (9998 + 1) 3 (.int .i64 a) (.int .i64 b)).run Tryz.prog w = .ok (a == b) w := run_equalIn_int w 9998 3 .i64 .i64 a b (by rfl)
  have i2 (a b : ByteArray) : (Op.equalIn (9998 + 1) 9 (.string a) (.string b)).run Tryz.prog w = .ok (a.toList == b.toList) w := run_equalIn_string w 9998 9 a b (by rfl)
  simp only [Sem.run_bind, Sem.run_ite, p0, p1, p2, q0, q1, q2, i1, i2, Result.andThen_ok]
  obtain ⟨x1, x2, x3⟩ := x
  obtain ⟨y1, y2, y3⟩ := y
  dsimp only
  rw [str_beq, str_beq]
  by_cases h1 : x1 = y1 <;> by_cases h2 : x2 = y2 <;> by_cases h3 : x3 = y3 <;> simp [h1, h2, h3]
theorem neqTm (x y : Trm) (a b : Operand) {K : Value → World → Prop} {w : World} (k : K (.bool (!decide (x = y))) w) :
    RunV Tryz.prog (do eqGuard .neq 56 a b (.agg (tmC x).toArray) (.agg (tmC y).toArray); binOp .neq 56 (.agg (tmC x).toArray) (.agg (tmC y).toArray)) w K := by
  refine RunV.of ?_ k
  rw [Sem.run_bind, run_eqGuard_agg w .neq 56 a b _ _ (by kernel_rfl), Result.andThen_ok, run_neq_struct]
  rw [show (10000 : Nat) = 9999 + 1 from rfl, eqlTm]
  rfl
set_option maxHeartbeats 2000000 in
theorem eqs_Tm {w : World} {va vb : Value} (la lb : List Trm) (ha : RowO w va tmC la) (hb : RowO w vb tmC lb) (hl : la.length ≤ 1000000000000) :
    Calls Tryz.prog 55 #[va, vb] w fun e w' => e = .returned (.bool (decide (la = lb))) ∧ Keeps w w' none_ := by
  obtain ⟨a, ca, rfl, hra⟩ := ha
  obtain ⟨b, cb, rfl, hrb⟩ := hb
  refine calls_of_vc (args := [.slice a la.length ca, .slice b lb.length cb]) Tryz.func55 rfl (Nat.le_of_ble_eq_true rfl) ?_; refine Sat.go hmix ?_; conv => whnf
  by_cases hn : la.length = lb.length
  rotate_left
  · refine KGO ?_
    refine ⟨ret_bool ?_, Keeps.refl _ _⟩
    exact (decide_eq_false fun h => hn (by rw [h])).symm
  refine KGO ?_
  refine Loop.intro (ι := Nat) (fun i => [(0, .slice a la.length ca), (1, .slice b lb.length cb), (12, .int .i64 (la.length : Nat)), (13, .int .i64 (i : Nat))])
    (fun i wr => Keeps w wr none_ ∧ i ≤ la.length ∧ la.take i = lb.take i) (fun i => la.length - i) 0 ⟨rfl, rfl, rfl, rfl, trivial⟩ ⟨Keeps.refl _ _, Nat.zero_le _, rfl⟩ ?_
  rintro i gg wr ⟨hK, hi, ht⟩
  (first | refine Then.go hmix ?_ | refine Sat.go hmix ?_ | refine ResK.go ?_ | skip); conv => whnf
  by_cases hlt : i < la.length
  · have hlt2 : i < lb.length := by omega
    obtain ⟨ga, oa, rfl, hga, hata⟩ := hra (by omega)
    obtain ⟨gb, ob, rfl, hgb, hatb⟩ := hrb (by omega)
    refine KGO ?_
    refine neqTm _ _ _ _ ?_
    by_cases he : la[i] = lb[i]
    · rw [decide_eq_true he]
      refine KGO ?_
      exact ⟨i + 1, ⟨rfl, rfl, rfl, v_int (by simp), trivial⟩, ⟨hK.drew, by omega, by rw [List.take_succ_eq_append_getElem hlt, List.take_succ_eq_append_getElem hlt2, ht, he]⟩, by dsimp only; omega⟩
    · rw [decide_eq_false he]
      refine KGO ?_
      exact ⟨ret_bool (decide_eq_false fun h => he (by simp [h])).symm, hK.drew⟩
  · refine KGO ?_
    refine ⟨ret_bool ?_, hK⟩
    have e : i = la.length := by omega
    rw [e, List.take_length, hn, List.take_length] at ht
    simp [ht]
theorem sgm_eq (a b : Sgm) : decide (a = b) = (decide (a.docs = b.docs) && decide (a.terms = b.terms)) := by
  obtain ⟨a1, a2⟩ := a
  obtain ⟨b1, b2⟩ := b
  by_cases h1 : a1 = b1 <;> by_cases h2 : a2 = b2 <;> simp [h1, h2]
section
variable {w : World}
theorem sg_Same (ha hb : Sv) (a b : Sgm) (ra : RdS w ha a) (rb : RdS w hb b) (la : a.terms.length ≤ 1000000000) (lb : a.docs.length ≤ 1000000) : Calls Tryz.prog 22 #[.agg (sgC ha).toArray, .agg (sgC hb).toArray] w fun e w' => e = .returned (.bool (decide (a = b))) ∧ Keeps w w' none_ := by
  refine calls_of_vc (args := [.agg (sgC ha).toArray, .agg (sgC hb).toArray]) Tryz.func22 rfl (Nat.le_of_ble_eq_true rfl) ?_; refine Sat.go hmix ?_; conv => whnf
  have a_b1 := at_fresh w 31 (sgC ha)
  have v_b1 := VarK.new w 31 (sgC ha)
  have k_w1 : Keeps w (w.alloc (.cells (List.toArray (sgC ha)) 31)) none_ := (Keeps.refl _ _).alloc _
  have z_w1 : (w.alloc (.cells (List.toArray (sgC ha)) 31)).heap.size = w.heap.size + 1 := by simp
  generalize w.alloc (.cells (List.toArray (sgC ha)) 31) = w1 at *
  generalize hs_b1 : w.heap.size = b1 at *
  have r_w1 : Keeps w1 w1 none_ := Keeps.refl _ _
  have a_b2 := at_fresh w1 31 (sgC hb)
  have v_b2 := VarK.new w1 31 (sgC hb)
  have k_w2 : Keeps w1 (w1.alloc (.cells (List.toArray (sgC hb)) 31)) none_ := (Keeps.refl _ _).alloc _
  have z_w2 : (w1.alloc (.cells (List.toArray (sgC hb)) 31)).heap.size = w1.heap.size + 1 := by simp
  generalize w1.alloc (.cells (List.toArray (sgC hb)) 31) = w2 at *
  generalize hs_b2 : w1.heap.size = b2 at *
  have r_w2 : Keeps w2 w2 none_ := Keeps.refl _ _
  have K2 : Keeps w w2 none_ := k_w1.trans0 k_w2
  have a1 := at_mono a_b1 k_w2
  clear a_b1
  rw [sgm_eq]
  refine KGO ?_
  refine CallS.of (Tryz.call54 _ _) (eqs_I (w := w2) a.docs b.docs (ra.d.keep K2) (rb.d.keep K2) (by omega)) ?_
  rintro e w3 ⟨rfl, k3⟩
  have K3 := K2.trans0 k3
  refine ⟨_, rfl, ?_⟩; (first | refine Then.go hmix ?_ | refine Sat.go hmix ?_ | refine ResK.go ?_ | skip); conv => whnf
  cases hd : decide (a.docs = b.docs) with
  | false =>
    refine KGO ?_
    exact ⟨rfl, K3⟩
  | true =>
    refine KGO ?_
    refine CallS.of (Tryz.call55 _ _) (eqs_Tm (w := w3) a.terms b.terms (ra.t.keep K3) (rb.t.keep K3) (by omega)) ?_
    rintro e w4 ⟨rfl, k4⟩
    refine ⟨_, rfl, ?_⟩; (first | refine Then.go hmix ?_ | refine Sat.go hmix ?_ | refine ResK.go ?_ | skip); conv => whnf
    refine KGO ?_
    exact ⟨rfl, K3.trans0 k4⟩
theorem rf34_Same (ha hb : Sv) (a b : Sgm) (ra : RdS w ha a) (rb : RdS w hb b) (la : a.terms.length ≤ 1000000000) (lb : a.docs.length ≤ 1000000) (lb2 : b.docs.length ≤ 1000000) : Calls Tryz.prog 12 #[.agg (sgC ha).toArray, .agg (sgC hb).toArray] w fun e w' => e = .returned (.bool (decide (a = b))) ∧ Keeps w w' none_ := by
  have hra := ra.t
  have hrb := rb.t
  obtain ⟨at_, ca, ea, hat⟩ := hra
  obtain ⟨bt, cb, eb, hbt⟩ := hrb
  have rad := ra.d
  have rbd := rb.d
  obtain ⟨⟨ta, tn, tc⟩, ad⟩ := ha
  obtain ⟨⟨ta2, tn2, tc2⟩, bd⟩ := hb
  injection ea with q1 q2 q3
  injection eb with q4 q5 q6
  dsimp only at q1 q2 q3 q4 q5 q6 rad rbd
  subst q1 q2 q3 q4 q5 q6
  refine calls_of_vc (args := [.agg (sgC ⟨⟨ta, a.terms.length, tc⟩, ad⟩).toArray, .agg (sgC ⟨⟨ta2, b.terms.length, tc2⟩, bd⟩).toArray]) Tryz.func12 rfl (Nat.le_of_ble_eq_true rfl) ?_; refine Sat.go hmix ?_; conv => whnf
  have a_b1 := at_fresh w 31 (sgC ⟨⟨ta, a.terms.length, tc⟩, ad⟩)
  have v_b1 := VarK.new w 31 (sgC ⟨⟨ta, a.terms.length, tc⟩, ad⟩)
  have k_w1 : Keeps w (w.alloc (.cells (List.toArray (sgC ⟨⟨ta, a.terms.length, tc⟩, ad⟩)) 31)) none_ := (Keeps.refl _ _).alloc _
  have z_w1 : (w.alloc (.cells (List.toArray (sgC ⟨⟨ta, a.terms.length, tc⟩, ad⟩)) 31)).heap.size = w.heap.size + 1 := by simp
  generalize w.alloc (.cells (List.toArray (sgC ⟨⟨ta, a.terms.length, tc⟩, ad⟩)) 31) = w1 at *
  generalize hs_b1 : w.heap.size = b1 at *
  have r_w1 : Keeps w1 w1 none_ := Keeps.refl _ _
  have a_b2 := at_fresh w1 31 (sgC ⟨⟨ta2, b.terms.length, tc2⟩, bd⟩)
  have v_b2 := VarK.new w1 31 (sgC ⟨⟨ta2, b.terms.length, tc2⟩, bd⟩)
  have k_w2 : Keeps w1 (w1.alloc (.cells (List.toArray (sgC ⟨⟨ta2, b.terms.length, tc2⟩, bd⟩)) 31)) none_ := (Keeps.refl _ _).alloc _
  have z_w2 : (w1.alloc (.cells (List.toArray (sgC ⟨⟨ta2, b.terms.length, tc2⟩, bd⟩)) 31)).heap.size = w1.heap.size + 1 := by simp
  generalize w1.alloc (.cells (List.toArray (sgC ⟨⟨ta2, b.terms.length, tc2⟩, bd⟩)) 31) = w2 at *
  generalize hs_b2 : w1.heap.size = b2 at *
  have r_w2 : Keeps w2 w2 none_ := Keeps.refl _ _
  have K2 : Keeps w w2 none_ := k_w1.trans0 k_w2
  have a1 := at_mono a_b1 k_w2
  unfold sgC at a1 a_b2
  dsimp only at a1 a_b2
  clear a_b1 v_b1 v_b2
  rw [sgm_eq]
  refine KGO ?_
  refine CallS.of (Tryz.call30 _ _) (rf_SameInts (w := w2) a.docs b.docs (rad.keep K2) (rbd.keep K2) lb lb2) ?_
  rintro e w3 ⟨rfl, k3⟩
  have K3 := K2.trans0 k3
  have a1 := at_mono a1 k3
  have a_b2 := at_mono a_b2 k3
  have r3 := Keeps.refl w3 none_
  refine ⟨_, rfl, ?_⟩; (first | refine Then.go hmix ?_ | refine Sat.go hmix ?_ | refine ResK.go ?_ | skip); conv => whnf
  cases hd : decide (a.docs = b.docs) with
  | false =>
    refine KGO ?_
    exact ⟨rfl, K3⟩
  | true =>
  by_cases hn : a.terms.length = b.terms.length
  rotate_left
  · refine KGO ?_
    exact ⟨ret_bool (by rw [decide_eq_false (fun h => hn (by rw [h]))]; rfl), K3⟩
  refine KGO ?_
  refine Loop.intro (ι := Nat) (fun i => [(2, .pointer (some ⟨b1, 0, none⟩)), (3, .pointer (some ⟨b2, 0, none⟩)), (5, .int .i64 (i : Nat))])
    (fun i wr => Keeps w3 wr none_ ∧ i ≤ a.terms.length ∧ a.terms.take i = b.terms.take i) (fun i => a.terms.length - i) 0 ⟨rfl, rfl, rfl, trivial⟩ ⟨Keeps.refl _ _, Nat.zero_le _, rfl⟩ ?_
  rintro i gg wr ⟨hK, hi, ht⟩
  have hKw := K3.trans0 hK
  clear r3
  (first | refine Then.go hmix ?_ | refine Sat.go hmix ?_ | refine ResK.go ?_ | skip); conv => whnf
  by_cases hlt : i < a.terms.length
  · have hlt2 : i < b.terms.length := by omega
    obtain ⟨ga, oa, rfl, hga, hata⟩ := hat (by omega)
    obtain ⟨gb, ob, rfl, hgb, hatb⟩ := hbt (by omega)
    clear hat hbt
    refine KGO ?_
    refine neqTm _ _ _ _ ?_
    by_cases he : a.terms[i] = b.terms[i]
    · rw [decide_eq_true he]
      refine KGO ?_
      exact ⟨i + 1, ⟨rfl, rfl, v_int (by simp), trivial⟩, ⟨hK.drew, by omega, by rw [List.take_succ_eq_append_getElem hlt, List.take_succ_eq_append_getElem hlt2, ht, he]⟩, by dsimp only; omega⟩
    · rw [decide_eq_false he]
      refine KGO ?_
      exact ⟨ret_bool (by rw [decide_eq_false (fun h => he (by simp [h]))]; rfl), hKw.drew⟩
  · refine KGO ?_
    have e : i = a.terms.length := by omega
    rw [e, List.take_length, hn, List.take_length] at ht
    exact ⟨ret_bool (by rw [ht]; simp), hKw⟩
theorem mg_postings (t : Trm) (hl : t.list.length ≤ 10000000) : Calls Tryz.prog 69 #[.agg (tmC t).toArray] w fun e w' => ∃ v, e = .returned v ∧ OwnP w' w.heap.size v ((decP t.list).getD []) ∧ Keeps w w' none_ := by
  refine calls_of_vc (args := [.agg (tmC t).toArray]) Tryz.func69 rfl (Nat.le_of_ble_eq_true rfl) ?_; refine Sat.go hmix ?_; conv => whnf
  have a_b1 := at_fresh w 56 (tmC t)
  have v_b1 := VarK.new w 56 (tmC t)
  have k_w1 : Keeps w (w.alloc (.cells (List.toArray (tmC t)) 56)) none_ := (Keeps.refl _ _).alloc _
  have z_w1 : (w.alloc (.cells (List.toArray (tmC t)) 56)).heap.size = w.heap.size + 1 := by simp
  generalize w.alloc (.cells (List.toArray (tmC t)) 56) = w1 at *
  generalize hs_b1 : w.heap.size = b1 at *
  have r_w1 : Keeps w1 w1 none_ := Keeps.refl _ _
  refine KGO ?_
  refine CallS.of (Tryz.call95 _ _) (po_Decode (w := w1) t.list hl) ?_
  rintro e w2 ⟨⟨v, rfl, hv, hno⟩, k2⟩
  obtain ⟨a, c, rfl⟩ := hv.shape
  refine ⟨_, rfl, ?_⟩; (first | refine Then.go hmix ?_ | refine Sat.go hmix ?_ | refine ResK.go ?_ | skip); conv => whnf
  exact ⟨_, rfl, hv.base (by omega), k_w1.trans0 k2⟩
theorem build0S (w : World) : (Instr.build 31 [].toArray).run Tryz.prog w = .ok (.agg #[.slice none 0 0, .slice none 0 0]) w := by
  simp [Instr.build, Instr.fill, go_sem, Tryz.runUnderlying31]
theorem rdS_nil (w : World) : RdS w ⟨⟨none, 0, 0⟩, ⟨none, 0, 0⟩⟩ ⟨[], []⟩ := ⟨⟨none, 0, rfl, fun h => by simp at h⟩, ⟨none, 0, rfl, fun h => by simp at h⟩, fun a n c e => by injection e with _ e1 e2; subst e1; exact Nat.zero_le _, fun a n c e => by injection e with _ e1 e2; subst e1; exact Nat.zero_le _⟩
theorem mg_valid (h : Sv) (s : Sgm) (hr : RdS w h s) (hs : SmS s) (hE : CEnv w) : Calls Tryz.prog 31 #[.agg (sgC h).toArray] w fun e w' => ∃ h', e = .returned (.agg (sgC h').toArray) ∧ (∀ w0, RdS w0 h s → RdS w0 h' (validS s)) ∧ Keeps w w' none_ := by
  refine calls_of_vc (args := [.agg (sgC h).toArray]) Tryz.func31 rfl (Nat.le_of_ble_eq_true rfl) ?_; refine Sat.go hmix ?_; conv => whnf
  have a_b1 := at_fresh w 31 (sgC h)
  have v_b1 := VarK.new w 31 (sgC h)
  have k_w1 : Keeps w (w.alloc (.cells (List.toArray (sgC h)) 31)) none_ := (Keeps.refl _ _).alloc _
  have z_w1 : (w.alloc (.cells (List.toArray (sgC h)) 31)).heap.size = w.heap.size + 1 := by simp
  generalize w.alloc (.cells (List.toArray (sgC h)) 31) = w1 at *
  generalize hs_b1 : w.heap.size = b1 at *
  have r_w1 : Keeps w1 w1 none_ := Keeps.refl _ _
  have a_b2 := at_fresh w1 31 ([.slice none 0 0, .slice none 0 0])
  have v_b2 := VarK.new w1 31 ([.slice none 0 0, .slice none 0 0])
  have k_w2 : Keeps w1 (w1.alloc (.cells (List.toArray ([.slice none 0 0, .slice none 0 0])) 31)) none_ := (Keeps.refl _ _).alloc _
  have z_w2 : (w1.alloc (.cells (List.toArray ([.slice none 0 0, .slice none 0 0])) 31)).heap.size = w1.heap.size + 1 := by simp
  generalize w1.alloc (.cells (List.toArray ([.slice none 0 0, .slice none 0 0])) 31) = w2 at *
  generalize hs_b2 : w1.heap.size = b2 at *
  have r_w2 : Keeps w2 w2 none_ := Keeps.refl _ _
  have K2 : Keeps w w2 none_ := k_w1.trans0 k_w2
  have a1 := at_mono a_b1 k_w2
  clear a_b1
  refine KGO ?_
  refine CallS.of (Tryz.call21 _ _) (sg_Right (w := w2) h s (hr.keep K2) hs (hE.keep K2)) ?_
  rintro e w3 ⟨rfl, k3⟩
  have K3 := K2.trans0 k3
  have v3 := v_b2.keep0 k3
  have z3 := k_w1.size
  refine ⟨_, rfl, ?_⟩; (first | refine Then.go hmix ?_ | refine Sat.go hmix ?_ | refine ResK.go ?_ | skip); conv => whnf
  unfold validS
  cases hq : rightS s with
  | false =>
    refine KGO ?_
    refine RunV.of (build0S _) ?_
    refine KGO ?_
    refine Store.varK [.slice none 0 0, .slice none 0 0] v3 (by rfl) rfl (flat_of (by rfl)) fun w4 v4 k4 => ?_
    have a4 := v4.at
    have q4 := Keeps.refl w4 none_
    refine KGO ?_
    (first | refine Then.go hmix ?_ | refine Sat.go hmix ?_ | refine ResK.go ?_ | skip); conv => whnf
    exact ⟨⟨⟨none, 0, 0⟩, ⟨none, 0, 0⟩⟩, rfl, fun w0 _ => rdS_nil _, keeps_new K3 k4 (by omega)⟩
  | true =>
    refine KGO ?_
    refine Store.varK (sgC h) v3 (by rfl) rfl (flat_of (by rfl)) fun w4 v4 k4 => ?_
    have a4 := v4.at
    have q4 := Keeps.refl w4 none_
    have K4 := keeps_new K3 k4 (by omega)
    refine KGO ?_
    (first | refine Then.go hmix ?_ | refine Sat.go hmix ?_ | refine ResK.go ?_ | skip); conv => whnf
    exact ⟨h, rfl, fun w0 r => r, K4⟩
end
end Go.Proofs.YtcdpocffoapbeaaGreatDoor

-- alias Tryz
namespace Go.Proofs.YtcdpocffoapbeaaGreatDoor
set_option linter.unusedVariables false
open Go.Shelf Go.RowKit Go.Pw Go.Vc Go.Cs Go.Lib Go.Cd Go.Mg
set_option linter.unusedVariables false
set_option maxRecDepth 100000
abbrev OwnPr (w : World) (B : Nat) (v : Value) (l : List Pr) : Prop := w.ownsRow B 50 2 v l.length (l.flatMap prC)
set_option maxHeartbeats 1000000 in
theorem ixf_Pr1 {w : World} {v : Value} (l : List Pr) (g : Nat) (c0 : Value) (p : Pr → Bool) (hv : RowO w v prC l) (hl : l.length ≤ 1000000000) (hg : ∀ (args : Array Value) (w : World), (callFunc g args).run Tryz.prog w = .ok (.enter g args) w)
    (hp : ∀ x ∈ l, ∀ w', Keeps w w' none_ → Calls Tryz.prog g #[.agg (prC x).toArray, c0] w' fun e w'' => e = .returned (.bool (p x)) ∧ Keeps w' w'' none_) :
    Calls Tryz.prog 70 #[v, .func (.func g) #[] #[c0]] w fun e w' => e = .returned (.int .i64 (idxP p l)) ∧ Keeps w w' none_ := by
  obtain ⟨a, cap, rfl, hr⟩ := hv
  refine calls_of_vc (args := [.slice a l.length cap, .func (.func g) #[] #[c0]]) Tryz.func70 rfl (Nat.le_of_ble_eq_true rfl) ?_; refine Sat.go hmix ?_; conv => whnf
  refine Loop.intro (ι := Nat) (fun i => [(0, .slice a l.length cap), (1, .func (.func g) #[] #[c0]), (7, .int .i64 (l.length : Nat)), (8, .int .i64 (i : Nat))])
    (fun i wr => Keeps w wr none_ ∧ i ≤ l.length ∧ ∀ j (h : j < l.length), j < i → p l[j] = false) (fun i => l.length - i) 0 ⟨rfl, rfl, rfl, rfl, trivial⟩ ⟨Keeps.refl _ _, Nat.zero_le _, fun _ _ h => by omega⟩ ?_
  rintro i gg wr ⟨hK, hi, he⟩
  (first | refine Then.go hmix ?_ | refine Sat.go hmix ?_ | refine ResK.go ?_ | skip); conv => whnf
  by_cases hlt : i < l.length
  · obtain ⟨gb, o, rfl, hgb, hat⟩ := hr (by omega)
    have hpc := hp l[i] (List.getElem_mem hlt) wr hK
    obtain ⟨q, hq⟩ : ∃ q, p l[i] = q := ⟨_, rfl⟩
    rw [hq] at hpc

    refine KGO ?_
    refine CallS.of (hg _ _) hpc ?_
    rintro e w1 ⟨rfl, k1⟩
    refine ⟨_, rfl, ?_⟩; (first | refine Then.go hmix ?_ | refine Sat.go hmix ?_ | refine ResK.go ?_ | skip); conv => whnf
    cases q with
    | true =>
      refine KGO ?_
      exact ⟨by rw [idxP_some hlt hq he], hK.trans0 k1⟩
    | false =>
      refine KGO ?_
      exact ⟨i + 1, ⟨rfl, rfl, rfl, v_int (by simp), trivial⟩, ⟨hK.trans0 k1, by omega, fun j h hj => by
        rcases Nat.lt_or_ge j i with h' | h'
        · exact he j h h'
        · obtain rfl : j = i := by omega
          exact hq⟩, by dsimp only; omega⟩
  · refine KGO ?_
    exact ⟨by rw [idxP_none fun j h => he j h (by omega)], hK⟩
set_option maxHeartbeats 8000000 in
theorem dlf_Pr {w : World} {v : Value} {B : Nat} (l : List Pr) (g : Nat) (c0 : Value) (p : Pr → Bool) (ho : OwnPr w B v l) (hl : l.length ≤ 1000000000) (hg : ∀ (args : Array Value) (w : World), (callFunc g args).run Tryz.prog w = .ok (.enter g args) w)
    (hp : ∀ x ∈ l, ∀ w', Keeps w w' (own_ v) → Calls Tryz.prog g #[.agg (prC x).toArray, c0] w' fun e w'' => e = .returned (.bool (p x)) ∧ Keeps w' w'' none_) :
    Calls Tryz.prog 36 #[v, .func (.func g) #[] #[c0]] w fun e w' => ∃ v', e = .returned v' ∧ OwnPr w' B v' (l.filter fun x => !p x) ∧ Keeps w w' (own_ v) ∧ (v'.ownBlock = v.ownBlock) := by
  obtain ⟨a, cap0, rfl⟩ := own_shape ho
  refine calls_of_vc (args := [.slice a l.length cap0, .func (.func g) #[] #[c0]]) Tryz.func36 rfl (Nat.le_of_ble_eq_true rfl) ?_; refine Sat.go hmix ?_; conv => whnf
  refine CallS.of (Tryz.call70 _ _) (ixf_Pr1 l g c0 p (own_rowO ho) hl hg (fun x hx w' k => hp x hx w' k.of_none)) ?_
  rintro e w1 ⟨rfl, k1⟩
  refine ⟨_, rfl, ?_⟩; (first | refine Then.go hmix ?_ | refine Sat.go hmix ?_ | refine ResK.go ?_ | skip); conv => whnf
  rcases idxP_lt p l with hi | ⟨i0, hi0, he0, hp0, hb0⟩
  · rw [hi]
    refine KGO ?_
    refine ⟨_, rfl, ?_, k1.of_none, rfl⟩
    have hf : (l.filter fun x => !p x) = l := List.filter_eq_self.2 fun x hx => by
      have h : ¬ l.any p = true := fun h => by have := (idxP_any p l).2 h; omega
      have := List.any_eq_false.1 (by simpa using h) x hx
      simpa using this
    rw [hf]
    exact own_keep0 ho k1
  rw [he0]
  rcases own_blockK ho with ⟨hnil, h0⟩ | ⟨gb, cap, cells0, hev, hBg, hv0, hnc, hcm, hcl0, htk0⟩
  · omega
  injection hev with hev _ hcc
  subst hev; subst hcc
  have hgk : gb < w1.heap.size := Nat.lt_of_lt_of_le hv0.lt k1.size
  have ho1 := own_keep0 ho k1
  have hfl0 : ((l.take (i0 + 1)).filter fun x => !p x) = l.take i0 := by
    rw [filt_step hi0, hp0]
    have : (l.take i0).filter (fun x => !p x) = l.take i0 := List.filter_eq_self.2 fun x hx => by
      obtain ⟨j, hj, rfl⟩ := List.mem_take_iff_getElem.1 hx
      rw [hb0 j (by omega)]; rfl
    rw [this]; simp
  refine KGO ?_
  refine Loop.intro (ι := Nat × Nat × List Pr) (fun q => [(0, .slice (some ⟨gb, 0, none⟩) l.length cap0), (1, .func (.func g) #[] #[c0]), (5, .int .i64 (q.1 : Nat)), (6, .int .i64 (q.2.1 : Nat))])
    (fun q wr => Keeps w wr (one_ gb) ∧ q.2.1 ≤ l.length ∧ q.1 < q.2.1 ∧ q.2.2.length = l.length ∧ q.2.2.take q.1 = ((l.take q.2.1).filter fun x => !p x) ∧ q.2.2.drop q.2.1 = l.drop q.2.1 ∧ OwnPr wr B (.slice (some ⟨gb, 0, none⟩) q.2.2.length cap0) q.2.2)
    (fun q => l.length - q.2.1) (i0, i0 + 1, l) ⟨rfl, rfl, rfl, v_int (by simp), trivial⟩ ⟨k1.of_none, by dsimp only; omega, by dsimp only; omega, rfl, by dsimp only; rw [hfl0], rfl, ho1⟩ ?_
  clear ho1 hfl0 hb0 hp0 he0 hi0 i0
  rintro ⟨i, j, cur⟩ gg wr ⟨hK, hj, hij, hcl2, htk2, hdr2, ho2⟩
  dsimp only at hj hij hcl2 htk2 hdr2 ho2 ⊢
  rcases own_blockK ho2 with ⟨h, h0⟩ | ⟨g2, cap, cells, hev, hBg2, hv, hnc2, hcm2, hcl, htk⟩
  · cases h
  injection hev with hev _ hcc
  injection hev with hev
  injection hev with hev
  subst hev; subst hcc
  have hrow := at_of_own ho2
  have kr : Keeps wr wr none_ := Keeps.refl _ _
  (first | refine Then.go hmix ?_ | refine Sat.go hmix ?_ | refine ResK.go ?_ | skip); conv => whnf
  by_cases hlt : j < l.length
  · have hcj : cur[j]'(by omega) = l[j] := by
      have h1 : (cur.drop j)[0]? = (l.drop j)[0]? := by rw [hdr2]
      rw [List.getElem?_drop, List.getElem?_drop, Nat.add_zero, List.getElem?_eq_getElem (by omega), List.getElem?_eq_getElem hlt] at h1
      exact Option.some.inj h1
    have hfs := filt_step (p := fun x => !p x) hlt
    have hjc : j < cur.length := by omega
    obtain ⟨q, hq⟩ : ∃ q, p l[j] = q := ⟨_, rfl⟩
    have hmx := List.getElem_mem hlt
    rw [hq] at hfs
    refine KGO ?_
    rw [hcj]
    generalize hxj : l[j] = x at *
    refine Store.fresh (vs := prC x) (by rfl) rfl (flat_of (by rfl)) ?_
    have a_b7 := at_fresh wr 50 (prC x)
    have k_wv : Keeps wr (wr.alloc (.cells (List.toArray (prC x)) 50)) none_ := (Keeps.refl _ _).alloc _
    have z_wv : (wr.alloc (.cells (List.toArray (prC x)) 50)).heap.size = wr.heap.size + 1 := by simp
    generalize wr.alloc (.cells (List.toArray (prC x)) 50) = wv at *
    generalize hs_b7 : wr.heap.size = b7 at *
    refine KGO ?_
    have hpc := hp x hmx wv ((hK.trans0 k_wv).mono fun q _ hq => by have hq : q = gb := hq; rw [hq]; rfl)
    rw [hq] at hpc
    refine CallS.of (hg _ _) hpc ?_
    rintro e w1 ⟨rfl, k1⟩
    refine ⟨_, rfl, ?_⟩; (first | refine Then.go hmix ?_ | refine Sat.go hmix ?_ | refine ResK.go ?_ | skip); conv => whnf
    cases q with
    | true =>
      refine KGO ?_
      refine ⟨(i, j + 1, cur), ⟨rfl, rfl, rfl, v_int (by simp), trivial⟩, ⟨(hK.trans0 k_wv).trans0 k1, by dsimp only; omega, by dsimp only; omega, hcl2, ?_, ?_, own_keep0 (own_keep0 ho2 k_wv) k1⟩, by dsimp only; omega⟩
      · dsimp only
        rw [hfs, htk2]; simp
      · dsimp only
        rw [← List.drop_drop, hdr2, List.drop_drop]
    | false =>
      refine KGO ?_
      have hv := (hv.keep0 k_wv).keep0 k1
      refine Store.elemK (l := cur) (k := i) (B := B) (cap := cap0) x lenPr (by rfl) (flat_of (by rfl)) hv hBg (by omega) hcm hcl htk (by omega) fun w2 o2 v2 k2 => ?_
      refine KGO ?_
      have hil : i < cur.length := by omega
      refine ⟨(i + 1, j + 1, cur.set i x), ⟨rfl, rfl, v_int (by simp), v_int (by simp), trivial⟩, ⟨(hK.trans0 k_wv).trans' (k1.of_none.trans' k2), by dsimp only; omega, by dsimp only; omega, by dsimp only; rw [List.length_set]; exact hcl2, ?_, ?_, ?_⟩, by dsimp only; omega⟩
      · dsimp only
        rw [hfs, ← htk2, List.take_succ_eq_append_getElem (by rw [List.length_set]; exact hil), List.getElem_set_self, List.take_set_of_le (Nat.le_refl _)]
        simp
      · dsimp only
        rw [List.drop_set_of_lt (by omega), ← List.drop_drop, hdr2, List.drop_drop]
      · dsimp only
        unfold OwnPr
        rw [List.length_set]
        exact o2
  · have hjl : j = l.length := by omega
    subst hjl
    rw [List.take_length] at htk2
    have hil : i < cur.length := by omega
    refine KGO ?_
    rw [if_neg (by omega : ¬ i = cap0)]
    refine RunN.clearK (s := 2) (n := l.length - i) Tryz.underlying46 infoPr rfl (by intro u hu; simp [Value.cells] at hu; first | (subst hu; rfl) | (rcases hu with rfl | rfl <;> rfl)) hv (by first | (rw [hcl]; omega) | omega) fun w3 zs hzl v3 k3 => ?_
    refine KGO ?_
    have hle : (l.filter fun x => !p x).length = i := by rw [← htk2, List.length_take]; omega
    rw [if_neg (by omega : ¬ 0 = cap0), Nat.sub_zero, Nat.sub_zero]
    refine ⟨_, rfl, ?_, ((hK.trans' k3).mono fun q _ hq => by have hq : q = gb := hq; rw [hq]; rfl), rfl⟩
    have htA : cells.take (0 + i * 2) = (l.filter fun x => !p x).flatMap prC := by
      rw [Nat.zero_add, ← htk2, ← flatK_take prC 2 lenPr, ← htk, List.take_take, Nat.min_eq_left (by omega)]
    have hlA : ((l.filter fun x => !p x).flatMap prC).length = i * 2 := by rw [flatK_len prC 2 lenPr, hle]
    first | rw [htA] at v3 | (rw [show 0 + i * 2 = 0 + i by omega] at htA; rw [htA] at v3)
    unfold OwnPr
    rw [hle]
    refine own_ofK hBg v3 (by omega) hcm2 ?_ ?_ hlA
    · rw [List.length_append, List.length_append, hlA, hzl, List.length_drop]; omega
    · rw [List.append_assoc, ← hlA, List.take_left]
section
variable {w : World}
theorem nil_toI {f : Fr} {y : Operand} (w : World) (hy : ev f y = .int .i64 ((0 : Nat) : Int) := by rfl) : (Instr.sliceAt 23 (.slice none 0 0) none ((some y).map (ev f)) none).run Tryz.prog w = .ok (.slice none 0 0) w := by
  obtain ⟨i, hi, _, hs, _⟩ := info_one infoI
  simp [Instr.sliceAt, hy, Instr.slice, Instr.sliceBounds, go_sem, und_ok Tryz.underlying23, size_ok hi]
set_option maxHeartbeats 2000000 in
theorem gr_I (n : Nat) (hn : n ≤ 8796093022208) : Calls Tryz.prog 64 #[.slice none 0 0, .int .i64 (n : Nat)] w fun e w' => ∃ v, e = .returned v ∧ OwnI w' w.heap.size v [] ∧ Keeps w w' none_ := by
  refine calls_of_vc (args := [.slice none 0 0, .int .i64 (n : Nat)]) Tryz.func64 rfl (Nat.le_of_ble_eq_true rfl) ?_; refine Sat.go hmix ?_; conv => whnf
  refine KGO ?_
  refine RunN.capK Tryz.underlying23 ?_
  rcases Nat.eq_zero_or_pos n with h0 | h0
  · subst h0
    refine KGO ?_
    exact ⟨_, rfl, World.ownsRow_nil _ _ _ _, Keeps.refl _ _⟩
  · refine KGO ?_
    refine RunN.capK Tryz.underlying23 ?_
    refine KGO ?_
    refine RunV.of (v := .slice none 0 0) (w' := w) (nil_toI _) ?_
    refine KGO ?_
    rw [show ((n : Nat) : Int) - (((0 : Nat) : Int) - ((0 : Nat) : Int)) = ((n : Nat) : Int) by omega]
    refine RunN.zeros0 Tryz.underlying23 Tryz.underlying3 infoI rfl (by decide) h0 (by omega) (by omega) fun w1 cells c1 v1 hl1 hc1 hm1 k1 => ?_
    refine KGO ?_
    rw [if_neg (by omega : ¬ 0 = c1), Nat.sub_zero, Nat.sub_zero]
    exact ⟨_, rfl, own_ofK (xs := []) (Nat.le_refl _) v1 (Nat.zero_le _) hm1 hl1 (by simp) rfl, k1⟩
abbrev slCI (p : Sl × List Int) : List Value := [.slice p.1.a p.1.n p.1.c]
theorem at_slI {g o i : Nat} {l : List (Sl × List Int)} (h : At w g o (l.flatMap slCI)) (hi : i < l.length) : w.cell? ⟨g, o + i, none⟩ = some (.slice l[i].1.a l[i].1.n l[i].1.c) := at_one (fun p : Sl × List Int => Value.slice p.1.a p.1.n p.1.c) h hi
set_option maxHeartbeats 4000000 in
theorem cat_I {v : Value} (ps : List (Sl × List Int)) (hv : RowO w v slCI ps) (hp : ∀ p ∈ ps, RowI w p.1.v p.2) (hl : ps.length ≤ 1000) (hn : (ps.flatMap (·.2)).length ≤ 8796093022208) : Calls Tryz.prog 32 #[v] w fun e w' => ∃ v', e = .returned v' ∧ OwnI w' w.heap.size v' (ps.flatMap (·.2)) ∧ Keeps w w' none_ := by
  obtain ⟨a, cap, rfl, hr⟩ := hv
  have hstep : ∀ i (h : i < ps.length), (ps.take (i + 1)).flatMap (·.2) = (ps.take i).flatMap (·.2) ++ ps[i].2 := fun i h => by
    rw [List.take_succ_eq_append_getElem h, List.flatMap_append]; simp
  have hle : ∀ i, ((ps.take i).flatMap (·.2)).length ≤ (ps.flatMap (·.2)).length := fun i => by
    conv => rhs; rw [← List.take_append_drop i ps, List.flatMap_append, List.length_append]
    omega
  refine calls_of_vc (args := [.slice a ps.length cap]) Tryz.func32 rfl (Nat.le_of_ble_eq_true rfl) ?_; refine Sat.go hmix ?_; conv => whnf
  refine Loop.intro (ι := Nat) (fun i => [(0, .slice a ps.length cap), (3, .int .i64 (((ps.take i).flatMap (·.2)).length : Nat)), (9, .slice a ps.length cap), (10, .int .i64 (ps.length : Nat)), (11, .int .i64 (i : Nat))])
    (fun i wr => w = wr ∧ i ≤ ps.length) (fun i => ps.length - i) 0 ⟨rfl, rfl, rfl, rfl, rfl, trivial⟩ ⟨rfl, Nat.zero_le _⟩ ?_
  rintro i gg wr ⟨rfl, hi⟩
  have kr : Keeps w w none_ := Keeps.refl _ _
  (first | refine Then.go hmix ?_ | refine Sat.go hmix ?_ | refine ResK.go ?_ | skip); conv => whnf
  by_cases hlt : i < ps.length
  · obtain ⟨gb, o, rfl, hgb, hat⟩ := hr (by omega)
    have hc := at_slI hat hlt
    have hst := hstep i hlt
    have h1 := hle i
    have h2 := hle (i + 1)
    have hln := RowO.len (hp ps[i] (List.getElem_mem hlt))
    rw [hst, List.length_append] at h2
    refine KGO ?_
    rw [hln]
    refine KGO ?_
    refine ⟨i + 1, ⟨rfl, v_int (by rw [hst, List.length_append]; omega), rfl, rfl, v_int (by simp), trivial⟩, ⟨rfl, by omega⟩, by dsimp only; omega⟩
  · have hil : ps.take i = ps := List.take_of_length_le (by omega)
    rw [hil]
    generalize hN : (ps.flatMap (·.2)).length = N at *
    refine KGO ?_
    refine CallS.of (Tryz.call64 _ _) (gr_I (w := w) N (by omega)) ?_
    rintro e w1 ⟨v1, rfl, o1, k1⟩
    obtain ⟨a1, c1, rfl⟩ := own_shape o1
    refine ⟨_, rfl, ?_⟩; (first | refine Then.go hmix ?_ | refine Sat.go hmix ?_ | refine ResK.go ?_ | skip); conv => whnf
    refine KGO ?_
    refine Loop.intro (ι := Nat × Value) (fun q => [(6, q.2), (25, .slice a ps.length cap), (26, .int .i64 (ps.length : Nat)), (27, .int .i64 (q.1 : Nat))])
      (fun q wr => Keeps w wr none_ ∧ q.1 ≤ ps.length ∧ OwnI wr w.heap.size q.2 ((ps.take q.1).flatMap (·.2))) (fun q => ps.length - q.1) (0, _) ⟨rfl, rfl, rfl, rfl, trivial⟩ ⟨k1, Nat.zero_le _, o1⟩ ?_
    rintro ⟨j, u⟩ gg2 wz ⟨hK, hj, ho⟩
    dsimp only at hj ho ⊢
    obtain ⟨au, cu, rfl⟩ := own_shape ho
    (first | refine Then.go hmix ?_ | refine Sat.go hmix ?_ | refine ResK.go ?_ | skip); conv => whnf
    by_cases hlt2 : j < ps.length
    · obtain ⟨gb, o, rfl, hgb, hat⟩ := hr (by omega)
      have hc := at_slI hat hlt2
      have hst := hstep j hlt2
      have h1 := hle j
      have h2 := hle (j + 1)
      have hrow := (hp ps[j] (List.getElem_mem hlt2)).keep hK
      have hln := RowO.len hrow
      rw [hst, List.length_append] at h2
      obtain ⟨sa, sc, he, hrr⟩ := hrow
      have hea : ps[j].1.a = sa := by injection he
      refine KGO ?_
      rw [hln, hea]
      have fin : ∀ v' w', w'.ownsRow w.heap.size 3 1 v' (((ps.take j).flatMap (·.2)).length + ps[j].2.length) ((ps.take j).flatMap (·.2) |>.flatMap inC |>.append (ps[j].2.flatMap inC)) → OwnI w' w.heap.size v' ((ps.take (j + 1)).flatMap (·.2)) := fun v' w' h => by
        unfold OwnI
        rw [hst, List.length_append, List.flatMap_append]
        exact h
      rcases sa with _ | ad
      · have h0 : ps[j].2.length = 0 := by
          rcases Nat.eq_zero_or_pos ps[j].2.length with h | h
          · exact h
          · obtain ⟨g, o, h1, _⟩ := hrr h; cases h1
        rw [h0]
        refine RunN.appNone Tryz.underlying23 infoI ho ?_
        refine KGO ?_
        exact ⟨(j + 1, _), ⟨rfl, rfl, rfl, v_int (by simp), trivial⟩, ⟨hK, by dsimp only; omega, by dsimp only; rw [hst, List.eq_nil_of_length_eq_zero h0, List.append_nil]; exact ho⟩, by dsimp only; omega⟩
      · refine RunN.app Tryz.underlying23 infoI rfl (by decide) ho hK.size ad ps[j].2.length _ (ps[j].2.flatMap inC) (flatK_len inC 1 lenI _) (fun m x hm => ?_) (oneI _) (by omega) (by omega) fun v' w' h2 h3 => ?_
        · rcases Nat.eq_zero_or_pos ps[j].2.length with h | h
          · rw [List.eq_nil_of_length_eq_zero h] at hm; simp at hm
          · obtain ⟨g', o', h1, _, h3⟩ := hrr h
            injection h1 with h1
            subst h1
            rw [add_none]
            exact h3 m x hm
        · obtain ⟨a', c', rfl⟩ := own_shape h2
          refine KGO ?_
          exact ⟨(j + 1, _), ⟨rfl, rfl, rfl, v_int (by simp), trivial⟩, ⟨hK.own ho (Nat.le_refl _) h3, by dsimp only; omega, fin _ _ h2⟩, by dsimp only; omega⟩
    · have hjl : ps.take j = ps := List.take_of_length_le (by omega)
      rw [hjl] at ho ⊢
      refine KGO ?_
      exact ⟨_, rfl, ho, hK⟩
end
end Go.Proofs.YtcdpocffoapbeaaGreatDoor

/-! A range over a function: the iterator has variables of its own; the items lie in memory. -/
namespace Go.Vc
set_option linter.unusedVariables false
open Go Go.Pw Go.RowKit
set_option linter.unusedVariables false
/-- The blocks are as they were. -/
def SameB (c : Nat → Prop) (w w' : World) : Prop := ∀ b, c b → w'.heap[b]? = w.heap[b]?
section
variable {P : Program} {n : Nat} {K : Exit → Fr → World → Prop} {ps : Array Tmp} {assign body : Code} {t : List It} {g : Operand} {fg : Nat → Value} {dl : DL} {w : World} {gf : Nat} {lb : Array Value} {α : Type}
/-- A RANGE OVER A FUNCTION whose iterator turns blocks of its own between rounds, and whose items may lie in memory. cI: the blocks that the iterator may turn; I: what holds between two rounds; Ix: where a round has left by a jump; iter: the iterator's contract, at whatever invariant that implies I. -/
theorem Range.introW (enc : α → List Value) (hg : ev ⟨fg, dl⟩ g = .func (.func gf) #[] lb) (hgf : ∀ args w, (callFunc gf args).run P w = .ok (.enter gf args) w)
    (hpa : plainC assign = true) (hpb : plainC body = true) (hps : (ps.toList.all fun p => Nat.ble (p + 1) n) = true) (hen : ∀ x, (enc x).length = ps.size)
    (cI : Nat → Prop) (hcI : ∀ b, cI b → b < w.heap.size) (I : List α → World → Prop) (Ix : Code → List α → World → Prop) (S : List α → Prop) (Nx : List α → α → World → Prop)
    (hI : ∀ pre W W', I pre W → w.heap.size + 2 ≤ W.heap.size → Keeps W W' (fun b => cI b ∨ b = w.heap.size + 1) → I pre W')
    (hIx : ∀ c pre W W', Ix c pre W → w.heap.size + 2 ≤ W.heap.size → Keeps W W' (fun b => cI b ∨ b = w.heap.size + 1) → Ix c pre W')
    (h0 : ∀ W, Keeps w W none_ → W.heap.size = w.heap.size + 2 → I [] W)
    (iter : ∀ J Jx : List α → World → Prop, (∀ pre W, J pre W → I pre W ∧ w.heap.size + 2 ≤ W.heap.size) → (∀ pre W W', J pre W → Keeps W W' cI → J pre W') → (∀ pre W W', Jx pre W → Keeps W W' cI → Jx pre W') →
      (∀ pre x W, J pre W → Nx pre x W → YieldS P (w.heap.size + 1) (enc x) W fun v W' => (v = .bool true ∧ J (pre ++ [x]) W' ∧ SameB cI W W') ∨ (v = .bool false ∧ Jx (pre ++ [x]) W')) →
      ∀ W, Keeps w W none_ → J [] W → Calls P gf (#[.func (.yield (w.heap.size + 1)) #[] #[]] ++ lb) W fun e W' => (∃ v, e = .returned v) ∧ ((∃ xs, S xs ∧ J xs W') ∨ ∃ pre, Jx pre W'))
    (round : ∀ pre x W, I pre W → Nx pre x W → w.heap.size + 2 ≤ W.heap.size → Sat P n (asgK P n w.heap.size (fun p W' => I p W' ∧ SameB cI W W') Ix (pre ++ [x]) W body) .normal [.code assign] (putPs ps.toList (enc x) ⟨fg, .nil⟩) W)
    (done : ∀ xs W, S xs → I xs W → w.heap.size + 2 ≤ W.heap.size → W.heap[w.heap.size]? = some (.deferred (some [])) → Sat P n K .normal t ⟨fg, .of (w.heap.size :: dl.toL)⟩ W)
    (stop : ∀ c pre W, Ix c pre W → w.heap.size + 2 ≤ W.heap.size → W.heap[w.heap.size]? = some (.deferred (some [])) → Sat P n K .normal (.code c :: t) ⟨fg, .of (w.heap.size :: dl.toL)⟩ W) :
    Range P n K g ps assign body t ⟨fg, dl⟩ w := by
  refine ⟨fun hf r hr => ?_⟩
  obtain rfl : r = none := by
    rcases hr with h | h
    · exact h
    · cases h
  refine wpIn_rangeFunc ?_
  intro fn _
  generalize hD : w.heap.size = D at *
  obtain ⟨rec, hrec⟩ : ∃ rec : Go.Loop, rec = { state := .ready, pending := none, fn := fn, tmps := frArr n ⟨fg, dl⟩, params := ps, assign := assign, body := body, defers := D } := ⟨_, rfl⟩
  obtain ⟨W1, hW1⟩ : ∃ W1, (w.alloc (.deferred (some []))).alloc (.loop rec) = W1 := ⟨_, rfl⟩
  have hs1 : W1.heap.size = D + 2 := by rw [← hW1]; simp [hD]
  have hk1 : Keeps w W1 none_ := by rw [← hW1]; exact ((Keeps.refl w none_).alloc _).alloc _
  have hL1 : W1.heap[D + 1]? = some (.loop rec) := by
    rw [← hW1, ← hD]; have := World.alloc_heap_new (w.alloc (.deferred (some []))) (.loop rec); rwa [World.size_alloc] at this
  have hD1 : W1.heap[D]? = some (.deferred (some [])) := by
    rw [← hW1, ← hD]; exact (Below.heap_alloc _ _ _ (by simp)).trans (World.alloc_heap_new w _)
  refine ⟨D + 1, [{ target := .collected D, args := #[] }], W1, { target := .fn (.func gf) lb, args := #[.func (.yield (D + 1)) #[] #[]] }, W1, gf,
    #[.func (.yield (D + 1)) #[] #[]] ++ lb, W1, ?_, ?_, fun _ _ => trivial, ?_, fun h => by simp [RW, Fence.wide] at h, ?_⟩
  · have := run_enterLoop_outer (P := P) (w := w) fn (frArr n ⟨fg, dl⟩) ps assign body
    rw [hD, ← hrec, hW1] at this
    exact this
  · have he : (act n ⟨fg, dl⟩).eval g = .func (.func gf) #[] lb := by rw [eval_act hf]; exact hg
    simp only [resolve, he]
    simp [go_sem]
  · simp [invoke, go_sem, hgf]
  · refine calls_rw ?_
    have keepL : ∀ {W W' : World} {k : Nat} {o : Obj}, Keeps W W' cI → W.heap[k]? = some o → D ≤ k → W'.heap[k]? = some o := fun {W W' k o} hk ho hle =>
      (hk.block k (Array.getElem?_eq_some_iff.1 ho).1 (fun h => by have := hcI _ h; omega)).trans ho
    have hlt : ∀ {W : World} {k : Nat} {o : Obj}, W.heap[k]? = some o → k < W.heap.size := fun ho => (Array.getElem?_eq_some_iff.1 ho).1
    refine (iter (fun pre W => I pre W ∧ W.heap[D + 1]? = some (.loop rec) ∧ W.heap[D]? = some (.deferred (some [])))
      (fun pre W => ∃ c, Ix c pre W ∧ W.heap[D + 1]? = some (.loop { rec with state := .done, pending := some c }) ∧ W.heap[D]? = some (.deferred (some [])))
      (fun pre W h => ⟨h.1, by have := hlt h.2.1; omega⟩)
      (fun pre W W' h k => ⟨hI pre W W' h.1 (by have := hlt h.2.1; omega) (k.mono fun _ _ h => .inl h), keepL k h.2.1 (by omega), keepL k h.2.2 (Nat.le_refl _)⟩)
      (fun pre W W' h k => by
        obtain ⟨c, h1, h2, h3⟩ := h
        exact ⟨c, hIx c pre W W' h1 (by have := hlt h2; omega) (k.mono fun _ _ h => .inl h), keepL k h2 (by omega), keepL k h3 (Nat.le_refl _)⟩)
      ?_ W1 hk1 ⟨h0 W1 hk1 hs1, hL1, hD1⟩).mono ?_
    · rintro pre x W ⟨hi, hl, hd⟩ hnx
      have hsz : D + 2 ≤ W.heap.size := by have := hlt hl; omega
      refine yield_of hf hrec hl (hen x) hps hpa hpb (round pre x W hi hnx hsz) ?_ ?_
      · rintro W3 W4 h3 h4 h5 rfl
        have hs3 := hlt h3
        refine .inl ⟨rfl, ⟨hI _ _ _ h5.1 (by omega) ((keeps_putObj _ _ _).mono fun b _ h => .inr h), World.putObj_heap_same hs3, (World.putObj_heap_other (by omega)).trans (h4.trans hd)⟩, fun b hb => ?_⟩
        have := hcI b hb
        exact (World.putObj_heap_other (by omega)).trans (h5.2 b hb)
      · rintro c W3 W4 h3 h4 h5 rfl
        have hs3 := hlt h3
        refine .inr ⟨rfl, c, hIx _ _ _ _ h5 (by omega) ((keeps_putObj _ _ _).mono fun b _ h => .inr h), World.putObj_heap_same hs3, ?_⟩
        exact (World.putObj_heap_other (by omega)).trans (h4.trans hd)
    · rintro e W2 ⟨⟨v, rfl⟩, (⟨xs, hS, hi, hl, hd⟩ | ⟨pre, c, hi, hl, hd⟩)⟩
      · have hsz := hlt hl
        refine ⟨none, _, by have := run_endLoop (P := P) hl (by rw [hrec]; simp); rw [show rec.pending = none from by rw [hrec]] at this; exact this, ?_⟩
        have h1 := done xs (W2.putObj (D + 1) (.loop { rec with state := .exhausted, pending := none })) hS (hI _ _ _ hi (by omega) ((keeps_putObj _ _ _).mono fun b _ h => .inr h)) (by rw [size_putObj]; omega) ((World.putObj_heap_other (by omega)).trans hd)
        exact ⟨⟨fg, .of (D :: dl.toL)⟩, hf, rfl, h1.h hf⟩
      · have hsz := hlt hl
        refine ⟨some c, _, run_endLoop (P := P) hl (by simp), ?_⟩
        have h1 := stop c pre (W2.putObj (D + 1) (.loop { rec with state := .exhausted, pending := some c })) (hIx _ _ _ _ hi (by omega) ((keeps_putObj _ _ _).mono fun b _ h => .inr h)) (by rw [size_putObj]; omega) ((World.putObj_heap_other (by omega)).trans hd)
        exact (h1.h hf : c.wpX P (LiftE n (after P n t K)) (act n ⟨fg, .of (D :: dl.toL)⟩) _) none (.inl rfl)
end
end Go.Vc
