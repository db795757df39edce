/- Helper text of this claim: lemmas and contracts that the proved statement rests on; no conditions of its own. -/
import Derived.Test.YtcplagfblmemhaaGreatDoorGCz0
namespace Go.Proofs.YtcplagfblmemhaaGreatDoor
set_option linter.unusedVariables false
set_option maxHeartbeats 4000000
open Go.RowKit Go.Pw Go.Vc Go.Cs Go.Lib
set_option linter.unusedVariables false
set_option maxRecDepth 100000
theorem boxFields : ∃ a b c d, (Tryz.prog.fieldsOf 44).toList = [a, b, c, d] ∧ a.name ≠ "_" ∧ b.name ≠ "_" ∧ c.name ≠ "_" ∧ d.name ≠ "_" ∧ a.type = 3 ∧ b.type = 3 ∧ c.type = 9 ∧ d.type = 9 ∧ a.offset = 0 ∧ b.offset = 1 ∧ c.offset = 2 ∧ d.offset = 3 :=
 ⟨_, _, _, _, rfl, by decide, by decide, by decide, by decide, rfl, rfl, rfl, rfl, rfl, rfl, rfl, rfl⟩
theorem zqo (x y : Bx) (w : World) : (Op.equalIn (9999 + 1) 44 (.agg (boxCells x).toArray) (.agg (boxCells y).toArray)).run Tryz.prog w = .ok (decide (x = y)) w := by
 rw [run_equalIn_agg w 9999 44 _ _ (by rfl) (by kernel_rfl)]
 obtain ⟨a, b, c, d, hf, na, nb, nc, nd, ta, tb, tc, td, oa, ob, oc, od⟩ := boxFields
 rw [hf]
 simp only [Op.eqFields, na, nb, nc, nd, ne_eq, not_false_eq_true, if_true, ta, tb, tc, td, oa, ob, oc, od]
 have p0 : (part 3 (boxCells x).toArray 0).run Tryz.prog w = .ok (.int .i64 x.id) w := by rfl
 have p1 : (part 3 (boxCells x).toArray 1).run Tryz.prog w = .ok (.int .i64 x.up) w := by rfl
 have p2 : (part 9 (boxCells x).toArray 2).run Tryz.prog w = .ok (.string (str x.name)) w := by rfl
 have p3 : (part 9 (boxCells x).toArray 3).run Tryz.prog w = .ok (.string (str x.role)) w := by rfl
 have q0 : (part 3 (boxCells y).toArray 0).run Tryz.prog w = .ok (.int .i64 y.id) w := by rfl
 have q1 : (part 3 (boxCells y).toArray 1).run Tryz.prog w = .ok (.int .i64 y.up) w := by rfl
 have q2 : (part 9 (boxCells y).toArray 2).run Tryz.prog w = .ok (.string (str y.name)) w := by rfl
 have q3 : (part 9 (boxCells y).toArray 3).run Tryz.prog w = .ok (.string (str y.role)) w := by rfl
 have i1 (a b : Int) : (Op.equalIn (9998 + 1) 3 (.int .i64 a) (.int .i64 b)).run Tryz.prog w = .ok (a == b) w := run_equalIn_int w 9998 3 .i64 .i64 a b (by rfl)
 have i2 (a b : ByteArray) : (Op.equalIn (9998 + 1) 9 (.string a) (.string b)).run Tryz.prog w = .ok (a.toList == b.toList) w := run_equalIn_string w 9998 9 a b (by rfl)
 simp only [Sem.run_bind, Sem.run_ite, p0, p1, p2, p3, q0, q1, q2, q3, i1, i2, Result.andThen_ok]
 obtain ⟨x1, x2, x3, x4⟩ := x
 obtain ⟨y1, y2, y3, y4⟩ := y
 dsimp only
 rw [zeT, zeT]
 by_cases h1 : x1 = y1 <;> by_cases h2 : x2 = y2 <;> by_cases h3 : x3 = y3 <;> by_cases h4 : x4 = y4 <;> simp [h1, h2, h3, h4]
section
end
theorem fldsSrc : ∃ a b, (Tryz.prog.fieldsOf 49).toList = [a, b] ∧ a.name ≠ "_" ∧ b.name ≠ "_" ∧ a.type = 9 ∧ b.type = 9 ∧ a.offset = 0 ∧ b.offset = 1 :=
 ⟨_, _, rfl, by decide, by decide, rfl, rfl, rfl, rfl⟩
theorem eqlSrc (x y : Sc) (w : World) : (Op.equalIn (9999 + 1) 49 (.agg (srcC x).toArray) (.agg (srcC y).toArray)).run Tryz.prog w = .ok (decide (x = y)) w := by
 rw [run_equalIn_agg w 9999 49 _ _ (by rfl) (by kernel_rfl)]
 obtain ⟨a, b, hf, na, nb, ta, tb, oa, ob⟩ := fldsSrc
 rw [hf]
 simp only [Op.eqFields, na, nb, ne_eq, not_false_eq_true, if_true, ta, tb, oa, ob]
 have p0 : (part 9 (srcC x).toArray 0).run Tryz.prog w = .ok (.string (str x.name)) w := by rfl
 have p1 : (part 9 (srcC x).toArray 1).run Tryz.prog w = .ok (.string (str x.text)) w := by rfl
 have q0 : (part 9 (srcC y).toArray 0).run Tryz.prog w = .ok (.string (str y.name)) w := by rfl
 have q1 : (part 9 (srcC y).toArray 1).run Tryz.prog w = .ok (.string (str y.text)) w := by rfl
 have i1 (a b : Int) : (Op.equalIn (9998 + 1) 3 (.int .i64 a) (.int .i64 b)).run Tryz.prog w = .ok (a == b) w := run_equalIn_int w 9998 3 .i64 .i64 a b (by rfl)
 have i2 (a b : ByteArray) : (Op.equalIn (9998 + 1) 9 (.string a) (.string b)).run Tryz.prog w = .ok (a.toList == b.toList) w := run_equalIn_string w 9998 9 a b (by rfl)
 simp only [Sem.run_bind, Sem.run_ite, p0, q0, p1, q1, i2, Result.andThen_ok]
 obtain ⟨x0, x1⟩ := x
 obtain ⟨y0, y1⟩ := y
 dsimp only
 rw [zeT]; rw [zeT]
 by_cases h0 : x0 = y0 <;> by_cases h1 : x1 = y1 <;> simp [h0, h1]
theorem neqSrc (x y : Sc) (a b : Operand) {K : Value → World → Prop} {w : World} (k : K (.bool (!decide (x = y))) w) :
  RunV Tryz.prog (do eqGuard .neq 49 a b (.agg (srcC x).toArray) (.agg (srcC y).toArray); binOp .neq 49 (.agg (srcC x).toArray) (.agg (srcC y).toArray)) w K := by
 refine RunV.of ?_ k
 rw [Sem.run_bind, run_eqGuard_agg w .neq 49 a b _ _ (by kernel_rfl), Result.andThen_ok, run_neq_struct]
 rw [show (10000 : Nat) = 9999 + 1 from rfl, eqlSrc]
 rfl
theorem zpM {w : World} {va vb : Value} (la lb : List Sc) (ha : RowO w va srcC la) (hb : RowO w vb srcC lb) (hl : la.length ≤ 1000000) :
  Calls Tryz.prog 38 #[va, vb] w fun e w' => e = .returned (.bool (decide (la = lb))) ∧ Kp w w' n_ := by
 obtain ⟨a, ca, rfl, hra⟩ := ha
 obtain ⟨b, cb, rfl, hrb⟩ := hb
 refine zaa (args := [.slice a la.length ca, .slice b lb.length cb]) Tryz.func38 rfl NL ?_; refine GW ?_
 by_cases hn : la.length = lb.length
 rotate_left
 ·refine KGO ?_
  refine ⟨zag ?_, Kp.refl _ _⟩
  exact (decide_eq_false fun h => hn (by rw [h])).symm
 refine KGO ?_
 refine Loop.intro (ι := Nat) (fun i => [(0, .slice a la.length ca), (1, .slice b lb.length cb), (12, .int .i64 (la.length : Nat)), (13, .int .i64 (i : Nat))])
  (fun i wr => Kp w wr n_ ∧ i ≤ la.length ∧ la.take i = lb.take i) (fun i => la.length - i) 0 ⟨rfl, rfl, rfl, rfl, trivial⟩ ⟨Kp.refl _ _, Nat.zero_le _, rfl⟩ ?_
 rintro i gg wr ⟨hK, hi, ht⟩
 refine GW ?_
 by_cases hlt : i < la.length
 ·have hlt2 : i < lb.length := by omega
  obtain ⟨ga, oa, rfl, hga, hata⟩ := hra (by omega)
  obtain ⟨gb, ob, rfl, hgb, hatb⟩ := hrb (by omega)
  refine KGO ?_
  refine neqSrc _ _ _ _ ?_
  by_cases he : la[i] = lb[i]
  ·rw [decide_eq_true he]
   refine KGO ?_
   exact ⟨i + 1, ⟨rfl, rfl, rfl, v_int (by simp), trivial⟩, ⟨hK.drew, by omega, by rw [List.take_succ_eq_append_getElem hlt, List.take_succ_eq_append_getElem hlt2, ht, he]⟩, by dsimp only; omega⟩
  ·rw [decide_eq_false he]
   refine KGO ?_
   exact ⟨zag (decide_eq_false fun h => he (by simp [h])).symm, hK.drew⟩
 ·refine KGO ?_
  refine ⟨zag ?_, hK⟩
  have e : i = la.length := by omega
  rw [e, List.take_length, hn, List.take_length] at ht
  simp [ht]
theorem eqs_I {w : World} {va vb : Value} (la lb : List Int) (ha : RowO w va inC la) (hb : RowO w vb inC lb) (hl : la.length ≤ 1000000) :
  Calls Tryz.prog 31 #[va, vb] w fun e w' => e = .returned (.bool (decide (la = lb))) ∧ Kp w w' n_ := by
 obtain ⟨a, ca, rfl, hra⟩ := ha
 obtain ⟨b, cb, rfl, hrb⟩ := hb
 refine zaa (args := [.slice a la.length ca, .slice b lb.length cb]) Tryz.func31 rfl NL ?_; refine GW ?_
 by_cases hn : la.length = lb.length
 rotate_left
 ·refine KGO ?_
  refine ⟨zag ?_, Kp.refl _ _⟩
  exact (decide_eq_false fun h => hn (by rw [h])).symm
 refine KGO ?_
 refine Loop.intro (ι := Nat) (fun i => [(0, .slice a la.length ca), (1, .slice b lb.length cb), (12, .int .i64 (la.length : Nat)), (13, .int .i64 (i : Nat))])
  (fun i wr => Kp w wr n_ ∧ i ≤ la.length ∧ la.take i = lb.take i) (fun i => la.length - i) 0 ⟨rfl, rfl, rfl, rfl, trivial⟩ ⟨Kp.refl _ _, Nat.zero_le _, rfl⟩ ?_
 rintro i gg wr ⟨hK, hi, ht⟩
 refine GW ?_
 by_cases hlt : i < la.length
 ·have hlt2 : i < lb.length := by omega
  obtain ⟨ga, oa, rfl, hga, hata⟩ := hra (by omega)
  obtain ⟨gb, ob, rfl, hgb, hatb⟩ := hrb (by omega)
  have hca := zfb hata hlt
  have hcb := zfb hatb hlt2
  by_cases he : la[i] = lb[i]
  ·refine KGO ?_
   exact ⟨i + 1, ⟨rfl, rfl, rfl, v_int (by simp), trivial⟩, ⟨hK.drew, by omega, by rw [List.take_succ_eq_append_getElem hlt, List.take_succ_eq_append_getElem hlt2, ht, he]⟩, by dsimp only; omega⟩
  ·refine KGO ?_
   exact ⟨zag (decide_eq_false fun h => he (by simp [h])).symm, hK.drew⟩
 ·refine KGO ?_
  refine ⟨zag ?_, hK⟩
  have e : i = la.length := by omega
  rw [e, List.take_length, hn, List.take_length] at ht
  simp [ht]
theorem eqs_T {w : World} {va vb : Value} (la lb : List (List UInt8)) (ha : RowO w va txC la) (hb : RowO w vb txC lb) (hl : la.length ≤ 1000000) :
  Calls Tryz.prog 32 #[va, vb] w fun e w' => e = .returned (.bool (decide (la = lb))) ∧ Kp w w' n_ := by
 obtain ⟨a, ca, rfl, hra⟩ := ha
 obtain ⟨b, cb, rfl, hrb⟩ := hb
 refine zaa (args := [.slice a la.length ca, .slice b lb.length cb]) Tryz.func32 rfl NL ?_; refine GW ?_
 by_cases hn : la.length = lb.length
 rotate_left
 ·refine KGO ?_
  refine ⟨zag ?_, Kp.refl _ _⟩
  exact (decide_eq_false fun h => hn (by rw [h])).symm
 refine KGO ?_
 refine Loop.intro (ι := Nat) (fun i => [(0, .slice a la.length ca), (1, .slice b lb.length cb), (12, .int .i64 (la.length : Nat)), (13, .int .i64 (i : Nat))])
  (fun i wr => Kp w wr n_ ∧ i ≤ la.length ∧ la.take i = lb.take i) (fun i => la.length - i) 0 ⟨rfl, rfl, rfl, rfl, trivial⟩ ⟨Kp.refl _ _, Nat.zero_le _, rfl⟩ ?_
 rintro i gg wr ⟨hK, hi, ht⟩
 refine GW ?_
 by_cases hlt : i < la.length
 ·have hlt2 : i < lb.length := by omega
  obtain ⟨ga, oa, rfl, hga, hata⟩ := hra (by omega)
  obtain ⟨gb, ob, rfl, hgb, hatb⟩ := hrb (by omega)
  have hca := zdW hata hlt
  have hcb := zdW hatb hlt2
  by_cases he : la[i] = lb[i]
  ·have hd : str la[i] = str lb[i] := by rw [he]
   refine KGO ?_
   exact ⟨i + 1, ⟨rfl, rfl, rfl, v_int (by simp), trivial⟩, ⟨hK.drew, by omega, by rw [List.take_succ_eq_append_getElem hlt, List.take_succ_eq_append_getElem hlt2, ht, he]⟩, by dsimp only; omega⟩
  ·have hd : ¬ str la[i] = str lb[i] := fun h => he ((zfW _ _).1 h)
   refine KGO ?_
   exact ⟨zag (decide_eq_false fun h => he (by simp [h])).symm, hK.drew⟩
 ·refine KGO ?_
  refine ⟨zag ?_, hK⟩
  have e : i = la.length := by omega
  rw [e, List.take_length, hn, List.take_length] at ht
  simp [ht]
end Go.Proofs.YtcplagfblmemhaaGreatDoor
namespace Go.Proofs.YtcplagfblmemhaaGreatDoor
set_option linter.unusedVariables false
set_option maxHeartbeats 4000000
open Go.Shelf Go.RowKit Go.Pw Go.Vc Go.Cs Go.Lib
set_option linter.unusedVariables false
set_option maxRecDepth 100000
def dgL (d : Dg) : List Int := [d.d0, d.d1, d.d2, d.d3, d.d4, d.d5, d.d6, d.d7, d.d8, d.d9, d.d10, d.d11, d.d12, d.d13, d.d14, d.d15, d.d16, d.d17, d.d18, d.d19, d.d20, d.d21, d.d22, d.d23, d.d24, d.d25, d.d26, d.d27, d.d28, d.d29, d.d30, d.d31]
theorem zoC (d : Dg) : dgC d = (dgL d).map (Value.int .u8) := rfl
theorem zpf {a b : Dg} : dgL a = dgL b ↔ a = b := by
 constructor
 ·intro h
  cases a; cases b
  simp only [dgL, List.cons.injEq, and_true] at h
  simp only [Dg.mk.injEq]
  exact h
 ·rintro rfl; rfl
theorem znf : ∀ (xs ys : List Int), xs.length = ys.length → ((List.range xs.length).all fun i => xs.getD i 0 == ys.getD i 0) = decide (xs = ys) := fun xs ys h => by
 rw [Bool.eq_iff_iff, List.all_eq_true, decide_eq_true_eq]
 constructor
 ·intro hq
  refine List.ext_getElem h fun i h1 h2 => ?_
  have := hq i (List.mem_range.2 h1)
  rw [beq_iff_eq, List.getD_eq_getElem?_getD, List.getD_eq_getElem?_getD, List.getElem?_eq_getElem h1, List.getElem?_eq_getElem h2] at this
  exact this
 ·rintro rfl i _; simp
theorem znX (d : Nat) (t e : TypeId) (n : Nat) (w : World) (ht : Tryz.prog.underlying t = some (.array n e)) (he : Tryz.prog.underlying e = some (.int .u8)) (hsz : ∀ w, (sizeOf e).run Tryz.prog w = .ok 1 w)
  (xs ys : List Int) (hx : xs.length = n) (hy : ys.length = n) :
  (Op.equalIn (d + 2) t (.agg (xs.map (Value.int .u8)).toArray) (.agg (ys.map (Value.int .u8)).toArray)).run Tryz.prog w = .ok (decide (xs = ys)) w := by
 rw [← znf xs ys (hx.trans hy.symm), hx, List.range_eq_range', Op.equalIn]
 simp only [Sem.run_bind, run_underlying ht, Result.andThen_ok, hsz, Std.Legacy.Range.forIn_eq_forIn_range', Std.Legacy.Range.size, Nat.sub_zero, Nat.add_sub_cancel, Nat.div_one]
 have hl : ∀ i ∈ List.range' 0 n 1, i < n := fun i hi => by simpa using (List.mem_range'_1.1 hi).2
 generalize List.range' 0 n 1 = l at hl ⊢
 induction l with
 | nil => simp
 | cons i l ih =>
  have hi : i < n := hl i (by simp)
  have px : (part e (xs.map (Value.int .u8)).toArray (i * 1)).run Tryz.prog w = .ok (.int .u8 (xs.getD i 0)) w := by
   simp [part, isAgg, run_underlying he, List.getD, List.getElem?_eq_getElem (show i < xs.length by omega)]
  have py : (part e (ys.map (Value.int .u8)).toArray (i * 1)).run Tryz.prog w = .ok (.int .u8 (ys.getD i 0)) w := by
   simp [part, isAgg, run_underlying he, List.getD, List.getElem?_eq_getElem (show i < ys.length by omega)]
  have pe := run_equalIn_int (P := Tryz.prog) w d e .u8 .u8 (xs.getD i 0) (ys.getD i 0) he
  simp only [List.forIn_cons, Sem.run_bind, px, py, Result.andThen_ok, List.all_cons, show (Op.equalIn (d + 1) e (.int .u8 (xs.getD i 0)) (.int .u8 (ys.getD i 0))).run Tryz.prog w = .ok (xs.getD i 0 == ys.getD i 0) w by rw [pe]]
  cases hb : (xs.getD i 0 == ys.getD i 0)
  ·simp
  ·simp only [Bool.not_true, Bool.false_eq_true, if_false, Sem.run_pure, Result.andThen_ok, Bool.true_and]
   exact ih fun j hj => hl j (by simp [hj])
theorem zqN (x y : Dg) (a b : Operand) {K : Value → World → Prop} {w : World} (k : K (.bool (decide (x = y))) w) :
  RunV Tryz.prog (do eqGuard .eql 57 a b (.agg (dgC x).toArray) (.agg (dgC y).toArray); binOp .eql 57 (.agg (dgC x).toArray) (.agg (dgC y).toArray)) w K := by
 refine RunV.of ?_ k
 rw [Sem.run_bind, run_eqGuard_agg w .eql 57 a b _ _ (by kernel_rfl), Result.andThen_ok, run_eql_struct, zoC, zoC]
 rw [show (10000 : Nat) = 9998 + 2 from rfl, znX 9998 57 5 32 w (by rfl) (by rfl) (fun w => by rfl) (dgL x) (dgL y) rfl rfl]
 simp only [Result.andThen_ok, zpf]
section
end
theorem dg_at {w : World} {b : Nat} {x : Mr} (h : At w b 0 (mrC x)) : At w b (0 + 1) (dgC x.m.blob) := fun i u hi => by
 have hl : (dgC x.m.blob).length = 32 := rfl
 have hi2 : i < 32 := by have := (List.getElem?_eq_some_iff.1 hi).1; omega
 have := h (1 + i) u (by
  unfold mrC
  rw [Nat.add_comm, List.getElem?_cons_succ, List.getElem?_append_left (by omega)]
  exact hi)
 rw [show 0 + (1 + i) = 0 + 1 + i by omega] at this
 exact this
section
end
structure Ov where
 b : Sl
 a : Sl
 d : Sl
def opC (v : Ov) (o : Opr) : List Value := [.int .i64 o.kind, .int .i64 o.id, .int .i64 o.box, .int .i64 o.up, .string (str o.name), .string (str o.role), .string (str o.text)] ++ (dgC o.blob ++ [.slice v.b.a v.b.n v.b.c, .slice v.a.a v.a.n v.a.c, .slice v.d.a v.d.n v.d.c, .int .i64 o.at_, .int .i64 o.size, .int .i64 o.if_])
structure OpR (w : World) (v : Ov) (o : Opr) : Prop where
 b : RowI w v.b.v o.boxes
 a : RowT w v.a.v o.add
 d : RowT w v.d.v o.drop
theorem OpR.keep {w w' : World} {v : Ov} {o : Opr} (h : OpR w v o) (k : Kp w w' n_) : OpR w' v o := ⟨h.b.keep k, h.a.keep k, h.d.keep k⟩
structure FitO (o : Opr) : Prop where
 b : o.boxes.length ≤ 17592186043904
 a : o.add.length ≤ 8796093021952
 d : o.drop.length ≤ 8796093021952
 fa : ∀ f ∈ o.add, f.length ≤ 140737488355328
 fd : ∀ f ∈ o.drop, f.length ≤ 140737488355328
 nm : o.name.length ≤ 140737488355328
 rl : o.role.length ≤ 140737488355328
 tx : o.text.length ≤ 140737488355328
structure Drf (w : World) (B b : Nat) (h : Hd) (lx : List Mr) (A : Acc) : Prop where
 v : VarK w b 118 (accC h A)
 o : AccO w B h lx A
 lt : ∀ k ∈ h.bs ++ lx.flatMap Mr.bs, k < b
 B : B ≤ b
def otherT (T : TypeId) : Prop := 3 ≠ T ∧ 9 ≠ T ∧ 60 ≠ T ∧ 44 ≠ T ∧ 49 ≠ T ∧ 175 ≠ T
instance (T : TypeId) : Decidable (otherT T) := by unfold otherT; infer_instance
def isA (w : World) : Nat → Prop := fun q => ∃ cs T, VarK w q T cs ∧ otherT T
structure CapsH (h : Hd) : Prop where
 b : h.B.n ≤ h.B.c
 m : h.M.n ≤ h.M.c
 s : h.S.n ≤ h.S.c
 n : h.N.n ≤ h.N.c
theorem zgX {w : World} {B s n : Nat} {e : TypeId} {v : Sl} {xs : List Value} (h : w.ownsRow B e s v.v n xs) : v.n ≤ v.c := by
 obtain ⟨a, m, c⟩ := v
 show m ≤ c
 rcases h.2 with ⟨h1, h2⟩ | ⟨g, cap', cur, h1, hb, hgg, h3, h4, _⟩
 ·have h1 : Value.slice a m c = .slice none 0 0 := h1
  injection h1 with _ h5 h6
  omega
 ·have h1 : Value.slice a m c = .slice (some ⟨g, 0, none⟩) n cap' := h1
  injection h1 with _ h5 h6
  omega
def StabA (w : World) (h : Hd) (A : Acc) : Prop := CapsH h ∧ ∀ (w' : World), Kp w w' (isA w) → AccR w' h A
theorem StabA.of {w w2 : World} {h : Hd} {A : Acc} (s : StabA w h A) (k : Kp w w2 (isA w)) : StabA w2 h A := ⟨s.1, fun w' k2 =>
 s.2 w' ⟨k2.os.trans k.os, k2.tape.trans k.tape, k2.output.trans k.output, Nat.le_trans k.size k2.size, fun q hq hn => (k2.block q (Nat.lt_of_lt_of_le hq k.size) fun ⟨cs, T, hv, hT⟩ => hn ⟨cs, T, by
  unfold VarK at hv ⊢
  rw [← k.block q hq hn]; exact hv, hT⟩).trans (k.block q hq hn)⟩⟩
theorem StabA.keep {w w2 : World} {h : Hd} {A : Acc} (s : StabA w h A) (k : Kp w w2 n_) : StabA w2 h A := s.of (k.mono fun q _ hq => hq.elim)
theorem StabA.stepT {w w2 : World} {b : Nat} {T : TypeId} {cs : List Value} {h : Hd} {A : Acc} (s : StabA w h A) (hv : VarK w b T cs) (hT : otherT T) (k : Kp w w2 (one_ b)) : StabA w2 h A := s.of (k.mono fun q _ hq => by
 have e : q = b := hq
 subst e
 exact ⟨cs, T, hv, hT⟩)
theorem StabA.step {w w2 : World} {b : Nat} {cs : List Value} {h : Hd} {A : Acc} (s : StabA w h A) (hv : VarK w b 36 cs) (k : Kp w w2 (one_ b)) : StabA w2 h A := s.stepT hv (by decide) k
theorem StabA.read {w : World} {h : Hd} {A : Acc} (s : StabA w h A) : AccR w h A := s.2 w (Kp.refl _ _)
def Done (w' : World) (b : Nat) (e : Ending) : Except Nat (Acc × Int) → Prop
 | .error c => e = .returned (.tuple #[.int .i64 0, .int .i64 (c : Nat)])
 | .ok r => e = .returned (.tuple #[.int .i64 r.2, .int .i64 0]) ∧ ∃ h', VarK w' b 118 (accC h' r.1) ∧ AccR w' h' r.1 ∧ StabA w' h' r.1
theorem zau {o : Option Nat} {k : Nat} : k ∈ o.toList ↔ o = some k := by cases o <;> simp [eq_comm]
theorem zaR {w : World} {B s n b : Nat} {e T : TypeId} {v : Value} {xs cs : List Value} (h : w.ownsRow B e s v n xs) (hv : VarK w b T cs) (hne : e ≠ T) : ∀ q, v.ownBlock = some q → q ≠ b := fun q hq hqb => by
 subst hqb
 rcases h.2 with ⟨rfl, _⟩ | ⟨g, cap, cur, rfl, _, hr, _⟩
 ·cases hq
 ·injection hq with hq
  subst hq
  unfold VarK at hv
  rw [hr] at hv
  injection hv with hv
  injection hv with _ hv
  exact hne hv
structure AccP (w : World) (h : Hd) (lx : List Mr) (A : Acc) : Prop where
 b : OwnB w 0 h.B.v A.boxes
 s : OwnSrc w 0 h.S.v A.scripts
 n : OwnSn w 0 h.N.v A.seen
 m : OwnMl w 0 h.M.v lx
 ml : lx.map (·.m) = A.mails
 mb : ∀ x ∈ lx, OwnI w 0 x.b.v x.m.boxes ∧ OwnT w 0 x.f.v x.m.flags
def Hd.all (h : Hd) (lx : List Mr) : List Nat := h.bs ++ lx.flatMap Mr.bs
theorem Hd.all_b {h : Hd} {lx : List Mr} {k : Nat} (e : h.B.v.ownBlock = some k) : k ∈ h.all lx := List.mem_append_left _ (by unfold Hd.bs; simp [e])
theorem Hd.all_s {h : Hd} {lx : List Mr} {k : Nat} (e : h.S.v.ownBlock = some k) : k ∈ h.all lx := List.mem_append_left _ (by unfold Hd.bs; simp [e])
theorem Hd.all_n {h : Hd} {lx : List Mr} {k : Nat} (e : h.N.v.ownBlock = some k) : k ∈ h.all lx := List.mem_append_left _ (by unfold Hd.bs; simp [e])
theorem Hd.all_m {h : Hd} {lx : List Mr} {k : Nat} (e : h.M.v.ownBlock = some k) : k ∈ h.all lx := List.mem_append_left _ (by unfold Hd.bs; simp [e])
theorem Hd.all_x {h : Hd} {lx : List Mr} {k : Nat} {x : Mr} (hx : x ∈ lx) (e : x.b.v.ownBlock = some k ∨ x.f.v.ownBlock = some k) : k ∈ h.all lx :=
 List.mem_append_right _ (List.mem_flatMap.2 ⟨x, hx, by unfold Mr.bs; rw [List.mem_append, zau, zau]; exact e⟩)
theorem AccP.keep {w w' : World} {p : Nat → Prop} {h : Hd} {lx : List Mr} {A : Acc} (o : AccP w h lx A) (k : Kp w w' p) (hp : ∀ q ∈ h.all lx, ¬ p q) : AccP w' h lx A :=
  ⟨zad o.b k fun q hq => hp q (Hd.all_b hq), zad o.s k fun q hq => hp q (Hd.all_s hq), zad o.n k fun q hq => hp q (Hd.all_n hq), zad o.m k fun q hq => hp q (Hd.all_m hq), o.ml,
   fun x hx => ⟨zad (o.mb x hx).1 k fun q hq => hp q (Hd.all_x hx (.inl hq)), zad (o.mb x hx).2 k fun q hq => hp q (Hd.all_x hx (.inr hq))⟩⟩
theorem AccO.p {w : World} {B : Nat} {h : Hd} {lx : List Mr} {A : Acc} (o : AccO w B h lx A) : AccP w h lx A :=
 ⟨zaj o.b (Nat.zero_le _), zaj o.s (Nat.zero_le _), zaj o.n (Nat.zero_le _), zaj o.m (Nat.zero_le _), o.ml, fun x hx => ⟨zaj (o.mb x hx).1 (Nat.zero_le _), zaj (o.mb x hx).2 (Nat.zero_le _)⟩⟩
theorem AccP.read {w : World} {h : Hd} {lx : List Mr} {A : Acc} (o : AccP w h lx A) : AccR w h A :=
 ⟨zaH o.b, ⟨lx, o.ml, zaH o.m, fun x hx => ⟨zaH (o.mb x hx).1, zaH (o.mb x hx).2⟩⟩, zaH o.s, zaH o.n⟩
theorem AccP.stab {w : World} {h : Hd} {lx : List Mr} {A : Acc} (o : AccP w h lx A) : StabA w h A := ⟨⟨zgX o.b, zgX o.m, zgX o.s, zgX o.n⟩, fun w' k => (o.keep k fun q hq e => by
 obtain ⟨cs, T, hv, t1, t2, t3, t4, t5, t6⟩ := e
 unfold Hd.all Hd.bs at hq
 simp only [List.mem_append, zau] at hq
 rcases hq with (((hq | hq) | hq) | hq) | hq
 ·exact zaR o.b hv t4 q hq rfl
 ·exact zaR o.s hv t5 q hq rfl
 ·exact zaR o.n hv t6 q hq rfl
 ·exact zaR o.m hv t3 q hq rfl
 ·obtain ⟨x, hx, hq⟩ := List.mem_flatMap.1 hq
  unfold Mr.bs at hq
  rw [List.mem_append, zau, zau] at hq
  rcases hq with hq | hq
  ·exact zaR (o.mb x hx).1 hv t1 q hq rfl
  ·exact zaR (o.mb x hx).2 hv t2 q hq rfl).read⟩
abbrev from_ (B : Nat) : Nat → Prop := fun k => B ≤ k
theorem zeB (l : List Ml) (id : Int) : findA l id = findL l id := rfl
theorem Drf.keep {w w' : World} {B b : Nat} {h : Hd} {lx : List Mr} {A : Acc} (d : Drf w B b h lx A) (k : Kp w w' n_) : Drf w' B b h lx A := ⟨d.v.keep0 k, d.o.keep k, d.lt, d.B⟩
section
variable {w : World}
theorem ac_of {B b : Nat} {h : Hd} {lx : List Mr} {A : Acc} {v : Ov} {o : Opr} (hd : Drf w B b h lx A) (hl : A.mails.length ≤ 100000) :
  Calls Tryz.prog 95 #[.pointer (some ⟨b, 0, none⟩), .agg (opC v o).toArray] w fun e w' => (match ofA A o with
   | .error c => e = .returned (.tuple #[.pointer none, .int .i64 (c : Nat)])
   | .ok m => ∃ i g, ∃ hi : i < lx.length, e = .returned (.tuple #[.pointer (some ⟨g, 0 + i * 38, none⟩), .int .i64 0]) ∧ h.M.a = some ⟨g, 0, none⟩ ∧ lx[i].m = m ∧ m.id = o.id ∧ ∀ j (hj : j < i), (lx[j]'(by omega)).m.id ≠ o.id) ∧ Kp w w' n_ := by
 have hlx : lx.length = A.mails.length := by rw [← hd.o.ml, List.length_map]
 refine zaa (args := [.pointer (some ⟨b, 0, none⟩), .agg (opC v o).toArray]) Tryz.func95 rfl NL ?_; refine GW ?_
 obtain ⟨a_b1, v_b1, k_w1, z_w1, r_w1⟩ := new5 w 72 (opC v o)
 generalize w.alloc (.cells (List.toArray (opC v o)) 72) = w1 at *
 generalize hs_b1 : w.heap.size = b1 at *
 have hdA := hd.v.at
 refine KGO ?_
 refine CallS.of (Tryz.call39 _ _) (ziX (w := w1.drew) (h := h) (A := A) o.id (hd.o.read.keep k_w1.drew) (by omega)) ?_
 rintro e w2 ⟨rfl, k2⟩
 have J2 : Kp w1 w2 n_ := (Kp.refl w1 n_).drew.trans0 k2
 have K2 := k_w1.trans0 J2
 refine RT ?_
 have o6 := zab hd.o.m K2
 rcases place_find A.mails o.id with ⟨hp, hf⟩ | ⟨i, hi, hp, hf, hid, hfirst⟩
 ·rw [hp]
  have hof : ofA A o = .error 5 := by unfold ofA; rw [zeB, hf]
  rw [hof]
  refine KGO ?_
  exact ⟨rfl, K2⟩
 ·rw [hp]
  have hi2 : i < lx.length := by omega
  have hml := hd.o.ml
  have hxm : ∀ j (hj : j < lx.length), (lx[j]).m = A.mails[j]'(by omega) := fun j hj => by simp [← hml]
  rcases own_blockK o6 with ⟨h1, h0⟩ | ⟨g, cap, cells, he6, hBg, hv, hnc, hcm, hcl, htk⟩
  ·omega
  have hma : h.M.a = some ⟨g, 0, none⟩ := by injection he6
  have hmn : h.M.n = lx.length := by injection he6
  have hrow : At w2 g 0 (lx.flatMap mrC) := by
   have := zaH o6
   obtain ⟨a, c, e1, e2⟩ := this
   obtain ⟨g', o', e3, _, e4⟩ := e2 (by omega)
   injection e1 with e1 _ _
   rw [hma, e3] at e1
   injection e1 with e1
   injection e1 with e1 e5
   subst e1; subst e5
   exact e4
  have hd2 := zaf hdA K2
  unfold accC at hd2
  rw [hma, hmn] at hd2
  have kr := Kp.refl w2 n_
  have hmod : lx[i].m.mod = A.mails[i].mod := by rw [hxm]
  have hres : ∀ m, A.mails[i] = m → ∃ i' g', ∃ hi : i' < lx.length, Ending.returned (.tuple #[.pointer (some ⟨g, 0 + i * 38, none⟩), .int .i64 0]) = .returned (.tuple #[.pointer (some ⟨g', 0 + i' * 38, none⟩), .int .i64 0]) ∧ h.M.a = some ⟨g', 0, none⟩ ∧ lx[i'].m = m ∧ m.id = o.id ∧ ∀ j (hj : j < i'), (lx[j]'(by omega)).m.id ≠ o.id := fun m hm =>
   ⟨i, g, hi2, rfl, hma, by rw [hxm]; exact hm, by rw [← hm]; exact hid, fun j hj => by rw [hxm]; exact hfirst j hj⟩
  by_cases h1 : 0 ≤ o.if_
  ·by_cases h2 : o.if_ = lx[i].m.mod
   ·have hof : ofA A o = .ok A.mails[i] := by unfold ofA; rw [zeB, hf]; dsimp only; rw [if_neg (fun h => h.2 (by rw [← hmod]; exact h2))]
    rw [hof]
    refine KGO ?_
    exact ⟨hres _ rfl, K2.drew⟩
   ·have hof : ofA A o = .error 17 := by unfold ofA; rw [zeB, hf]; dsimp only; rw [if_pos ⟨h1, fun e => h2 (by rw [hmod]; exact e)⟩]
    rw [hof]
    refine KGO ?_
    exact ⟨rfl, K2.drew⟩
  ·have hof : ofA A o = .ok A.mails[i] := by unfold ofA; rw [zeB, hf]; dsimp only; rw [if_neg (fun h => h1 h.1)]
   rw [hof]
   refine KGO ?_
   exact ⟨hres _ rfl, K2.drew⟩
end
end Go.Proofs.YtcplagfblmemhaaGreatDoor
namespace Go.Proofs.YtcplagfblmemhaaGreatDoor
set_option linter.unusedVariables false
set_option maxHeartbeats 4000000
open Go.Shelf Go.RowKit Go.Pw Go.Vc Go.Cs Go.Lib Go.Cd Go.Cx
set_option linter.unusedVariables false
set_option maxRecDepth 100000
theorem zqx {x y : Ml} : x = y ↔ x.id = y.id ∧ x.blob = y.blob ∧ x.boxes = y.boxes ∧ x.flags = y.flags ∧ x.at_ = y.at_ ∧ x.size = y.size ∧ x.mod = y.mod := by
 cases x; cases y; simp
section
variable {w : World}
theorem zbn (x : Mr) : Calls Tryz.prog 34 #[.agg (mrC x).toArray] w fun e w' => e = .returned (.int .i64 x.m.id) ∧ Kp w w' n_ := by
 refine zaa (args := [.agg (mrC x).toArray]) Tryz.func34 rfl NL ?_; refine GW ?_
 obtain ⟨a_b1, v_b1, k_w1, z_w1, r_w1⟩ := new5 w 60 (mrC x)
 generalize w.alloc (.cells (List.toArray (mrC x)) 60) = w1 at *
 generalize hs_b1 : w.heap.size = b1 at *
 refine KGO ?_
 exact ⟨rfl, k_w1⟩
theorem zbH (x : Bx) : Calls Tryz.prog 36 #[.agg (boxCells x).toArray] w fun e w' => e = .returned (.int .i64 x.id) ∧ Kp w w' n_ := by
 refine zaa (args := [.agg (boxCells x).toArray]) Tryz.func36 rfl NL ?_; refine GW ?_
 obtain ⟨a_b1, v_b1, k_w1, z_w1, r_w1⟩ := new5 w 44 (boxCells x)
 generalize w.alloc (.cells (List.toArray (boxCells x)) 44) = w1 at *
 generalize hs_b1 : w.heap.size = b1 at *
 refine KGO ?_
 exact ⟨rfl, k_w1⟩
theorem zoX (x y : Bx) (a b : Operand) {K : Value → World → Prop} {w : World} (k : K (.bool (decide (x = y))) w) :
  RunV Tryz.prog (do eqGuard .eql 44 a b (.agg (boxCells x).toArray) (.agg (boxCells y).toArray); binOp .eql 44 (.agg (boxCells x).toArray) (.agg (boxCells y).toArray)) w K := by
 refine RunV.of ?_ k
 rw [Sem.run_bind, run_eqGuard_agg w .eql 44 a b _ _ (by kernel_rfl), Result.andThen_ok, run_eql_struct]
 rw [show (10000 : Nat) = 9999 + 1 from rfl, zqo x y w]
 simp only [Result.andThen_ok]
theorem zkM (x y : Bx) : Calls Tryz.prog 37 #[.agg (boxCells x).toArray, .agg (boxCells y).toArray] w fun e w' => e = .returned (.bool (decide (x = y))) ∧ Kp w w' n_ := by
 refine zaa (args := [.agg (boxCells x).toArray, .agg (boxCells y).toArray]) Tryz.func37 rfl NL ?_; refine GW ?_
 obtain ⟨a_b1, v_b1, k_w1, z_w1, r_w1⟩ := new5 w 44 (boxCells x)
 generalize w.alloc (.cells (List.toArray (boxCells x)) 44) = w1 at *
 generalize hs_b1 : w.heap.size = b1 at *
 obtain ⟨a_b2, v_b2, k_w2, z_w2, r_w2⟩ := new5 w1 44 (boxCells y)
 generalize w1.alloc (.cells (List.toArray (boxCells y)) 44) = w2 at *
 generalize hs_b2 : w1.heap.size = b2 at *
 have K2 : Kp w w2 n_ := k_w1.trans0 k_w2
 have a1 := zaf a_b1 k_w2
 clear a_b1
 refine KGO ?_
 refine zoX _ _ _ _ ?_
 refine KGO ?_
 exact ⟨rfl, K2⟩
theorem zif (x y : Mr) (hx : MailOk w x) (hy : MailOk w y) (h1 : x.m.boxes.length ≤ 1000000) (h2 : x.m.flags.length ≤ 1000000) (c1 : x.m.id = y.m.id) :
  Calls Tryz.prog 30 #[.agg (mrC x).toArray, .agg (mrC y).toArray] w fun e w' => e = .returned (.bool (decide (x.m = y.m))) ∧ Kp w w' n_ := by
 have hmm := zqx (x := x.m) (y := y.m)
 refine zaa (args := [.agg (mrC x).toArray, .agg (mrC y).toArray]) Tryz.func30 rfl NL ?_; refine GW ?_
 obtain ⟨a_b1, v_b1, k_w1, z_w1, r_w1⟩ := new5 w 60 (mrC x)
 generalize w.alloc (.cells (List.toArray (mrC x)) 60) = w1 at *
 generalize hs_b1 : w.heap.size = b1 at *
 obtain ⟨a_b2, v_b2, k_w2, z_w2, r_w2⟩ := new5 w1 60 (mrC y)
 generalize w1.alloc (.cells (List.toArray (mrC y)) 60) = w2 at *
 generalize hs_b2 : w1.heap.size = b2 at *
 have K2 : Kp w w2 n_ := k_w1.trans0 k_w2
 have a1 := zaf a_b1 k_w2
 have a2 := a_b2
 have d1 := dg_at a1
 have d2 := dg_at a2
 have kr2 := Kp.refl w2 n_
 clear a_b1 a_b2
 refine KGO ?_
 refine zqN _ _ _ _ ?_
 by_cases c2 : x.m.blob = y.m.blob
 rotate_left
 ·rw [decide_eq_false c2]
  refine KGO ?_
  exact ⟨zag (decide_eq_false fun h => c2 (hmm.1 h).2.1).symm, K2⟩
 rw [decide_eq_true c2]
 refine KGO ?_
 refine CallS.of (Tryz.call31 _ _) (eqs_I (w := w2) x.m.boxes y.m.boxes (hx.b.keep K2) (hy.b.keep K2) h1) ?_
 rintro e w3 ⟨rfl, k3⟩
 have K3 := K2.trans0 k3
 have a13 := zaf a1 k3
 have a23 := zaf a2 k3
 have kr3 := Kp.refl w3 n_
 refine RT ?_
 by_cases c3 : x.m.boxes = y.m.boxes
 rotate_left
 ·rw [decide_eq_false c3]
  refine KGO ?_
  exact ⟨zag (decide_eq_false fun h => c3 (hmm.1 h).2.2.1).symm, K3⟩
 rw [decide_eq_true c3]
 refine KGO ?_
 refine CallS.of (Tryz.call32 _ _) (eqs_T (w := w3) x.m.flags y.m.flags (hx.f.keep K3) (hy.f.keep K3) h2) ?_
 rintro e w4 ⟨rfl, k4⟩
 have K4 := K3.trans0 k4
 have a14 := zaf a13 k4
 have a24 := zaf a23 k4
 have kr4 := Kp.refl w4 n_
 refine RT ?_
 by_cases c4 : x.m.flags = y.m.flags
 rotate_left
 ·rw [decide_eq_false c4]
  refine KGO ?_
  exact ⟨zag (decide_eq_false fun h => c4 (hmm.1 h).2.2.2.1).symm, K4⟩
 rw [decide_eq_true c4]
 by_cases c5 : x.m.at_ = y.m.at_
 rotate_left
 ·refine KGO ?_
  exact ⟨zag (decide_eq_false fun h => c5 (hmm.1 h).2.2.2.2.1).symm, K4⟩
 by_cases c6 : x.m.size = y.m.size
 rotate_left
 ·refine KGO ?_
  exact ⟨zag (decide_eq_false fun h => c6 (hmm.1 h).2.2.2.2.2.1).symm, K4⟩
 refine KGO ?_
 exact ⟨zag (by rw [Bool.eq_iff_iff, beq_iff_eq, decide_eq_true_eq]; exact ⟨fun h => hmm.2 ⟨c1, c2, c3, c4, c5, c6, h⟩, fun h => (hmm.1 h).2.2.2.2.2.2⟩), K4⟩
theorem zaV {α : Type} {c : α → List Value} {s : Nat} (hc : ∀ x, (c x).length = s) {g o cap : Nat} {x : α} {X : List α} (hg : g < w.heap.size) (h : At w g o ((x :: X).flatMap c)) (hn : X.length + 1 ≤ cap) :
  RowO w (.slice (some ⟨g, if (1 : Int).toNat = cap then o else o + (1 : Int).toNat * s, none⟩) X.length (cap - (1 : Int).toNat)) c X := by
 refine ⟨_, _, rfl, fun hp => ?_⟩
 rw [if_neg (by have : (1 : Int).toNat = 1 := rfl; omega)]
 exact ⟨g, _, rfl, hg, by have := zgI hc h 1; simpa using this⟩
end
end Go.Proofs.YtcplagfblmemhaaGreatDoor
