/- Helper text of this claim: lemmas and contracts that the proved statement rests on; no conditions of its own. -/
import Derived.Test.YtohhkegmbgancaaGreatDoorGAdB
namespace Go.Proofs.YtohhkegmbgancaaGreatDoor
set_option maxHeartbeats 4000000
open Go.Shelf Go.RowKit Go.Pw Go.Vc Go.Cs Go.Lib
set_option linter.unusedVariables false
set_option maxRecDepth 100000
theorem zcD : ∀ (l m : List Int), l.Nodup → (∀ x ∈ l, x ∈ m) → l.length ≤ m.length
 | [], m, _, _ => Nat.zero_le _
 | a :: r, m, h, hs => by
  rw [List.nodup_cons] at h
  have := zcD r (m.erase a) h.2 fun x hx => (List.mem_erase_of_ne (fun (e : x = a) => h.1 (e ▸ hx))).2 (hs x (List.mem_cons_of_mem _ hx))
  rw [List.length_erase_of_mem (hs a (by simp))] at this
  have := List.length_pos_of_mem (hs a (by simp))
  rw [List.length_cons]; omega
theorem zmy {A : Acc} (g : GoodQ A) (hs : A.st ≤ 1099511627777) : Fit A := by
 have h1 := g.bx.len
 refine ⟨by omega, fun b hb => ⟨?_, ?_⟩, by have := g.ml; omega, fun m hm => ⟨?_, by have := (g.fit m hm).fl; omega⟩, fun m hm f hf => ?_, by have := g.sl; omega, fun s hs => ?_, by have := g.nl; omega, ⟨g.st, by omega⟩, by have := g.nm; unfold M40 at this; omega, by have := g.nb; unfold M40 at this; omega⟩
 ·have := ((zbj _).1 (g.bx.named b hb)).2.1; omega
 ·have h : ∀ r ∈ rolesL, r.length ≤ 1000000 := by decide
  exact h _ (g.bx.roles b hb)
 ·have f := g.fit m hm
  have := zcD m.boxes (A.boxes.map (·.id)) (zeA f.asc) fun x hx => by
   obtain ⟨b, hb, e⟩ := (zar _ _).1 (f.there x hx)
   exact e ▸ List.mem_map_of_mem hb
  rw [List.length_map] at this
  omega
 ·have := (g.fit m hm).fok f hf
  unfold flagB at this
  rw [Bool.and_eq_true, decide_eq_true_eq] at this
  omega
 ·have := g.src s hs
  unfold srcB scB at this
  rw [Bool.and_eq_true, Bool.and_eq_true, decide_eq_true_eq, decide_eq_true_eq] at this
  omega
theorem zkG : addL [] 0 inboxN inB 1 = ([⟨1, 0, inboxN, inB⟩], 0) := by decide +kernel
theorem zev : GoodP newA := by
 have h := (zlg (l := []) 0 inboxN inB 1).1 (by rw [zkG])
 have hb := (ziI h.1 h.2).1
 have he : newA.boxes = [⟨1, 0, inboxN, inB⟩] := by unfold newA newB; rw [zkG]
 have hi : insL [] ⟨1, 0, inboxN, inB⟩ = [⟨1, 0, inboxN, inB⟩] := rfl
 rw [hi] at hb
 exact ⟨⟨by decide, by decide, by decide, by rw [he]; exact hb, fun b hb => by rw [he] at hb; rw [List.mem_singleton.1 hb]; decide, by decide, .nil, fun m hm => (by simp [newA] at hm), by decide, .nil, fun s hs => (by simp [newA] at hs), by decide, fun s hs => (by simp [newA] at hs), by simp [newA], .inl rfl⟩, by decide⟩
def dgL (d : Dg) : List Int := [d.d0, d.d1, d.d2, d.d3, d.d4, d.d5, d.d6, d.d7, d.d8, d.d9, d.d10, d.d11, d.d12, d.d13, d.d14, d.d15, d.d16, d.d17, d.d18, d.d19, d.d20, d.d21, d.d22, d.d23, d.d24, d.d25, d.d26, d.d27, d.d28, d.d29, d.d30, d.d31]
theorem znE (d : Dg) : dgC d = (dgL d).map (Value.int .u8) := rfl
theorem znW {a b : Dg} : dgL a = dgL b ↔ a = b := by
 constructor
 ·intro h
  cases a; cases b
  simp only [dgL, List.cons.injEq, and_true] at h
  simp only [Dg.mk.injEq]
  exact h
 ·rintro rfl; rfl
theorem znr : ∀ (xs ys : List Int), xs.length = ys.length → ((List.range xs.length).all fun i => xs.getD i 0 == ys.getD i 0) = decide (xs = ys) := fun xs ys h => by
 rw [Bool.eq_iff_iff, List.all_eq_true, decide_eq_true_eq]
 constructor
 ·intro hq
  refine List.ext_getElem h fun i h1 h2 => ?_
  have := hq i (List.mem_range.2 h1)
  rw [beq_iff_eq, List.getD_eq_getElem?_getD, List.getD_eq_getElem?_getD, List.getElem?_eq_getElem h1, List.getElem?_eq_getElem h2] at this
  exact this
 ·rintro rfl i _; simp
theorem zmP (d : Nat) (t e : TypeId) (n : Nat) (w : World) (ht : Tryz.prog.underlying t = some (.array n e)) (he : Tryz.prog.underlying e = some (.int .u8)) (hsz : ∀ w, (sizeOf e).run Tryz.prog w = .ok 1 w)
  (xs ys : List Int) (hx : xs.length = n) (hy : ys.length = n) :
  (Op.equalIn (d + 2) t (.agg (xs.map (Value.int .u8)).toArray) (.agg (ys.map (Value.int .u8)).toArray)).run Tryz.prog w = .ok (decide (xs = ys)) w := by
 rw [← znr xs ys (hx.trans hy.symm), hx, List.range_eq_range', Op.equalIn]
 simp only [Sem.run_bind, run_underlying ht, Result.andThen_ok, hsz, Std.Legacy.Range.forIn_eq_forIn_range', Std.Legacy.Range.size, Nat.sub_zero, Nat.add_sub_cancel, Nat.div_one]
 have hl : ∀ i ∈ List.range' 0 n 1, i < n := fun i hi => by simpa using (List.mem_range'_1.1 hi).2
 generalize List.range' 0 n 1 = l at hl ⊢
 induction l with
 | nil => simp
 | cons i l ih =>
  have hi : i < n := hl i (by simp)
  have px : (part e (xs.map (Value.int .u8)).toArray (i * 1)).run Tryz.prog w = .ok (.int .u8 (xs.getD i 0)) w := by
   simp [part, isAgg, run_underlying he, List.getD, List.getElem?_eq_getElem (show i < xs.length by omega)]
  have py : (part e (ys.map (Value.int .u8)).toArray (i * 1)).run Tryz.prog w = .ok (.int .u8 (ys.getD i 0)) w := by
   simp [part, isAgg, run_underlying he, List.getD, List.getElem?_eq_getElem (show i < ys.length by omega)]
  have pe := run_equalIn_int (P := Tryz.prog) w d e .u8 .u8 (xs.getD i 0) (ys.getD i 0) he
  simp only [List.forIn_cons, Sem.run_bind, px, py, Result.andThen_ok, List.all_cons, show (Op.equalIn (d + 1) e (.int .u8 (xs.getD i 0)) (.int .u8 (ys.getD i 0))).run Tryz.prog w = .ok (xs.getD i 0 == ys.getD i 0) w by rw [pe]]
  cases hb : (xs.getD i 0 == ys.getD i 0)
  ·simp
  ·simp only [Bool.not_true, Bool.false_eq_true, if_false, Sem.run_pure, Result.andThen_ok, Bool.true_and]
   exact ih fun j hj => hl j (by simp [hj])
theorem znN (x y : Dg) (a b : Operand) {K : Value → World → Prop} {w : World} (k : K (.bool (decide (x = y))) w) :
  RunV Tryz.prog (do eqGuard .eql 24 a b (.agg (dgC x).toArray) (.agg (dgC y).toArray); binOp .eql 24 (.agg (dgC x).toArray) (.agg (dgC y).toArray)) w K := by
 refine RunV.of ?_ k
 rw [Sem.run_bind, run_eqGuard_agg w .eql 24 a b _ _ (by kernel_rfl), Result.andThen_ok, run_eql_struct, znE, znE]
 rw [show (10000 : Nat) = 9998 + 2 from rfl, zmP 9998 24 5 32 w (by rfl) (by rfl) (fun w => by rfl) (dgL x) (dgL y) rfl rfl]
 simp only [Result.andThen_ok, znW]
section
variable {w : World}
theorem zcY {va vb : Value} (la lb : List Int) (ha : RowI w va la) (hb : RowI w vb lb) (hl : la.length ≤ 1000000) (hl2 : lb.length ≤ 1000000) :
  Calls Tryz.prog 14 #[va, vb] w fun e w' => e = .returned (.bool (decide (la = lb))) ∧ Kp w w' n_ := by
 obtain ⟨a, ca, rfl, hra⟩ := ha
 obtain ⟨b, cb, rfl, hrb⟩ := hb
 refine zaa (args := [.slice a la.length ca, .slice b lb.length cb]) Tryz.func14 rfl NL ?_; refine GW ?_
 by_cases hn : la.length = lb.length
 rotate_left
 ·refine KGO ?_
  refine ⟨zad ?_, Kp.refl _ _⟩
  exact (decide_eq_false fun h => hn (by rw [h])).symm
 refine KGO ?_
 refine Loop.intro (ι := Nat) (fun i => [(0, .slice a la.length ca), (1, .slice b lb.length cb), (5, .int .i64 (i : Nat))])
  (fun i wr => Kp w wr n_ ∧ i ≤ la.length ∧ la.take i = lb.take i) (fun i => la.length - i) 0 ⟨rfl, rfl, rfl, trivial⟩ ⟨Kp.refl _ _, Nat.zero_le _, rfl⟩ ?_
 rintro i gg wr ⟨hK, hi, ht⟩
 refine GW ?_
 by_cases hlt : i < la.length
 ·have hlt2 : i < lb.length := by omega
  obtain ⟨ga, oa, rfl, hga, hata⟩ := hra (by omega)
  obtain ⟨gb, ob, rfl, hgb, hatb⟩ := hrb (by omega)
  have ca := zbS hata hlt
  have cb := zbS hatb hlt2
  by_cases he : la[i] = lb[i]
  ·rw [he] at ca
   refine KGO ?_
   exact ⟨i + 1, ⟨rfl, rfl, v_int (by simp), trivial⟩, ⟨hK.drew, by omega, by rw [List.take_succ_eq_append_getElem hlt, List.take_succ_eq_append_getElem hlt2, ht, he]⟩, by dsimp only; omega⟩
  ·refine KGO ?_
   refine ⟨zad ?_, hK.drew⟩
   exact (decide_eq_false fun h => he (by subst h; rfl)).symm
 ·refine KGO ?_
  refine ⟨zad ?_, hK⟩
  rw [List.take_of_length_le (by omega), List.take_of_length_le (by omega)] at ht
  exact (decide_eq_true ht).symm
theorem zhG {va vb : Value} (la lb : List (List UInt8)) (ha : RowT w va la) (hb : RowT w vb lb) (hl : la.length ≤ 1000000) (hl2 : lb.length ≤ 1000000) :
  Calls Tryz.prog 42 #[va, vb] w fun e w' => e = .returned (.bool (decide (la = lb))) ∧ Kp w w' n_ := by
 obtain ⟨a, ca, rfl, hra⟩ := ha
 obtain ⟨b, cb, rfl, hrb⟩ := hb
 refine zaa (args := [.slice a la.length ca, .slice b lb.length cb]) Tryz.func42 rfl NL ?_; refine GW ?_
 by_cases hn : la.length = lb.length
 rotate_left
 ·refine KGO ?_
  refine ⟨zad ?_, Kp.refl _ _⟩
  exact (decide_eq_false fun h => hn (by rw [h])).symm
 refine KGO ?_
 refine Loop.intro (ι := Nat) (fun i => [(0, .slice a la.length ca), (1, .slice b lb.length cb), (5, .int .i64 (i : Nat))])
  (fun i wr => Kp w wr n_ ∧ i ≤ la.length ∧ la.take i = lb.take i) (fun i => la.length - i) 0 ⟨rfl, rfl, rfl, trivial⟩ ⟨Kp.refl _ _, Nat.zero_le _, rfl⟩ ?_
 rintro i gg wr ⟨hK, hi, ht⟩
 refine GW ?_
 by_cases hlt : i < la.length
 ·have hlt2 : i < lb.length := by omega
  obtain ⟨ga, oa, rfl, hga, hata⟩ := hra (by omega)
  obtain ⟨gb, ob, rfl, hgb, hatb⟩ := hrb (by omega)
  have ca := zbB hata hlt
  have cb := zbB hatb hlt2
  by_cases he : la[i] = lb[i]
  ·rw [he] at ca
   refine KGO ?_
   exact ⟨i + 1, ⟨rfl, rfl, v_int (by simp), trivial⟩, ⟨hK.drew, by omega, by rw [List.take_succ_eq_append_getElem hlt, List.take_succ_eq_append_getElem hlt2, ht, he]⟩, by dsimp only; omega⟩
  ·have he2 : ¬ str la[i] = str lb[i] := fun e => he (zbm.1 e)
   refine KGO ?_
   refine ⟨zad ?_, hK.drew⟩
   exact (decide_eq_false fun h => he (by subst h; rfl)).symm
 ·refine KGO ?_
  refine ⟨zad ?_, hK⟩
  rw [List.take_of_length_le (by omega), List.take_of_length_le (by omega)] at ht
  exact (decide_eq_true ht).symm
theorem znI {va : Value} (la : List Int) (n : Int) (ha : RowI w va la) (hl : la.length ≤ 1000000) :
  Calls Tryz.prog 16 #[va, .int .i64 n] w fun e w' => e = .returned (.bool (decide (n ∈ la))) ∧ Kp w w' n_ := by
 obtain ⟨a, ca, rfl, hra⟩ := ha
 refine zaa (args := [.slice a la.length ca, .int .i64 n]) Tryz.func16 rfl NL ?_; refine GW ?_
 refine Loop.intro (ι := Nat) (fun i => [(0, .slice a la.length ca), (1, .int .i64 n), (5, .int .i64 (i : Nat))])
  (fun i wr => Kp w wr n_ ∧ i ≤ la.length ∧ n ∉ la.take i) (fun i => la.length - i) 0 ⟨rfl, rfl, rfl, trivial⟩ ⟨Kp.refl _ _, Nat.zero_le _, by simp⟩ ?_
 rintro i gg wr ⟨hK, hi, ht⟩
 refine GW ?_
 by_cases hlt : i < la.length
 ·obtain ⟨ga, oa, rfl, hga, hata⟩ := hra (by omega)
  have ca := zbS hata hlt
  by_cases he : la[i] = n
  ·refine KGO ?_
   exact ⟨zad (decide_eq_true (he ▸ List.getElem_mem hlt)).symm, hK⟩
  ·refine KGO ?_
   exact ⟨i + 1, ⟨rfl, rfl, v_int (by simp), trivial⟩, ⟨hK, by omega, by
    rw [List.take_succ_eq_append_getElem hlt, List.mem_append, List.mem_singleton]
    exact fun q => q.elim ht fun q => he q.symm⟩, by dsimp only; omega⟩
 ·refine KGO ?_
  rw [List.take_of_length_le (by omega)] at ht
  exact ⟨zad (decide_eq_false ht).symm, hK⟩
end
theorem dg_at {w : World} {b : Nat} {x : Mr} (h : At w b 0 (mrC x)) : At w b (0 + 1) (dgC x.m.blob) := fun i u hi => by
 have hl : (dgC x.m.blob).length = 32 := rfl
 have hi2 : i < 32 := by have := (List.getElem?_eq_some_iff.1 hi).1; omega
 have := h (1 + i) u (by
  unfold mrC
  rw [Nat.add_comm, List.getElem?_cons_succ, List.getElem?_append_left (by omega)]
  exact hi)
 rw [show 0 + (1 + i) = 0 + 1 + i by omega] at this
 exact this
section
variable {w : World}
theorem zdb (x y : Mr) (hx : MailOk w x) (hy : MailOk w y) (h1 : x.m.boxes.length ≤ 1000000) (h2 : x.m.flags.length ≤ 1000000) (h3 : y.m.boxes.length ≤ 1000000) (h4 : y.m.flags.length ≤ 1000000) :
  Calls Tryz.prog 12 #[.agg (mrC x).toArray, .agg (mrC y).toArray] w fun e w' => e = .returned (.bool (decide (x.m = y.m))) ∧ Kp w w' n_ := by
 have hmm : x.m = y.m ↔ x.m.boxes = y.m.boxes ∧ x.m.flags = y.m.flags ∧ x.m.id = y.m.id ∧ x.m.blob = y.m.blob ∧ x.m.at_ = y.m.at_ ∧ x.m.size = y.m.size ∧ x.m.mod = y.m.mod := by
  constructor
  ·intro h; rw [h]; simp
  ·rintro ⟨e1, e2, e3, e4, e5, e6, e7⟩
   obtain ⟨m, _, _⟩ := x
   obtain ⟨n, _, _⟩ := y
   cases m; cases n
   simp_all
 refine zaa (args := [.agg (mrC x).toArray, .agg (mrC y).toArray]) Tryz.func12 rfl NL ?_; refine GW ?_
 obtain ⟨a_b1, v_b1, k_w1, z_w1, r_w1⟩ := new5 w 42 (mrC x)
 generalize w.alloc (.cells (List.toArray (mrC x)) 42) = w1 at *
 generalize hs_b1 : w.heap.size = b1 at *
 obtain ⟨a_b2, v_b2, k_w2, z_w2, r_w2⟩ := new5 w1 42 (mrC y)
 generalize w1.alloc (.cells (List.toArray (mrC y)) 42) = w2 at *
 generalize hs_b2 : w1.heap.size = b2 at *
 have K2 : Kp w w2 n_ := k_w1.trans0 k_w2
 have a1 := zac a_b1 k_w2
 have a2 := a_b2
 have kr2 := Kp.refl w2 n_
 refine KGO ?_
 refine CallS.of (Tryz.call14 _ _) (zcY (w := w2) x.m.boxes y.m.boxes (hx.b.keep K2) (hy.b.keep K2) h1 h3) ?_
 rintro e w3 ⟨rfl, k3⟩
 have K3 := K2.trans0 k3
 have a13 := zac a1 k3
 have a23 := zac a2 k3
 have kr3 := Kp.refl w3 n_
 refine RT ?_
 refine KGO ?_
 refine CallS.of (Tryz.call42 _ _) (zhG (w := w3) x.m.flags y.m.flags (hx.f.keep K3) (hy.f.keep K3) h2 h4) ?_
 rintro e w4 ⟨rfl, k4⟩
 have K4 := K3.trans0 k4
 have a14 := zac a13 k4
 have a24 := zac a23 k4
 have d14 := dg_at a14
 have d24 := dg_at a24
 have kr4 := Kp.refl w4 n_
 refine RT ?_
 by_cases c1 : x.m.boxes = y.m.boxes
 rotate_left
 ·rw [decide_eq_false c1]
  refine KGO ?_
  exact ⟨zad (decide_eq_false fun h => c1 (hmm.1 h).1).symm, K4⟩
 rw [decide_eq_true c1]
 by_cases c2 : x.m.flags = y.m.flags
 rotate_left
 ·rw [decide_eq_false c2]
  refine KGO ?_
  exact ⟨zad (decide_eq_false fun h => c2 (hmm.1 h).2.1).symm, K4⟩
 rw [decide_eq_true c2]
 by_cases c3 : x.m.id = y.m.id
 rotate_left
 ·refine KGO ?_
  exact ⟨zad (decide_eq_false fun h => c3 (hmm.1 h).2.2.1).symm, K4⟩
 refine KGO ?_
 refine znN _ _ _ _ ?_
 by_cases c4 : x.m.blob = y.m.blob
 rotate_left
 ·rw [decide_eq_false c4]
  refine KGO ?_
  exact ⟨zad (decide_eq_false fun h => c4 (hmm.1 h).2.2.2.1).symm, K4⟩
 rw [decide_eq_true c4]
 by_cases c5 : x.m.at_ = y.m.at_
 rotate_left
 ·refine KGO ?_
  exact ⟨zad (decide_eq_false fun h => c5 (hmm.1 h).2.2.2.2.1).symm, K4⟩
 by_cases c6 : x.m.size = y.m.size
 rotate_left
 ·refine KGO ?_
  exact ⟨zad (decide_eq_false fun h => c6 (hmm.1 h).2.2.2.2.2.1).symm, K4⟩
 refine KGO ?_
 exact ⟨zad (by rw [Bool.eq_iff_iff, beq_iff_eq, decide_eq_true_eq]; exact ⟨fun h => hmm.2 ⟨c1, c2, c3, c4, c5, c6, h⟩, fun h => (hmm.1 h).2.2.2.2.2.2⟩), K4⟩
end
def opC' (p : Ov × Opr) : List Value := opC p.1 p.2
def RowOp (w : World) (v : Value) (l : List Opr) : Prop := ∃ lv : List (Ov × Opr), lv.map (·.2) = l ∧ RowO w v opC' lv ∧ ∀ p ∈ lv, OpR w p.1 p.2
section
end
section
variable {w : World}
theorem zmF {v : Value} (l : List Opr) (hv : RowOp w v l) (hl : l.length ≤ 1000000000000) (hf : ∀ o ∈ l, FitO o) :
  Calls Tryz.prog 8 #[v] w fun e w' => (∃ q, e = .returned (.bool q) ∧ (q = true → l.length ≤ 40)) ∧ Kp w w' n_ := by
 obtain ⟨lv, hlv, hr, hop⟩ := hv
 have hlen : lv.length = l.length := by rw [← hlv, List.length_map]
 obtain ⟨a, cap, rfl, hr⟩ := hr
 refine zaa (args := [.slice a lv.length cap]) Tryz.func8 rfl NL ?_; refine GW ?_
 refine Loop.intro (ι := Nat × Int) (fun p => [(0, .slice a lv.length cap), (3, .int .i64 p.2), (4, .int .i64 (p.1 : Nat))])
  (fun p wr => Kp w wr n_ ∧ p.1 ≤ lv.length ∧ -9223372036854775808 ≤ p.2 ∧ p.2 ≤ 9223372036854775807) (fun p => lv.length - p.1) (0, 0) ⟨rfl, rfl, rfl, trivial⟩ ⟨Kp.refl _ _, Nat.zero_le _, by decide, by decide⟩ ?_
 rintro ⟨i, z⟩ gg wr ⟨hK, hi, hz1, hz2⟩
 dsimp only at hi hz1 hz2 ⊢
 refine GW ?_
 by_cases hlt : i < lv.length
 ·obtain ⟨gb, o, rfl, hgb, hat⟩ := hr (by omega)
  have hat := zac hat hK
  have kr := Kp.refl wr n_
  have hO := hop lv[i] (List.getElem_mem hlt)
  have hfo := hf lv[i].2 (by rw [← hlv]; exact List.mem_map_of_mem (List.getElem_mem hlt))
  have hfa := hfo.a
  have hfd := hfo.d
  have hbn : lv[i].1.b.n = lv[i].2.boxes.length := RowO.len hO.b
  have han : lv[i].1.a.n = lv[i].2.add.length := RowO.len hO.a
  have hdn : lv[i].1.d.n = lv[i].2.drop.length := RowO.len hO.d
  refine KGO ?_
  try (refine Num.any (fun zz hzz1 hzz2 _ => ?_) rfl; refine KGO ?_)
  try (refine Num.any (fun zz hzz1 hzz2 _ => ?_) rfl; refine KGO ?_)
  try (refine Num.any (fun zz hzz1 hzz2 _ => ?_) rfl; refine KGO ?_)
  try (refine Num.any (fun zz hzz1 hzz2 _ => ?_) rfl; refine KGO ?_)
  try (refine Num.any (fun zz hzz1 hzz2 _ => ?_) rfl; refine KGO ?_)
  try (refine Num.any (fun zz hzz1 hzz2 _ => ?_) rfl; refine KGO ?_)
  try (refine Num.any (fun zz hzz1 hzz2 _ => ?_) rfl; refine KGO ?_)
  try (refine Num.any (fun zz hzz1 hzz2 _ => ?_) rfl; refine KGO ?_)
  try (refine Num.any (fun zz hzz1 hzz2 _ => ?_) rfl; refine KGO ?_)
  have K1 : Kp w wr.drew n_ := hK.drew
  have hat1 : At wr.drew gb o (lv.flatMap opC') := hat
  clear hat hK kr
  generalize wr.drew = w1 at *
  refine Loop.intro (ι := Nat × Int) (fun q => [(0, .slice (some ⟨gb, o, none⟩) lv.length cap), (3, .int .i64 q.2), (4, .int .i64 (i : Nat)), (5, .int .i64 (q.1 : Nat))])
   (fun q w2 => Kp w1 w2 n_ ∧ q.1 ≤ lv[i].2.add.length ∧ -9223372036854775808 ≤ q.2 ∧ q.2 ≤ 9223372036854775807) (fun q => lv[i].2.add.length - q.1) (0, zz) ⟨rfl, rfl, rfl, rfl, trivial⟩ ⟨Kp.refl _ _, Nat.zero_le _, hzz1, hzz2⟩ ?_
  clear hz1 hz2
  rintro ⟨k, z1⟩ g1 w2 ⟨hK2, hk, hz1, hz2⟩
  dsimp only at hk hz1 hz2 ⊢
  refine GW ?_
  by_cases hka : k < lv[i].2.add.length
  ·obtain ⟨ra, rc, re, rh⟩ := hO.a
   obtain ⟨g2, o2, rfl, hg2, hat2⟩ := rh (by omega)
   injection re with re _ _
   have hat2 := zac hat2 (K1.trans0 hK2)
   have ct := zbB hat2 hka
   refine KGO ?_
   rw [re]
   refine KGO ?_
   refine Num.any (fun zz hzz1 hzz2 _ => ?_) rfl
   refine KGO ?_
   exact ⟨(k + 1, zz), ⟨rfl, rfl, rfl, v_int (by simp), trivial⟩, ⟨hK2, by dsimp only; omega, hzz1, hzz2⟩, by dsimp only; omega⟩
  ·refine KGO ?_
   have K3 := K1.trans0 hK2
   have hat2 := zac hat1 hK2
   clear hat1
   refine Loop.intro (ι := Nat × Int) (fun q => [(0, .slice (some ⟨gb, o, none⟩) lv.length cap), (3, .int .i64 q.2), (4, .int .i64 (i : Nat)), (6, .int .i64 (q.1 : Nat))])
    (fun q w3 => Kp w2 w3 n_ ∧ q.1 ≤ lv[i].2.drop.length ∧ -9223372036854775808 ≤ q.2 ∧ q.2 ≤ 9223372036854775807) (fun q => lv[i].2.drop.length - q.1) (0, z1) ⟨rfl, rfl, rfl, rfl, trivial⟩ ⟨Kp.refl _ _, Nat.zero_le _, hz1, hz2⟩ ?_
   clear hz1 hz2 hk hka
   rintro ⟨k, z1⟩ g1 w3 ⟨hK4, hk, hz1, hz2⟩
   dsimp only at hk hz1 hz2 ⊢
   refine GW ?_
   by_cases hka : k < lv[i].2.drop.length
   ·obtain ⟨ra, rc, re, rh⟩ := hO.d
    obtain ⟨g2, o2, rfl, hg2, hat3⟩ := rh (by omega)
    injection re with re _ _
    have hat3 := zac hat3 (K3.trans0 hK4)
    have ct := zbB hat3 hka
    refine KGO ?_
    rw [re]
    refine KGO ?_
    refine Num.any (fun zz hzz1 hzz2 _ => ?_) rfl
    refine KGO ?_
    exact ⟨(k + 1, zz), ⟨rfl, rfl, rfl, v_int (by simp), trivial⟩, ⟨hK4, by dsimp only; omega, hzz1, hzz2⟩, by dsimp only; omega⟩
   ·refine KGO ?_
    exact ⟨(i + 1, z1), ⟨rfl, rfl, v_int (by simp), trivial⟩, ⟨K3.trans0 hK4, by dsimp only; omega, hz1, hz2⟩, by dsimp only; omega⟩
 ·by_cases h40 : l.length ≤ 40
  ·refine KGO ?_
   exact ⟨⟨_, rfl, fun _ => h40⟩, hK⟩
  ·refine KGO ?_
   exact ⟨⟨_, rfl, fun h => by cases h⟩, hK⟩
end
end Go.Proofs.YtohhkegmbgancaaGreatDoor
namespace Go.Proofs.YtohhkegmbgancaaGreatDoor
set_option maxHeartbeats 4000000
open Go.RowKit Go.Pw Go.Vc Go.Cs Go.Lib
set_option linter.unusedVariables false
set_option maxRecDepth 100000
section
end
section
end
theorem boxFields : ∃ a b c d, (Tryz.prog.fieldsOf 74).toList = [a, b, c, d] ∧ a.name ≠ "_" ∧ b.name ≠ "_" ∧ c.name ≠ "_" ∧ d.name ≠ "_" ∧ a.type = 3 ∧ b.type = 3 ∧ c.type = 9 ∧ d.type = 9 ∧ a.offset = 0 ∧ b.offset = 1 ∧ c.offset = 2 ∧ d.offset = 3 :=
 ⟨_, _, _, _, rfl, by decide, by decide, by decide, by decide, rfl, rfl, rfl, rfl, rfl, rfl, rfl, rfl⟩
theorem zph (x y : Bx) (w : World) : (Op.equalIn (9999 + 1) 74 (.agg (boxCells x).toArray) (.agg (boxCells y).toArray)).run Tryz.prog w = .ok (decide (x = y)) w := by
 rw [run_equalIn_agg w 9999 74 _ _ (by rfl) (by kernel_rfl)]
 obtain ⟨a, b, c, d, hf, na, nb, nc, nd, ta, tb, tc, td, oa, ob, oc, od⟩ := boxFields
 rw [hf]
 simp only [Op.eqFields, na, nb, nc, nd, ne_eq, not_false_eq_true, if_true, ta, tb, tc, td, oa, ob, oc, od]
 have p0 : (part 3 (boxCells x).toArray 0).run Tryz.prog w = .ok (.int .i64 x.id) w := by rfl
 have p1 : (part 3 (boxCells x).toArray 1).run Tryz.prog w = .ok (.int .i64 x.up) w := by rfl
 have p2 : (part 9 (boxCells x).toArray 2).run Tryz.prog w = .ok (.string (str x.name)) w := by rfl
 have p3 : (part 9 (boxCells x).toArray 3).run Tryz.prog w = .ok (.string (str x.role)) w := by rfl
 have q0 : (part 3 (boxCells y).toArray 0).run Tryz.prog w = .ok (.int .i64 y.id) w := by rfl
 have q1 : (part 3 (boxCells y).toArray 1).run Tryz.prog w = .ok (.int .i64 y.up) w := by rfl
 have q2 : (part 9 (boxCells y).toArray 2).run Tryz.prog w = .ok (.string (str y.name)) w := by rfl
 have q3 : (part 9 (boxCells y).toArray 3).run Tryz.prog w = .ok (.string (str y.role)) w := by rfl
 have i1 (a b : Int) : (Op.equalIn (9998 + 1) 3 (.int .i64 a) (.int .i64 b)).run Tryz.prog w = .ok (a == b) w := run_equalIn_int w 9998 3 .i64 .i64 a b (by rfl)
 have i2 (a b : ByteArray) : (Op.equalIn (9998 + 1) 9 (.string a) (.string b)).run Tryz.prog w = .ok (a.toList == b.toList) w := run_equalIn_string w 9998 9 a b (by rfl)
 simp only [Sem.run_bind, Sem.run_ite, p0, p1, p2, p3, q0, q1, q2, q3, i1, i2, Result.andThen_ok]
 obtain ⟨x1, x2, x3, x4⟩ := x
 obtain ⟨y1, y2, y3, y4⟩ := y
 dsimp only
 rw [zdM, zdM]
 by_cases h1 : x1 = y1 <;> by_cases h2 : x2 = y2 <;> by_cases h3 : x3 = y3 <;> by_cases h4 : x4 = y4 <;> simp [h1, h2, h3, h4]
theorem zlH (x y : Bx) (a b : Operand) {K : Value → World → Prop} {w : World} (k : K (.bool (!decide (x = y))) w) :
  RunV Tryz.prog (do eqGuard .neq 74 a b (.agg (boxCells x).toArray) (.agg (boxCells y).toArray); binOp .neq 74 (.agg (boxCells x).toArray) (.agg (boxCells y).toArray)) w K := by
 refine RunV.of ?_ k
 rw [Sem.run_bind, run_eqGuard_agg w .neq 74 a b _ _ (by kernel_rfl), Result.andThen_ok, run_neq_struct]
 rw [show (10000 : Nat) = 9999 + 1 from rfl, zph]
 rfl
section
end
theorem fldsSrc : ∃ a b, (Tryz.prog.fieldsOf 76).toList = [a, b] ∧ a.name ≠ "_" ∧ b.name ≠ "_" ∧ a.type = 9 ∧ b.type = 9 ∧ a.offset = 0 ∧ b.offset = 1 :=
 ⟨_, _, rfl, by decide, by decide, rfl, rfl, rfl, rfl⟩
theorem eqlSrc (x y : Sc) (w : World) : (Op.equalIn (9999 + 1) 76 (.agg (srcC x).toArray) (.agg (srcC y).toArray)).run Tryz.prog w = .ok (decide (x = y)) w := by
 rw [run_equalIn_agg w 9999 76 _ _ (by rfl) (by kernel_rfl)]
 obtain ⟨a, b, hf, na, nb, ta, tb, oa, ob⟩ := fldsSrc
 rw [hf]
 simp only [Op.eqFields, na, nb, ne_eq, not_false_eq_true, if_true, ta, tb, oa, ob]
 have p0 : (part 9 (srcC x).toArray 0).run Tryz.prog w = .ok (.string (str x.name)) w := by rfl
 have p1 : (part 9 (srcC x).toArray 1).run Tryz.prog w = .ok (.string (str x.text)) w := by rfl
 have q0 : (part 9 (srcC y).toArray 0).run Tryz.prog w = .ok (.string (str y.name)) w := by rfl
 have q1 : (part 9 (srcC y).toArray 1).run Tryz.prog w = .ok (.string (str y.text)) w := by rfl
 have i1 (a b : Int) : (Op.equalIn (9998 + 1) 3 (.int .i64 a) (.int .i64 b)).run Tryz.prog w = .ok (a == b) w := run_equalIn_int w 9998 3 .i64 .i64 a b (by rfl)
 have i2 (a b : ByteArray) : (Op.equalIn (9998 + 1) 9 (.string a) (.string b)).run Tryz.prog w = .ok (a.toList == b.toList) w := run_equalIn_string w 9998 9 a b (by rfl)
 simp only [Sem.run_bind, Sem.run_ite, p0, q0, p1, q1, i2, Result.andThen_ok]
 obtain ⟨x0, x1⟩ := x
 obtain ⟨y0, y1⟩ := y
 dsimp only
 rw [zdM]; rw [zdM]
 by_cases h0 : x0 = y0 <;> by_cases h1 : x1 = y1 <;> simp [h0, h1]
theorem neqSrc (x y : Sc) (a b : Operand) {K : Value → World → Prop} {w : World} (k : K (.bool (!decide (x = y))) w) :
  RunV Tryz.prog (do eqGuard .neq 76 a b (.agg (srcC x).toArray) (.agg (srcC y).toArray); binOp .neq 76 (.agg (srcC x).toArray) (.agg (srcC y).toArray)) w K := by
 refine RunV.of ?_ k
 rw [Sem.run_bind, run_eqGuard_agg w .neq 76 a b _ _ (by kernel_rfl), Result.andThen_ok, run_neq_struct]
 rw [show (10000 : Nat) = 9999 + 1 from rfl, eqlSrc]
 rfl
theorem fldsSn : ∃ a b, (Tryz.prog.fieldsOf 78).toList = [a, b] ∧ a.name ≠ "_" ∧ b.name ≠ "_" ∧ a.type = 9 ∧ b.type = 3 ∧ a.offset = 0 ∧ b.offset = 1 :=
 ⟨_, _, rfl, by decide, by decide, rfl, rfl, rfl, rfl⟩
theorem eqlSn (x y : Sn) (w : World) : (Op.equalIn (9999 + 1) 78 (.agg (snC x).toArray) (.agg (snC y).toArray)).run Tryz.prog w = .ok (decide (x = y)) w := by
 rw [run_equalIn_agg w 9999 78 _ _ (by rfl) (by kernel_rfl)]
 obtain ⟨a, b, hf, na, nb, ta, tb, oa, ob⟩ := fldsSn
 rw [hf]
 simp only [Op.eqFields, na, nb, ne_eq, not_false_eq_true, if_true, ta, tb, oa, ob]
 have p0 : (part 9 (snC x).toArray 0).run Tryz.prog w = .ok (.string (str x.key)) w := by rfl
 have p1 : (part 3 (snC x).toArray 1).run Tryz.prog w = .ok (.int .i64 x.at_) w := by rfl
 have q0 : (part 9 (snC y).toArray 0).run Tryz.prog w = .ok (.string (str y.key)) w := by rfl
 have q1 : (part 3 (snC y).toArray 1).run Tryz.prog w = .ok (.int .i64 y.at_) w := by rfl
 have i1 (a b : Int) : (Op.equalIn (9998 + 1) 3 (.int .i64 a) (.int .i64 b)).run Tryz.prog w = .ok (a == b) w := run_equalIn_int w 9998 3 .i64 .i64 a b (by rfl)
 have i2 (a b : ByteArray) : (Op.equalIn (9998 + 1) 9 (.string a) (.string b)).run Tryz.prog w = .ok (a.toList == b.toList) w := run_equalIn_string w 9998 9 a b (by rfl)
 simp only [Sem.run_bind, Sem.run_ite, p0, q0, p1, q1, i1, i2, Result.andThen_ok]
 obtain ⟨x0, x1⟩ := x
 obtain ⟨y0, y1⟩ := y
 dsimp only
 rw [zdM]
 by_cases h0 : x0 = y0 <;> by_cases h1 : x1 = y1 <;> simp [h0, h1]
theorem neqSn (x y : Sn) (a b : Operand) {K : Value → World → Prop} {w : World} (k : K (.bool (!decide (x = y))) w) :
  RunV Tryz.prog (do eqGuard .neq 78 a b (.agg (snC x).toArray) (.agg (snC y).toArray); binOp .neq 78 (.agg (snC x).toArray) (.agg (snC y).toArray)) w K := by
 refine RunV.of ?_ k
 rw [Sem.run_bind, run_eqGuard_agg w .neq 78 a b _ _ (by kernel_rfl), Result.andThen_ok, run_neq_struct]
 rw [show (10000 : Nat) = 9999 + 1 from rfl, eqlSn]
 rfl
theorem zpc {w : World} {va vb : Value} (la lb : List Sc) (ha : RowO w va srcC la) (hb : RowO w vb srcC lb) (hl : la.length ≤ 1000000) :
  Calls Tryz.prog 51 #[va, vb] w fun e w' => e = .returned (.bool (decide (la = lb))) ∧ Kp w w' n_ := by
 obtain ⟨a, ca, rfl, hra⟩ := ha
 obtain ⟨b, cb, rfl, hrb⟩ := hb
 refine zaa (args := [.slice a la.length ca, .slice b lb.length cb]) Tryz.func51 rfl NL ?_; refine GW ?_
 by_cases hn : la.length = lb.length
 rotate_left
 ·refine KGO ?_
  refine ⟨zad ?_, Kp.refl _ _⟩
  exact (decide_eq_false fun h => hn (by rw [h])).symm
 refine KGO ?_
 refine Loop.intro (ι := Nat) (fun i => [(0, .slice a la.length ca), (1, .slice b lb.length cb), (12, .int .i64 (la.length : Nat)), (13, .int .i64 (i : Nat))])
  (fun i wr => Kp w wr n_ ∧ i ≤ la.length ∧ la.take i = lb.take i) (fun i => la.length - i) 0 ⟨rfl, rfl, rfl, rfl, trivial⟩ ⟨Kp.refl _ _, Nat.zero_le _, rfl⟩ ?_
 rintro i gg wr ⟨hK, hi, ht⟩
 refine GW ?_
 by_cases hlt : i < la.length
 ·have hlt2 : i < lb.length := by omega
  obtain ⟨ga, oa, rfl, hga, hata⟩ := hra (by omega)
  obtain ⟨gb, ob, rfl, hgb, hatb⟩ := hrb (by omega)
  refine KGO ?_
  refine neqSrc _ _ _ _ ?_
  by_cases he : la[i] = lb[i]
  ·rw [decide_eq_true he]
   refine KGO ?_
   exact ⟨i + 1, ⟨rfl, rfl, rfl, v_int (by simp), trivial⟩, ⟨hK.drew, by omega, by rw [List.take_succ_eq_append_getElem hlt, List.take_succ_eq_append_getElem hlt2, ht, he]⟩, by dsimp only; omega⟩
  ·rw [decide_eq_false he]
   refine KGO ?_
   exact ⟨zad (decide_eq_false fun h => he (by simp [h])).symm, hK.drew⟩
 ·refine KGO ?_
  refine ⟨zad ?_, hK⟩
  have e : i = la.length := by omega
  rw [e, List.take_length, hn, List.take_length] at ht
  simp [ht]
theorem zpT {w : World} {va vb : Value} (la lb : List Sn) (ha : RowO w va snC la) (hb : RowO w vb snC lb) (hl : la.length ≤ 1000000) :
  Calls Tryz.prog 52 #[va, vb] w fun e w' => e = .returned (.bool (decide (la = lb))) ∧ Kp w w' n_ := by
 obtain ⟨a, ca, rfl, hra⟩ := ha
 obtain ⟨b, cb, rfl, hrb⟩ := hb
 refine zaa (args := [.slice a la.length ca, .slice b lb.length cb]) Tryz.func52 rfl NL ?_; refine GW ?_
 by_cases hn : la.length = lb.length
 rotate_left
 ·refine KGO ?_
  refine ⟨zad ?_, Kp.refl _ _⟩
  exact (decide_eq_false fun h => hn (by rw [h])).symm
 refine KGO ?_
 refine Loop.intro (ι := Nat) (fun i => [(0, .slice a la.length ca), (1, .slice b lb.length cb), (12, .int .i64 (la.length : Nat)), (13, .int .i64 (i : Nat))])
  (fun i wr => Kp w wr n_ ∧ i ≤ la.length ∧ la.take i = lb.take i) (fun i => la.length - i) 0 ⟨rfl, rfl, rfl, rfl, trivial⟩ ⟨Kp.refl _ _, Nat.zero_le _, rfl⟩ ?_
 rintro i gg wr ⟨hK, hi, ht⟩
 refine GW ?_
 by_cases hlt : i < la.length
 ·have hlt2 : i < lb.length := by omega
  obtain ⟨ga, oa, rfl, hga, hata⟩ := hra (by omega)
  obtain ⟨gb, ob, rfl, hgb, hatb⟩ := hrb (by omega)
  refine KGO ?_
  refine neqSn _ _ _ _ ?_
  by_cases he : la[i] = lb[i]
  ·rw [decide_eq_true he]
   refine KGO ?_
   exact ⟨i + 1, ⟨rfl, rfl, rfl, v_int (by simp), trivial⟩, ⟨hK.drew, by omega, by rw [List.take_succ_eq_append_getElem hlt, List.take_succ_eq_append_getElem hlt2, ht, he]⟩, by dsimp only; omega⟩
  ·rw [decide_eq_false he]
   refine KGO ?_
   exact ⟨zad (decide_eq_false fun h => he (by simp [h])).symm, hK.drew⟩
 ·refine KGO ?_
  refine ⟨zad ?_, hK⟩
  have e : i = la.length := by omega
  rw [e, List.take_length, hn, List.take_length] at ht
  simp [ht]
theorem zoJ {w : World} {va vb : Value} (la lb : List Bx) (ha : RowO w va boxCells la) (hb : RowO w vb boxCells lb) (hl : la.length ≤ 1000000) :
  Calls Tryz.prog 48 #[va, vb] w fun e w' => e = .returned (.bool (decide (la = lb))) ∧ Kp w w' n_ := by
 obtain ⟨a, ca, rfl, hra⟩ := ha
 obtain ⟨b, cb, rfl, hrb⟩ := hb
 refine zaa (args := [.slice a la.length ca, .slice b lb.length cb]) Tryz.func48 rfl NL ?_; refine GW ?_
 by_cases hn : la.length = lb.length
 rotate_left
 ·refine KGO ?_
  refine ⟨zad ?_, Kp.refl _ _⟩
  exact (decide_eq_false fun h => hn (by rw [h])).symm
 refine KGO ?_
 refine Loop.intro (ι := Nat) (fun i => [(0, .slice a la.length ca), (1, .slice b lb.length cb), (12, .int .i64 (la.length : Nat)), (13, .int .i64 (i : Nat))])
  (fun i wr => Kp w wr n_ ∧ i ≤ la.length ∧ la.take i = lb.take i) (fun i => la.length - i) 0 ⟨rfl, rfl, rfl, rfl, trivial⟩ ⟨Kp.refl _ _, Nat.zero_le _, rfl⟩ ?_
 rintro i gg wr ⟨hK, hi, ht⟩
 refine GW ?_
 by_cases hlt : i < la.length
 ·have hlt2 : i < lb.length := by omega
  obtain ⟨ga, oa, rfl, hga, hata⟩ := hra (by omega)
  obtain ⟨gb, ob, rfl, hgb, hatb⟩ := hrb (by omega)
  refine KGO ?_
  refine zlH _ _ _ _ ?_
  by_cases he : la[i] = lb[i]
  ·rw [decide_eq_true he]
   refine KGO ?_
   exact ⟨i + 1, ⟨rfl, rfl, rfl, v_int (by simp), trivial⟩, ⟨hK.drew, by omega, by rw [List.take_succ_eq_append_getElem hlt, List.take_succ_eq_append_getElem hlt2, ht, he]⟩, by dsimp only; omega⟩
  ·rw [decide_eq_false he]
   refine KGO ?_
   exact ⟨zad (decide_eq_false fun h => he (by simp [h])).symm, hK.drew⟩
 ·refine KGO ?_
  refine ⟨zad ?_, hK⟩
  have e : i = la.length := by omega
  rw [e, List.take_length, hn, List.take_length] at ht
  simp [ht]
theorem eqs_I {w : World} {va vb : Value} (la lb : List Int) (ha : RowO w va inC la) (hb : RowO w vb inC lb) (hl : la.length ≤ 1000000) :
  Calls Tryz.prog 117 #[va, vb] w fun e w' => e = .returned (.bool (decide (la = lb))) ∧ Kp w w' n_ := by
 obtain ⟨a, ca, rfl, hra⟩ := ha
 obtain ⟨b, cb, rfl, hrb⟩ := hb
 refine zaa (args := [.slice a la.length ca, .slice b lb.length cb]) Tryz.func117 rfl NL ?_; refine GW ?_
 by_cases hn : la.length = lb.length
 rotate_left
 ·refine KGO ?_
  refine ⟨zad ?_, Kp.refl _ _⟩
  exact (decide_eq_false fun h => hn (by rw [h])).symm
 refine KGO ?_
 refine Loop.intro (ι := Nat) (fun i => [(0, .slice a la.length ca), (1, .slice b lb.length cb), (12, .int .i64 (la.length : Nat)), (13, .int .i64 (i : Nat))])
  (fun i wr => Kp w wr n_ ∧ i ≤ la.length ∧ la.take i = lb.take i) (fun i => la.length - i) 0 ⟨rfl, rfl, rfl, rfl, trivial⟩ ⟨Kp.refl _ _, Nat.zero_le _, rfl⟩ ?_
 rintro i gg wr ⟨hK, hi, ht⟩
 refine GW ?_
 by_cases hlt : i < la.length
 ·have hlt2 : i < lb.length := by omega
  obtain ⟨ga, oa, rfl, hga, hata⟩ := hra (by omega)
  obtain ⟨gb, ob, rfl, hgb, hatb⟩ := hrb (by omega)
  have hca := zbS hata hlt
  have hcb := zbS hatb hlt2
  by_cases he : la[i] = lb[i]
  ·refine KGO ?_
   exact ⟨i + 1, ⟨rfl, rfl, rfl, v_int (by simp), trivial⟩, ⟨hK.drew, by omega, by rw [List.take_succ_eq_append_getElem hlt, List.take_succ_eq_append_getElem hlt2, ht, he]⟩, by dsimp only; omega⟩
  ·refine KGO ?_
   exact ⟨zad (decide_eq_false fun h => he (by simp [h])).symm, hK.drew⟩
 ·refine KGO ?_
  refine ⟨zad ?_, hK⟩
  have e : i = la.length := by omega
  rw [e, List.take_length, hn, List.take_length] at ht
  simp [ht]
theorem eqs_T {w : World} {va vb : Value} (la lb : List (List UInt8)) (ha : RowO w va txC la) (hb : RowO w vb txC lb) (hl : la.length ≤ 1000000) :
  Calls Tryz.prog 118 #[va, vb] w fun e w' => e = .returned (.bool (decide (la = lb))) ∧ Kp w w' n_ := by
 obtain ⟨a, ca, rfl, hra⟩ := ha
 obtain ⟨b, cb, rfl, hrb⟩ := hb
 refine zaa (args := [.slice a la.length ca, .slice b lb.length cb]) Tryz.func118 rfl NL ?_; refine GW ?_
 by_cases hn : la.length = lb.length
 rotate_left
 ·refine KGO ?_
  refine ⟨zad ?_, Kp.refl _ _⟩
  exact (decide_eq_false fun h => hn (by rw [h])).symm
 refine KGO ?_
 refine Loop.intro (ι := Nat) (fun i => [(0, .slice a la.length ca), (1, .slice b lb.length cb), (12, .int .i64 (la.length : Nat)), (13, .int .i64 (i : Nat))])
  (fun i wr => Kp w wr n_ ∧ i ≤ la.length ∧ la.take i = lb.take i) (fun i => la.length - i) 0 ⟨rfl, rfl, rfl, rfl, trivial⟩ ⟨Kp.refl _ _, Nat.zero_le _, rfl⟩ ?_
 rintro i gg wr ⟨hK, hi, ht⟩
 refine GW ?_
 by_cases hlt : i < la.length
 ·have hlt2 : i < lb.length := by omega
  obtain ⟨ga, oa, rfl, hga, hata⟩ := hra (by omega)
  obtain ⟨gb, ob, rfl, hgb, hatb⟩ := hrb (by omega)
  have hca := zbB hata hlt
  have hcb := zbB hatb hlt2
  by_cases he : la[i] = lb[i]
  ·have hd : str la[i] = str lb[i] := by rw [he]
   refine KGO ?_
   exact ⟨i + 1, ⟨rfl, rfl, rfl, v_int (by simp), trivial⟩, ⟨hK.drew, by omega, by rw [List.take_succ_eq_append_getElem hlt, List.take_succ_eq_append_getElem hlt2, ht, he]⟩, by dsimp only; omega⟩
  ·have hd : ¬ str la[i] = str lb[i] := fun h => he ((zcU _ _).1 h)
   refine KGO ?_
   exact ⟨zad (decide_eq_false fun h => he (by simp [h])).symm, hK.drew⟩
 ·refine KGO ?_
  refine ⟨zad ?_, hK⟩
  have e : i = la.length := by omega
  rw [e, List.take_length, hn, List.take_length] at ht
  simp [ht]
end Go.Proofs.YtohhkegmbgancaaGreatDoor
