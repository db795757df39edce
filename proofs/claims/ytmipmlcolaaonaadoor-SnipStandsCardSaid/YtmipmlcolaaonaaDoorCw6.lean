/- Helper text of this claim: Cw6: lemmas and contracts that the proved statement rests on; no conditions of its own. -/
import Derived.Test.YtmipmlcolaaonaaDoorCw5
import Derived.Laws.StructEq
import Derived.Test.YtmipmlcolaaonaaDoorWcz
-- alias Tryd
namespace Go.Proofs.YtmipmlcolaaonaaDoor
open Go.RowKit Go.Pw Go.Vc Go.Cs Go.Lib
set_option linter.unusedVariables false
set_option maxRecDepth 100000
theorem wordFields : ∃ a b c, (Tryd.prog.fieldsOf 41).toList = [a, b, c] ∧ a.name ≠ "_" ∧ b.name ≠ "_" ∧ c.name ≠ "_" ∧ a.type = 9 ∧ b.type = 3 ∧ c.type = 3 ∧ a.offset = 0 ∧ b.offset = 1 ∧ c.offset = 2 :=
  ⟨_, _, _, rfl, by decide, by decide, by decide, rfl, rfl, rfl, rfl, rfl, rfl⟩
theorem eq_word (x y : Wd) (w : World) : (Op.equalIn (9999 + 1) 41 (.agg (wordCells x).toArray) (.agg (wordCells y).toArray)).run Tryd.prog w = .ok (decide (x = y)) w := by
  rw [run_equalIn_agg w 9999 41 _ _ (by rfl) (by kernel_rfl)]
  obtain ⟨a, b, c, hf, na, nb, nc, ta, tb, tc, oa, ob, oc⟩ := wordFields
  rw [hf]
  simp only [Op.eqFields, na, nb, nc, ne_eq, not_false_eq_true, if_true, ta, tb, tc, oa, ob, oc]
  have p0 : (part 9 (wordCells x).toArray 0).run Tryd.prog w = .ok (.string (str x.1)) w := by rfl
  have p1 : (part 3 (wordCells x).toArray 1).run Tryd.prog w = .ok (.int .i64 (x.2.1 : Nat)) w := by rfl
  have p2 : (part 3 (wordCells x).toArray 2).run Tryd.prog w = .ok (.int .i64 (x.2.2 : Nat)) w := by rfl
  have q0 : (part 9 (wordCells y).toArray 0).run Tryd.prog w = .ok (.string (str y.1)) w := by rfl
  have q1 : (part 3 (wordCells y).toArray 1).run Tryd.prog w = .ok (.int .i64 (y.2.1 : Nat)) w := by rfl
  have q2 : (part 3 (wordCells y).toArray 2).run Tryd.prog w = .ok (.int .i64 (y.2.2 : Nat)) w := by rfl
  have i1 (a b : Int) : (Op.equalIn (9998 + 1) 3 (.int .i64 a) (.int .i64 b)).run Tryd.prog w = .ok (a == b) w := run_equalIn_int w 9998 3 .i64 .i64 a b (by rfl)
  have i2 (a b : ByteArray) : (Op.equalIn (9998 + 1) 9 (.string a) (.string b)).run Tryd.prog w = .ok (a.toList == b.toList) w := run_equalIn_string w 9998 9 a b (by rfl)
  simp only [Sem.run_bind, Sem.run_ite, p0, p1, p2, q0, q1, q2, i1, i2, Result.andThen_ok]
  obtain ⟨x1, x2, x3⟩ := x
  obtain ⟨y1, y2, y3⟩ := y
  have hs : ((str x1).toList == (str y1).toList) = decide (x1 = y1) := by
    rw [toList_beq]
    by_cases h : x1 = y1
    · simp [h]
    · have : str x1 ≠ str y1 := fun e => h (by have := congrArg L e; rwa [L_str, L_str] at this)
      simp [h, this]
  dsimp only at *
  rw [hs]
  by_cases h1 : x1 = y1 <;> by_cases h2 : x2 = y2 <;> by_cases h3 : x3 = y3 <;> simp [h1, h2, h3, Int.ofNat_inj]
theorem word_neq (x y : Wd) (a b : Operand) {K : Value → World → Prop} {w : World} (k : K (.bool (!decide (x = y))) w) :
    RunV Tryd.prog (do eqGuard .neq 41 a b (.agg (wordCells x).toArray) (.agg (wordCells y).toArray); binOp .neq 41 (.agg (wordCells x).toArray) (.agg (wordCells y).toArray)) w K := by
  refine RunV.of ?_ k
  rw [Sem.run_bind, run_eqGuard_agg w .neq 41 a b _ _ (by kernel_rfl), Result.andThen_ok, run_neq_struct]
  rw [show (10000 : Nat) = 9999 + 1 from rfl, eq_word]
  rfl
/-- A row that can be read. -/
def Rd (w : World) (v : Value) (n : Nat) (xs : List Value) : Prop := ∃ a cap, v = .slice a n cap ∧ (0 < n → ∃ g, a = some ⟨g, 0, none⟩ ∧ g < w.heap.size ∧ At w g 0 xs)
theorem own_rd {w : World} {B s n : Nat} {e : TypeId} {v : Value} {xs : List Value} (h : w.ownsRow B e s v n xs) : Rd w v n xs := by
  obtain ⟨a, cap, rfl⟩ := own_shape h
  exact ⟨a, cap, rfl, fun h0 => let ⟨g, h1, _, h3, h4⟩ := own_at h h0; ⟨g, h1, h3, h4⟩⟩
theorem Rd.keep {w w' : World} {v : Value} {n : Nat} {xs : List Value} (h : Rd w v n xs) (k : Keeps w w' none_) : Rd w' v n xs := by
  obtain ⟨a, cap, rfl, h⟩ := h
  exact ⟨a, cap, rfl, fun h0 => let ⟨g, h1, h3, h4⟩ := h h0; ⟨g, h1, Nat.lt_of_lt_of_le h3 k.size, at_keep h4 k⟩⟩
theorem flat_get {α : Type} (f : α → List Value) (n : Nat) (hf : ∀ x, (f x).length = n) : ∀ (l : List α) (i j : Nat) (x : α), l[i]? = some x → j < n → (l.flatMap f)[i * n + j]? = (f x)[j]?
  | [], i, j, x, h, _ => by simp at h
  | y :: r, 0, j, x, h, hj => by
    simp at h; subst h
    rw [List.flatMap_cons, List.getElem?_append_left (by rw [hf]; omega)]; simp
  | y :: r, i + 1, j, x, h, hj => by
    rw [List.flatMap_cons, List.getElem?_append_right (by rw [hf, Nat.add_mul]; omega), hf, show (i + 1) * n + j - n = i * n + j by rw [Nat.add_mul]; omega]
    exact flat_get f n hf r i j x (by simpa using h) hj
theorem at_word {w : World} {g : Nat} {l : List Wd} (h : At w g 0 (l.flatMap wordCells)) {i : Nat} (hi : i < l.length) : At w g (0 + i * 3) (wordCells l[i]) := fun j v hj => by
  have h3 : j < 3 := (List.getElem?_eq_some_iff.1 hj).1
  rw [Nat.add_assoc]
  exact h (i * 3 + j) v ((flat_get wordCells 3 (fun _ => rfl) l i j _ (List.getElem?_eq_getElem hi) h3).trans hj)
theorem take_eq_step {α : Type} [DecidableEq α] {a b : List α} {i : Nat} (ha : i < a.length) (hb : i < b.length) (h : a.take i = b.take i) (e : a[i] = b[i]) : a.take (i + 1) = b.take (i + 1) := by
  rw [List.take_succ_eq_append_getElem ha, List.take_succ_eq_append_getElem hb, h, e]
set_option maxHeartbeats 1000000 in
theorem ref_Same {w : World} {va vb : Value} {la lb : List Wd} (ha : Rd w va la.length (la.flatMap wordCells)) (hb : Rd w vb lb.length (lb.flatMap wordCells)) (hl : la.length ≤ 1000000000) (hl2 : lb.length ≤ 1000000000) :
    Calls Tryd.prog 35 #[va, vb] w fun e w' => e = .returned (.bool (decide (la = lb))) ∧ Keeps w w' none_ := by
  obtain ⟨aa, ca, rfl, ha⟩ := ha
  obtain ⟨ab, cb, rfl, hb⟩ := hb
  refine calls_of_vc (args := [.slice aa la.length ca, .slice ab lb.length cb]) Tryd.func35 rfl (Nat.le_of_ble_eq_true rfl) ?_; refine Sat.go hmix ?_; conv => whnf
  by_cases hn : la.length = lb.length
  · refine GO ?_
    refine Loop.intro (ι := Nat) (fun i => [(0, .slice aa la.length ca), (1, .slice ab lb.length cb), (5, .int .i64 (i : Nat))]) (fun i wr => Keeps w wr none_ ∧ i ≤ la.length ∧ la.take i = lb.take i) (fun i => la.length - i) 0 ⟨rfl, rfl, rfl, trivial⟩
      ⟨Keeps.refl _ _, Nat.zero_le _, rfl⟩ ?_
    rintro i gg wr ⟨hK, hi, ht⟩
    (first | refine Then.go hmix ?_ | refine Sat.go hmix ?_ | refine ResK.go ?_ | skip); conv => whnf
    by_cases hlt : i < la.length
    · obtain ⟨g1, rfl, b1, h1⟩ := ha (by omega)
      obtain ⟨g2, rfl, b2, h2⟩ := hb (by omega)
      have hlt2 : i < lb.length := by omega
      have c1 := at_word (at_keep h1 hK) hlt
      have c2 := at_word (at_keep h2 hK) hlt2
      by_cases he : la[i] = lb[i]
      · have hd : decide (la[i] = lb[i]) = true := by simp [he]
        refine GO ?_
        refine Load.agg (wordCells la[i]) (by rfl) (by rfl) (by rfl) c1 ?_
        refine GO ?_
        refine Load.agg (wordCells lb[i]) (by rfl) (by rfl) (by rfl) c2 ?_
        (first | refine Then.go hmix ?_ | refine Sat.go hmix ?_ | refine ResK.go ?_ | skip); conv => whnf
        refine word_neq _ _ _ _ ?_
        rw [hd]
        refine GO ?_
        exact ⟨i + 1, ⟨rfl, rfl, v_int (by simp), trivial⟩, ⟨hK.drew, by omega, take_eq_step hlt hlt2 ht he⟩, by dsimp only; omega⟩
      · have hd : decide (la[i] = lb[i]) = false := by simp [he]
        refine GO ?_
        refine Load.agg (wordCells la[i]) (by rfl) (by rfl) (by rfl) c1 ?_
        refine GO ?_
        refine Load.agg (wordCells lb[i]) (by rfl) (by rfl) (by rfl) c2 ?_
        (first | refine Then.go hmix ?_ | refine Sat.go hmix ?_ | refine ResK.go ?_ | skip); conv => whnf
        refine word_neq _ _ _ _ ?_
        rw [hd]
        refine GO ?_
        refine ⟨?_, hK.drew⟩
        have : la ≠ lb := fun e => he (by simp [e])
        simp [this]
    · refine GO ?_
      refine ⟨?_, hK⟩
      have e : i = la.length := by omega
      rw [e, List.take_length, hn, List.take_length] at ht
      simp [ht]
  · refine GO ?_
    refine ⟨?_, Keeps.refl _ _⟩
    have : la ≠ lb := fun e => hn (by rw [e])
    simp [this]
end Go.Proofs.YtmipmlcolaaonaaDoor
