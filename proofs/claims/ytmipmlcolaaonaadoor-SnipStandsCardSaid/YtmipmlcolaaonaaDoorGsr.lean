/- Helper text of this claim: Sr3, Sr4, Sr5: lemmas and contracts that the proved statement rests on; no conditions of its own. -/
import Derived.Test.YtmipmlcolaaonaaDoorSr2
import Derived.Test.YtmipmlcolaaonaaDoorGsn
import Derived.Test.YtmipmlcolaaonaaDoorWcz
-- alias Tryd
namespace Go.Proofs.YtmipmlcolaaonaaDoor
open Go.RowKit Go.Pw Go.Vc Go.Cs Go.Lib
set_option linter.unusedVariables false
set_option maxRecDepth 100000
theorem mark_size (w : World) : (sizeOf 3).run Tryd.prog w = .ok 1 w := by
  have : (Tryd.prog.info? 3).map (·.size) = some 1 := by kernel_rfl
  obtain ⟨i, hi, h2⟩ := Option.map_eq_some_iff.1 this
  rw [size_ok hi, h2]
theorem eq_mark (a b c d : Int) (w : World) : (Op.equalIn (9999 + 1) 56 (.agg #[.int .i64 a, .int .i64 b]) (.agg #[.int .i64 c, .int .i64 d])).run Tryd.prog w = .ok (decide (a = c ∧ b = d)) w := by
  have p0 : (part 3 #[Value.int .i64 a, .int .i64 b] 0).run Tryd.prog w = .ok (.int .i64 a) w := by rfl
  have p1 : (part 3 #[Value.int .i64 a, .int .i64 b] 1).run Tryd.prog w = .ok (.int .i64 b) w := by rfl
  have q0 : (part 3 #[Value.int .i64 c, .int .i64 d] 0).run Tryd.prog w = .ok (.int .i64 c) w := by rfl
  have q1 : (part 3 #[Value.int .i64 c, .int .i64 d] 1).run Tryd.prog w = .ok (.int .i64 d) w := by rfl
  have i1 (a b : Int) : (Op.equalIn (9998 + 1) 3 (.int .i64 a) (.int .i64 b)).run Tryd.prog w = .ok (a == b) w := run_equalIn_int w 9998 3 .i64 .i64 a b (by rfl)
  unfold Op.equalIn
  simp only [Sem.run_bind, und_ok Tryd.underlying56, Result.andThen_ok, mark_size]
  simp [Std.Legacy.Range.forIn_eq_forIn_range', List.range', p0, p1, q0, q1, i1]
  by_cases h1 : a = c <;> by_cases h2 : b = d <;> simp [h1, h2]
theorem mark_neq (x y : Nat × Nat) (a b : Operand) {K : Value → World → Prop} {w : World} (k : K (.bool (!decide (x = y))) w) :
    RunV Tryd.prog (do eqGuard .neq 56 a b (.agg (markCells x).toArray) (.agg (markCells y).toArray); binOp .neq 56 (.agg (markCells x).toArray) (.agg (markCells y).toArray)) w K := by
  refine RunV.of ?_ k
  rw [Sem.run_bind, run_eqGuard_agg w .neq 56 a b _ _ (by kernel_rfl), Result.andThen_ok, run_neq_struct]
  have h := eq_mark (x.1 : Nat) (x.2 : Nat) (y.1 : Nat) (y.2 : Nat) w
  rw [show (10000 : Nat) = 9999 + 1 from rfl]
  show Result.andThen ((Op.equalIn (9999 + 1) 56 (.agg #[.int .i64 ((x.1 : Nat) : Int), .int .i64 ((x.2 : Nat) : Int)]) (.agg #[.int .i64 ((y.1 : Nat) : Int), .int .i64 ((y.2 : Nat) : Int)])).run Tryd.prog w) _ = _
  rw [h]
  obtain ⟨x1, x2⟩ := x
  obtain ⟨y1, y2⟩ := y
  simp [Int.ofNat_inj]
theorem mark_eql (x y : Nat × Nat) (a b : Operand) {K : Value → World → Prop} {w : World} (k : K (.bool (decide (x = y))) w) :
    RunV Tryd.prog (do eqGuard .eql 56 a b (.agg (markCells x).toArray) (.agg (markCells y).toArray); binOp .eql 56 (.agg (markCells x).toArray) (.agg (markCells y).toArray)) w K := by
  refine RunV.of ?_ k
  rw [Sem.run_bind, run_eqGuard_agg w .eql 56 a b _ _ (by kernel_rfl), Result.andThen_ok, run_eql_struct]
  have h := eq_mark (x.1 : Nat) (x.2 : Nat) (y.1 : Nat) (y.2 : Nat) w
  rw [show (10000 : Nat) = 9999 + 1 from rfl]
  show Result.andThen ((Op.equalIn (9999 + 1) 56 (.agg #[.int .i64 ((x.1 : Nat) : Int), .int .i64 ((x.2 : Nat) : Int)]) (.agg #[.int .i64 ((y.1 : Nat) : Int), .int .i64 ((y.2 : Nat) : Int)])).run Tryd.prog w) _ = _
  rw [h]
  obtain ⟨x1, x2⟩ := x
  obtain ⟨y1, y2⟩ := y
  simp [Int.ofNat_inj]
theorem at_mark {w : World} {g : Nat} {l : List (Nat × Nat)} (h : At w g 0 (l.flatMap markCells)) {i : Nat} (hi : i < l.length) : At w g (0 + i * 2) (markCells l[i]) := fun j v hj => by
  have h3 : j < 2 := (List.getElem?_eq_some_iff.1 hj).1
  rw [Nat.add_assoc]
  exact h (i * 2 + j) v ((flat_get markCells 2 (fun _ => rfl) l i j _ (List.getElem?_eq_getElem hi) h3).trans hj)
theorem _root_.Go.Vc.Held.agg {P : Program} {S : World → Prop} {t : TypeId} {b o : Nat} (vs : List Value) {K : Value → Prop} (ht : isAggB P t = true) (hu : (P.underlying t).isSome = true) (hs : sizeOfT P t = some vs.length) (h : ∀ w, S w → At w b o vs) (k : K (.agg vs.toArray)) : Held P S t ⟨b, o, none⟩ K :=
  ⟨.agg vs.toArray, fun w hw => by
    obtain ⟨v, h1, h2⟩ := (Load.agg (P := P) (t := t) (K := fun v => v = .agg vs.toArray) vs ht hu hs (h w hw) rfl).h
    rw [h1, h2], k⟩
section
variable {w : World}
set_option maxHeartbeats 2000000 in
theorem ref_SameSn {va vb : Value} (t : List UInt8) (l : List (Nat × Nat)) (ha : Rd w va l.length (l.flatMap markCells)) (hb : Rd w vb l.length (l.flatMap markCells)) (hl : l.length ≤ 1000000000) :
    Calls Tryd.prog 47 #[.agg #[.string (str t), va], .agg #[.string (str t), vb]] w fun e w' => e = .returned (.bool true) ∧ Keeps w w' none_ := by
  obtain ⟨aa, ca, rfl, ha⟩ := ha
  obtain ⟨ab, cb, rfl, hb⟩ := hb
  refine calls_of_vc (args := [.agg #[.string (str t), .slice aa l.length ca], .agg #[.string (str t), .slice ab l.length cb]]) Tryd.func47 rfl (Nat.le_of_ble_eq_true rfl) ?_; refine Sat.go hmix ?_; conv => whnf
  have va := VarC.new w 50 [.string (str t), .slice aa l.length ca]
  have ka : Keeps w (w.alloc (.cells [Value.string (str t), .slice aa l.length ca].toArray 50)) none_ := (Keeps.refl _ _).alloc _
  have za : (w.alloc (.cells [Value.string (str t), .slice aa l.length ca].toArray 50)).heap.size = w.heap.size + 1 := by simp
  have vb := VarC.new (w.alloc (.cells [Value.string (str t), .slice aa l.length ca].toArray 50)) 50 [.string (str t), .slice ab l.length cb]
  have kb := (Keeps.refl (w.alloc (.cells [Value.string (str t), .slice aa l.length ca].toArray 50)) none_).alloc (.cells [Value.string (str t), .slice ab l.length cb].toArray 50)
  have va := va.keep kb id
  have K0 := ka.trans0 kb
  rw [za] at vb
  have e0 : (w.alloc (.cells #[Value.string (str t), .slice aa l.length ca] 50)).alloc (.cells #[Value.string (str t), .slice ab l.length cb] 50) = (w.alloc (.cells [Value.string (str t), .slice aa l.length ca].toArray 50)).alloc (.cells [Value.string (str t), .slice ab l.length cb].toArray 50) := rfl
  rw [e0]
  clear e0
  have hz : (w.alloc (.cells #[Value.string (str t), .slice aa l.length ca] 50)).heap.size = w.heap.size + 1 := za
  generalize (w.alloc (.cells [Value.string (str t), .slice aa l.length ca].toArray 50)).alloc (.cells [Value.string (str t), .slice ab l.length cb].toArray 50) = w2 at *
  have a0 : w2.cell? ⟨w.heap.size, 0, none⟩ = some (.string (str t)) := va.at 0 _ rfl
  have a1 : w2.cell? ⟨w.heap.size, 0 + 1, none⟩ = some (.slice aa l.length ca) := va.at 1 _ rfl
  have b0 : w2.cell? ⟨(w.alloc (.cells #[Value.string (str t), .slice aa l.length ca] 50)).heap.size, 0, none⟩ = some (.string (str t)) := by rw [hz]; exact vb.at 0 _ rfl
  have b1 : w2.cell? ⟨(w.alloc (.cells #[Value.string (str t), .slice aa l.length ca] 50)).heap.size, 0 + 1, none⟩ = some (.slice ab l.length cb) := by rw [hz]; exact vb.at 1 _ rfl
  have hd : decide (str t = str t) = true := by simp
  have hd2 : (!decide (str t = str t)) = false := by simp
  refine GO ?_
  refine Loop.intro (ι := Nat) (fun i => [(2, .pointer (some ⟨w.heap.size, 0, none⟩)), (3, .pointer (some ⟨(w.alloc (.cells #[Value.string (str t), .slice aa l.length ca] 50)).heap.size, 0, none⟩)), (5, .int .i64 (i : Nat))]) (fun i wr => Keeps w2 wr none_ ∧ i ≤ l.length) (fun i => l.length - i) 0 ⟨rfl, rfl, rfl, trivial⟩
    ⟨Keeps.refl _ _, Nat.zero_le _⟩ ?_
  rintro i gg wr ⟨hK, hi⟩
  have a1 := (hK.cell (cell_lt a1) id).trans a1
  have b1 := (hK.cell (cell_lt b1) id).trans b1
  (first | refine Then.go hmix ?_ | refine Sat.go hmix ?_ | refine ResK.go ?_ | skip); conv => whnf
  by_cases hlt : i < l.length
  · obtain ⟨g1, rfl, _, h1⟩ := ha (by omega)
    obtain ⟨g2, rfl, _, h2⟩ := hb (by omega)
    have c1 := at_mark (at_keep h1 (K0.trans0 hK)) hlt
    have c2 := at_mark (at_keep h2 (K0.trans0 hK)) hlt
    refine Load.one (by rfl) a1 ?_
    (first | refine Then.go hmix ?_ | refine Sat.go hmix ?_ | refine ResK.go ?_ | skip); conv => whnf
    refine Br.dec_yes (by omega) ?_
    (first | refine Then.go hmix ?_ | refine Sat.go hmix ?_ | refine ResK.go ?_ | skip); conv => whnf
    refine Draw.heldEndAny (fun u => Keeps wr u none_) (fun _ => true) (by simp) (by decide +kernel) (by decide +kernel) (Keeps.refl _ _).drew ?_
    (first | refine Then.go hmix ?_ | refine Sat.go hmix ?_ | refine ResK.go ?_ | skip); conv => whnf
    refine Held.one (by rfl) (fun u ku => (ku.cell (cell_lt a1) id).trans a1) ?_
    refine GO ?_
    refine Held.agg (markCells l[i]) (by rfl) (by rfl) (by rfl) (fun u ku => at_keep c1 ku) ?_
    refine GO ?_
    refine Held.one (by rfl) (fun u ku => (ku.cell (cell_lt b1) id).trans b1) ?_
    refine GO ?_
    refine Held.agg (markCells l[i]) (by rfl) (by rfl) (by rfl) (fun u ku => at_keep c2 ku) ?_
    (first | refine Then.go hmix ?_ | refine Sat.go hmix ?_ | refine ResK.go ?_ | skip); conv => whnf
    refine mark_neq l[i] l[i] _ _ ?_
    rw [show (!decide (l[i] = l[i])) = false by simp]
    refine GO ?_
    exact ⟨i + 1, ⟨rfl, rfl, v_int (by simp), trivial⟩, ⟨hK.drew, by omega⟩, by dsimp only; omega⟩
  · refine GO ?_
    exact ⟨rfl, K0.trans0 hK⟩
end
end Go.Proofs.YtmipmlcolaaonaaDoor

-- alias Tryd
namespace Go.Proofs.YtmipmlcolaaonaaDoor
open Go.RowKit Go.Pw Go.Vc Go.Cs Go.Lib
set_option linter.unusedVariables false
set_option maxRecDepth 100000
/-- The bytes of a text and words. -/
def allLen (n : Nat) (ws : List (List UInt8)) : Nat := n + (ws.map (·.length)).sum
theorem allLen_snoc (n : Nat) (ws : List (List UInt8)) (x : List UInt8) : allLen n (ws ++ [x]) = allLen n ws + x.length := by
  unfold allLen; simp; omega
theorem allLen_le (n : Nat) (ws : List (List UInt8)) (B : Nat) (h : ∀ x ∈ ws, x.length ≤ B) : allLen n ws ≤ n + ws.length * B := by
  unfold allLen
  induction ws with
  | nil => simp
  | cons x r ih =>
    have h1 := h x (by simp)
    have h2 := ih fun y hy => h y (by simp [hy])
    simp only [List.map_cons, List.sum_cons, List.length_cons, Nat.add_mul]
    omega
theorem allLen_mem (n : Nat) (ws : List (List UInt8)) (x : List UInt8) (h : x ∈ ws) : x.length ≤ allLen n ws := by
  unfold allLen
  induction ws with
  | nil => cases h
  | cons y r ih =>
    simp only [List.map_cons, List.sum_cons]
    rcases List.mem_cons.1 h with rfl | h
    · omega
    · have := ih h; omega
section
variable {w : World}
set_option maxHeartbeats 2000000 in
theorem law39_few {v : Value} (s : ByteArray) (ws : List (List UInt8)) (hv : RdO w v ws.length (ws.map sv)) (hl : ws.length ≤ 1000000000000000) (hs : ∀ x ∈ ws, x.length ≤ 140737488355328) (hss : s.size ≤ 140737488355328) :
    Calls Tryd.prog 46 #[.string s, v] w fun e w' => e = .returned (.bool (decide (allLen s.size ws ≤ 800 ∧ ws.length ≤ 20))) ∧ Keeps w w' none_ := by
  obtain ⟨a, cap, rfl, hr⟩ := hv
  refine calls_of_vc (args := [.string s, .slice a ws.length cap]) Tryd.func46 rfl (Nat.le_of_ble_eq_true rfl) ?_; refine Sat.go hmix ?_; conv => whnf
  refine Loop.intro (ι := Nat × Int) (fun i => [(1, .slice a ws.length cap), (5, .int .i64 i.2), (6, .int .i64 (i.1 : Nat))])
    (fun i wr => Keeps w wr none_ ∧ i.1 ≤ ws.length ∧ (ws.length ≤ 20 → i.2 = (allLen s.size (ws.take i.1) : Nat))) (fun i => ws.length - i.1) (0, (s.size : Nat)) ⟨rfl, rfl, rfl, trivial⟩
    ⟨Keeps.refl _ _, Nat.zero_le _, fun _ => by simp [allLen]⟩ ?_
  rintro ⟨i, n⟩ gg wr ⟨hK, hi, hn⟩
  dsimp only at hi hn ⊢
  (first | refine Then.go hmix ?_ | refine Sat.go hmix ?_ | refine ResK.go ?_ | skip); conv => whnf
  by_cases hlt : i < ws.length
  · obtain ⟨g, o, rfl, hg, hat⟩ := hr (by omega)
    have c1 := at_textO (at_keep hat hK) hlt
    have hst : ws.take (i + 1) = ws.take i ++ [ws[i]] := List.take_succ_eq_append_getElem hlt
    have hx := hs ws[i] (List.getElem_mem hlt)
    have hal := allLen_le s.size (ws.take i) 140737488355328 fun x hx => hs x (List.mem_of_mem_take hx)
    rw [List.length_take] at hal
    have hsn := allLen_snoc s.size (ws.take i) ws[i]
    rw [← hst] at hsn
    generalize ws[i] = x at *
    have hsz : (str x).size = x.length := str_size x
    by_cases h20 : ws.length ≤ 20
    · have hn2 := hn h20
      have hb : allLen s.size (ws.take i) ≤ 3000000000000000 := by omega
      clear hal
      subst hn2
      refine GO ?_
      exact ⟨(i + 1, _), ⟨rfl, rfl, v_int (by simp), trivial⟩, ⟨hK, by dsimp only; omega, fun _ => by dsimp only; rw [hsn, hsz]; simp⟩, by dsimp only; omega⟩
    · clear hal
      refine Br.dec_yes (by omega) ?_
      (first | refine Then.go hmix ?_ | refine Sat.go hmix ?_ | refine ResK.go ?_ | skip); conv => whnf
      refine Idx.nat (by omega) ?_
      (first | refine Then.go hmix ?_ | refine Sat.go hmix ?_ | refine ResK.go ?_ | skip); conv => whnf
      refine Load.one (by rfl) c1 ?_
      (first | refine Then.go hmix ?_ | refine Sat.go hmix ?_ | refine ResK.go ?_ | skip); conv => whnf
      refine Num.any (fun x h1 h2 _ => ?_) rfl
      refine GO ?_
      exact ⟨(i + 1, x), ⟨rfl, rfl, v_int (by simp), trivial⟩, ⟨hK, by dsimp only; omega, fun h => (h20 h).elim⟩, by dsimp only; omega⟩
  · have hie : i = ws.length := by omega
    subst hie
    rw [List.take_length] at hn
    by_cases h20 : ws.length ≤ 20
    · have hn2 := hn h20
      subst hn2
      by_cases h8 : allLen s.size ws ≤ 800
      · refine GO ?_
        exact ⟨ret_bool (by rw [decide_eq_decide]; omega), hK⟩
      · refine GO ?_
        exact ⟨by simp [h8], hK⟩
    · by_cases h8 : n ≤ 800
      · refine GO ?_
        exact ⟨ret_bool (by rw [decide_eq_decide]; omega), hK⟩
      · refine GO ?_
        exact ⟨by simp [h20], hK⟩
end
end Go.Proofs.YtmipmlcolaaonaaDoor

-- alias Tryd
namespace Go.Proofs.YtmipmlcolaaonaaDoor
open Go.RowKit Go.Pw Go.Vc Go.Cs Go.Lib
set_option linter.unusedVariables false
set_option maxRecDepth 100000
section
variable {w : World}
theorem mk_ex {v : Value} (s : List UInt8) (ws : List (List UInt8)) (width : Int) (t : List UInt8) (l : List (Nat × Nat)) (he : snipL (soughtL ws) s width = (t, l)) (hw : -9223372036854775808 ≤ width ∧ width ≤ 9223372036854775807) (hv : RdO w v ws.length (ws.map sv)) (hC : CutTab w) (hF : FoldTab w) (hl : ws.length ≤ 1000) (hs : ∀ x ∈ ws, x.length ≤ 10000) (hss : s.length ≤ 10000) :
    Calls Tryd.prog 48 #[.string (str s), v, .int .i64 width] w fun e w' => ∃ mv, e = .returned (.agg #[.string (str t), mv]) ∧ Mks w' w.heap.size mv l ∧ Keeps w w' none_ := by
  have h := sn_Make (w := w) (str s) ws width hw hv hC hF hl hs (by rw [str_size]; exact hss)
  rw [L_str, he] at h
  exact h
theorem build_texts2' (a b : ByteArray) (w : World) : (Instr.buildSlice 37 2 [(0, .string a), (1, .string b)].toArray).run Tryd.prog w =
    .ok (.slice (some ⟨w.heap.size, 0, none⟩) 2 2) (w.alloc (.cells #[.string a, .string b] 9)) := by
  simp [Instr.buildSlice, go_sem, Tryd.runUnderlying37]
set_option maxHeartbeats 4000000 in
theorem law39_small (hC : CutTab w) (hF : FoldTab w) : Calls Tryd.prog 45 #[] w fun e w' => e = .returned (.bool true) ∧ Keeps w w' none_ := by
  refine calls_of_vc (args := []) Tryd.func45 rfl (Nat.le_of_ble_eq_true rfl) ?_; refine Sat.go hmix ?_; conv => whnf
  refine RunV.of (build_texts2' _ _ _) ?_
  have R1 := (new_rd w ([[84, 104, 114, 101, 101], [116, 119, 111]].map sv) 9 2 2).toO
  have k1 : Keeps w (w.alloc (.cells ([[84, 104, 114, 101, 101], [116, 119, 111]].map sv).toArray 9)) none_ := (Keeps.refl _ _).alloc _
  have e1 : w.alloc (.cells #[.string ⟨#[84, 104, 114, 101, 101]⟩, .string ⟨#[116, 119, 111]⟩] 9) = w.alloc (.cells ([[84, 104, 114, 101, 101], [116, 119, 111]].map sv).toArray 9) := rfl
  rw [e1]
  generalize w.alloc (.cells ([[84, 104, 114, 101, 101], [116, 119, 111]].map sv).toArray 9) = w1 at *
  refine GO ?_
  refine CallS.of (Tryd.call48 _ _) (mk_ex (w := w1) [111, 110, 101, 32, 116, 119, 111, 32, 116, 104, 114, 101, 101, 32, 116, 119, 111] [[84, 104, 114, 101, 101], [116, 119, 111]] 9 [116, 119, 111, 32, 116, 104, 114, 101, 101] [(0, 3), (4, 9)] (by decide +kernel) (by omega) R1 (hC.keep k1) (hF.keep k1) (by decide) (by decide) (by decide)) ?_
  rintro e w2 ⟨v1, rfl, hM1, k2⟩
  have K2 := k1.trans0 k2
  obtain ⟨g1, hg1, _, _, hat1⟩ : ∃ g, (∃ c, v1 = .slice (some ⟨g, 0, none⟩) 2 c) ∧ True ∧ True ∧ At w2 g 0 ([(0, 3), (4, 9)].flatMap markCells) := by
    obtain ⟨a, c, rfl⟩ := own_shape hM1
    obtain ⟨g, rfl, _, _, h⟩ := own_at hM1 (by decide)
    exact ⟨g, ⟨c, rfl⟩, trivial, trivial, h⟩
  obtain ⟨c1, rfl⟩ := hg1
  refine ⟨_, rfl, ?_⟩; (first | refine Then.go hmix ?_ | refine Sat.go hmix ?_ | refine ResK.go ?_ | skip); conv => whnf
  refine Store.fresh (vs := [.string (str [116, 119, 111, 32, 116, 104, 114, 101, 101]), .slice (some ⟨g1, 0, none⟩) 2 c1]) (by rfl) rfl (by simp [Flat]) ?_
  have va := VarC.new w2 50 [.string (str [116, 119, 111, 32, 116, 104, 114, 101, 101]), .slice (some ⟨g1, 0, none⟩) 2 c1]
  have k3 : Keeps w2 (w2.alloc (.cells [Value.string (str [116, 119, 111, 32, 116, 104, 114, 101, 101]), .slice (some ⟨g1, 0, none⟩) 2 c1].toArray 50)) none_ := (Keeps.refl _ _).alloc _
  have K3 := K2.trans0 k3
  have hat1 := at_keep hat1 k3
  generalize w2.alloc (.cells [Value.string (str [116, 119, 111, 32, 116, 104, 114, 101, 101]), .slice (some ⟨g1, 0, none⟩) 2 c1].toArray 50) = w3 at *
  generalize w2.heap.size = b1 at *
  refine GO ?_
  refine CallS.of (Tryd.call48 _ _) (mk_ex (w := w3) (v := .slice none 0 0) [195, 169, 195, 169, 195, 169] [] 5 [195, 169, 195, 169] [] (by decide +kernel) (by omega) ⟨none, 0, rfl, fun h => by simp at h⟩ (hC.keep K3) (hF.keep K3) (by decide) (by simp) (by decide)) ?_
  rintro e w4 ⟨v2, rfl, hM2, k4⟩
  have K4 := K3.trans0 k4
  have va := va.keep k4 id
  have hat1 := at_keep hat1 k4
  obtain ⟨a2, c2, rfl⟩ : ∃ a c, v2 = .slice a 0 c := own_shape hM2
  refine ⟨_, rfl, ?_⟩; (first | refine Then.go hmix ?_ | refine Sat.go hmix ?_ | refine ResK.go ?_ | skip); conv => whnf
  refine Store.fresh (vs := [.string (str [195, 169, 195, 169]), .slice a2 0 c2]) (by rfl) rfl (by simp [Flat]) ?_
  have vb := VarC.new w4 50 [.string (str [195, 169, 195, 169]), .slice a2 0 c2]
  have k5 : Keeps w4 (w4.alloc (.cells [Value.string (str [195, 169, 195, 169]), .slice a2 0 c2].toArray 50)) none_ := (Keeps.refl _ _).alloc _
  have K5 := K4.trans0 k5
  have va := va.keep k5 id
  have hat1 := at_keep hat1 k5
  generalize w4.alloc (.cells [Value.string (str [195, 169, 195, 169]), .slice a2 0 c2].toArray 50) = w5 at *
  generalize w4.heap.size = b2 at *
  refine GO ?_
  refine RunV.of (build_text _ _) ?_
  have R3 := (new_rd w5 ([[120]].map sv) 9 1 1).toO
  have k6 : Keeps w5 (w5.alloc (.cells ([[120]].map sv).toArray 9)) none_ := (Keeps.refl _ _).alloc _
  have e3 : w5.alloc (.cells #[.string ⟨#[120]⟩] 9) = w5.alloc (.cells ([[120]].map sv).toArray 9) := rfl
  rw [e3]
  have K6 := K5.trans0 k6
  have va := va.keep k6 id
  have vb := vb.keep k6 id
  have hat1 := at_keep hat1 k6
  generalize w5.alloc (.cells ([[120]].map sv).toArray 9) = w6 at *
  refine GO ?_
  refine CallS.of (Tryd.call48 _ _) (mk_ex (w := w6) [97, 44, 32, 98] [[120]] 9 [97, 44, 32, 98] [] (by decide +kernel) (by omega) R3 (hC.keep K6) (hF.keep K6) (by decide) (by decide) (by decide)) ?_
  rintro e w7 ⟨v3, rfl, hM3, k7⟩
  have K7 := K6.trans0 k7
  have va := va.keep k7 id
  have vb := vb.keep k7 id
  have hat1 := at_keep hat1 k7
  obtain ⟨a3, c3, rfl⟩ : ∃ a c, v3 = .slice a 0 c := own_shape hM3
  refine ⟨_, rfl, ?_⟩; (first | refine Then.go hmix ?_ | refine Sat.go hmix ?_ | refine ResK.go ?_ | skip); conv => whnf
  refine Store.fresh (vs := [.string (str [97, 44, 32, 98]), .slice a3 0 c3]) (by rfl) rfl (by simp [Flat]) ?_
  have vc := VarC.new w7 50 [.string (str [97, 44, 32, 98]), .slice a3 0 c3]
  have k8 : Keeps w7 (w7.alloc (.cells [Value.string (str [97, 44, 32, 98]), .slice a3 0 c3].toArray 50)) none_ := (Keeps.refl _ _).alloc _
  have K8 := K7.trans0 k8
  have va := va.keep k8 id
  have vb := vb.keep k8 id
  have hat1 := at_keep hat1 k8
  generalize w7.alloc (.cells [Value.string (str [97, 44, 32, 98]), .slice a3 0 c3].toArray 50) = w8 at *
  generalize w7.heap.size = b3 at *
  have d1 : w8.cell? ⟨b1, 0, none⟩ = some (.string (str [116, 119, 111, 32, 116, 104, 114, 101, 101])) := va.at 0 _ rfl
  have d2 : w8.cell? ⟨b1, 0 + 1, none⟩ = some (.slice (some ⟨g1, 0, none⟩) 2 c1) := va.at 1 _ rfl
  have d3 : w8.cell? ⟨b2, 0, none⟩ = some (.string (str [195, 169, 195, 169])) := vb.at 0 _ rfl
  have d4 : w8.cell? ⟨b2, 0 + 1, none⟩ = some (.slice a2 0 c2) := vb.at 1 _ rfl
  have d5 : w8.cell? ⟨b3, 0, none⟩ = some (.string (str [97, 44, 32, 98])) := vc.at 0 _ rfl
  have d6 : w8.cell? ⟨b3, 0 + 1, none⟩ = some (.slice a3 0 c3) := vc.at 1 _ rfl
  have m1 := at_mark hat1 (i := 1) (by decide)
  refine LGO ?_
  refine Load.agg (markCells (4, 9)) (by rfl) (by rfl) (by rfl) m1 ?_
  refine LGO ?_
  refine RunV.of (build_mark _ _ _) ?_
  refine LGO ?_
  refine mark_eql (4, 9) (4, 9) _ _ ?_
  rw [show decide (((4, 9) : Nat × Nat) = (4, 9)) = true by simp]
  refine LGO ?_
  exact ⟨rfl, K8⟩
set_option maxHeartbeats 2000000 in
theorem tells39_walk {v : Value} (s : ByteArray) (ws : List (List UInt8)) (width : Int) (hw : -9223372036854775808 ≤ width ∧ width ≤ 9223372036854775807) (hv : RdO w v ws.length (ws.map sv)) (hwl : ws.length ≤ 140737488351232) (hws : ∀ x ∈ ws, x.length ≤ 140737488355328) (hss : s.size ≤ 140737488355328) (hC : CutTab w) (hF : FoldTab w) :
    Calls Tryd.prog 14 #[.string s, v, .int .i64 width] w fun e w' => e = .returned (.bool true) ∧ Keeps w w' none_ := by
  have hv0 := hv
  obtain ⟨a, cap, rfl, _⟩ := hv
  refine calls_of_vc (args := [.string s, .slice a ws.length cap, .int .i64 width]) Tryd.func14 rfl (Nat.le_of_ble_eq_true rfl) ?_; refine Sat.go hmix ?_; conv => whnf
  refine CallS.of (Tryd.call45 _ _) (law39_small hC hF) ?_
  rintro e w1 ⟨rfl, k1⟩
  refine ⟨_, rfl, ?_⟩; (first | refine Then.go hmix ?_ | refine Sat.go hmix ?_ | refine ResK.go ?_ | skip); conv => whnf
  refine GO ?_
  refine CallS.of (Tryd.call46 _ _) (law39_few (w := w1) s ws (hv0.keep k1) (by omega) hws hss) ?_
  rintro e w2 ⟨rfl, k2⟩
  have K2 := k1.trans0 k2
  refine ⟨_, rfl, ?_⟩; (first | refine Then.go hmix ?_ | refine Sat.go hmix ?_ | refine ResK.go ?_ | skip); conv => whnf
  by_cases hf : allLen s.size ws ≤ 800 ∧ ws.length ≤ 20
  rotate_left
  · rw [decide_eq_false hf]
    refine LGO ?_
    exact ⟨rfl, K2⟩
  rw [decide_eq_true hf]
  have hx : ∀ x ∈ ws, x.length ≤ 10000 := fun x hx => by have := allLen_mem s.size ws x hx; omega
  have hs8 : s.size ≤ 10000 := by have := hf.1; unfold allLen at this; omega
  refine LGO ?_
  refine CallS.of (Tryd.call48 _ _) (sn_Make (w := w2) s ws width hw (hv0.keep K2) (hC.keep K2) (hF.keep K2) (by omega) hx hs8) ?_
  rintro e w3 ⟨m1, rfl, hM1, k3⟩
  have K3 := K2.trans0 k3
  have RM1 := own_rd hM1
  obtain ⟨a1, c1, rfl⟩ := own_shape hM1
  refine ⟨_, rfl, ?_⟩; (first | refine Then.go hmix ?_ | refine Sat.go hmix ?_ | refine ResK.go ?_ | skip); conv => whnf
  refine LGO ?_
  refine CallS.of (Tryd.call49 _ _) (ref_Make (w := w3) s ws width hw (hv0.keep K3) (by omega) hx hs8) ?_
  rintro e w4 ⟨m2, rfl, hM2, k4⟩
  have K4 := K3.trans0 k4
  have RM1 := RM1.keep k4
  have RM2 := own_rd hM2
  obtain ⟨a2, c2, rfl⟩ := own_shape hM2
  have hml : (snipL (soughtL ws) (L s) width).2.length ≤ 1000000000 := by
    have hwd := wordsL_len (L s)
    rw [L_len] at hwd
    have h1 : (snipL (soughtL ws) (L s) width).2.length ≤ (wordsL (L s)).length := by
      unfold snipL
      split
      · simp
      · refine Nat.le_trans (marksL_len _ _ _) ?_
        unfold winW
        rw [List.length_drop, List.length_take]; omega
    omega
  refine ⟨_, rfl, ?_⟩; (first | refine Then.go hmix ?_ | refine Sat.go hmix ?_ | refine ResK.go ?_ | skip); conv => whnf
  refine LGO ?_
  refine CallS.of (Tryd.call47 _ _) (ref_SameSn (w := w4) _ _ RM1 RM2 hml) ?_
  rintro e w5 ⟨rfl, k5⟩
  refine ⟨_, rfl, ?_⟩; (first | refine Then.go hmix ?_ | refine Sat.go hmix ?_ | refine ResK.go ?_ | skip); conv => whnf
  refine LGO ?_
  exact ⟨rfl, K4.trans0 k5⟩
end
end Go.Proofs.YtmipmlcolaaonaaDoor
