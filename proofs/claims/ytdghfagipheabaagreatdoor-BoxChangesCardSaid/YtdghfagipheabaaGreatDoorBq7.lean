/- Helper text of this claim: Bq7: lemmas and contracts that the proved statement rests on; no conditions of its own. -/
import Derived.Test.YtdghfagipheabaaGreatDoorBq6
-- alias Tryz
namespace Go.Proofs.YtdghfagipheabaaGreatDoor
open Go.RowKit Go.Pw Go.Vc Go.Cs Go.Lib
set_option linter.unusedVariables false
set_option maxRecDepth 100000
section
variable {w w' : World}
theorem app_box {w : World} {K : Value → World → Prop} {B : Nat} {v : Value} {l : List Bx} {cs : Array Bool} (h : OwnB w B v l) (hB : B ≤ w.heap.size) (x : Bx) (hl : l.length ≤ 1000000000)
    (k : ∀ v' w', OwnB w' B v' (l ++ [x]) → (w.alloc (.cells (boxCells x).toArray 39)).grownBy w' v.ownBlock → K v' w') :
    RunN Tryz.prog (builtin .append #[22, 22] 22 cs [v, .slice (some ⟨w.heap.size, 0, none⟩) 1 1].toArray) (w.alloc (.cells (boxCells x).toArray 39)) K := by
  refine RunN.app Tryz.underlying22 boxInfo rfl (by decide) (own_keep0 h ((Keeps.refl _ _).alloc _)) (Nat.le_trans hB ((Keeps.refl w none_).alloc _).size) ⟨w.heap.size, 0, none⟩ 1 1 (boxCells x) rfl (new_cells _ _ _) (boxOne x) (by omega) (by omega) fun v' w' h2 h3 => k v' w' ?_ h3
  unfold OwnB
  rw [List.length_append, List.flatMap_append]
  simpa using h2
/-- A row appended to a row of one's own. -/
theorem app_rows {w : World} {K : Value → World → Prop} {B m c : Nat} {v : Value} {l r : List Bx} {cs : Array Bool} (a : Addr) (h : OwnB w B v l) (hB : B ≤ w.heap.size) (hm : m = r.length) (hr : 0 < m → ∃ g o, a = ⟨g, o, none⟩ ∧ At w g o (r.flatMap boxCells)) (hl : l.length + r.length ≤ 1000000000)
    (k : ∀ v' w', OwnB w' B v' (l ++ r) → w.grownBy w' v.ownBlock → K v' w') :
    RunN Tryz.prog (builtin .append #[22, 22] 22 cs [v, .slice (some a) m c].toArray) w K := by
  subst hm
  refine RunN.app Tryz.underlying22 boxInfo rfl (by decide) h hB a r.length c (r.flatMap boxCells) (flatK_len boxCells 4 boxLen r) (fun j u hj => ?_) (boxesOne r) (by omega) (by omega) fun v' w' h2 h3 => k v' w' ?_ h3
  · rcases Nat.eq_zero_or_pos r.length with h0 | h0
    · rw [List.eq_nil_of_length_eq_zero h0] at hj; simp at hj
    · obtain ⟨g, o, rfl, hat⟩ := hr h0
      rw [add_none]
      exact hat j u hj
  · unfold OwnB
    rw [List.length_append, List.flatMap_append]
    exact h2
theorem app_nil {w : World} {K : Value → World → Prop} {B : Nat} {v : Value} {l : List Bx} {cs : Array Bool} (h : OwnB w B v l) (k : K v w) :
    RunN Tryz.prog (builtin .append #[22, 22] 22 cs [v, .slice none 0 0].toArray) w K := by
  obtain ⟨i, hi, _⟩ := info_one boxInfo
  exact RunN.append_none B 39 i 4 Tryz.underlying22 hi v _ _ h k
theorem at_drop {g o : Nat} {l : List Bx} (h : At w g o (l.flatMap boxCells)) (i : Nat) : At w g (o + i * 4) ((l.drop i).flatMap boxCells) := fun j u hj => by
  rw [← flatK_drop boxCells 4 boxLen, List.getElem?_drop] at hj
  rw [Nat.add_assoc]
  exact h _ u hj
theorem at_take {g o : Nat} {l : List Bx} (h : At w g o (l.flatMap boxCells)) (i : Nat) : At w g o ((l.take i).flatMap boxCells) := fun j u hj => by
  rw [← flatK_take boxCells 4 boxLen] at hj
  refine h j u ?_
  rw [List.getElem?_take] at hj
  split at hj
  · exact hj
  · cases hj
theorem any_cut {f : Fr} {x : Operand} {A : Addr} {c : Nat} {w : World} {K : Value → World → Prop} (hx : ev f x = .int .i64 0) (k : ∀ A', K (.slice (some A') 0 c) w) : RunV Tryz.prog (Instr.sliceAt 22 (.slice (some A) 0 c) ((some x).map (ev f)) none none) w K := by
  obtain ⟨i, hi, _, hs, _⟩ := info_one boxInfo
  by_cases hc : c = 0
  · subst hc
    exact RunV.of (by simp [Instr.sliceAt, hx, Instr.slice, Instr.sliceBounds, go_sem, und_ok Tryz.underlying22]) (k A)
  · exact RunV.of (by simp [Instr.sliceAt, hx, Instr.slice, Instr.sliceBounds, go_sem, und_ok Tryz.underlying22, size_ok hi]) (k (A.add 0))
/-- A slice whose length lies within its capacity. -/
def CapOk (v : Value) : Prop := ∀ a n c, v = .slice a n c → n ≤ c ∧ (a = none → c = 0)
set_option maxHeartbeats 4000000 in
theorem rq_Drop {v : Value} (l : List Bx) (id : Int) (hv : RowB w v l) (hcp : CapOk v) (hl : l.length ≤ 1000) (hs : SmallB l) :
    Calls Tryz.prog 21 #[v, .int .i64 id] w fun e w' => ∃ v', e = .returned (.tuple #[v', .int .i64 ((dropL l id).2 : Nat)]) ∧ OwnB w' w.heap.size v' (dropL l id).1 ∧ Keeps w w' none_ := by
  have hv0 := hv
  obtain ⟨a, cap, rfl, hr⟩ := hv
  obtain ⟨hcap, hcap0⟩ := hcp _ _ _ rfl
  refine calls_of_vc (args := [.slice a l.length cap, .int .i64 id]) Tryz.func21 rfl (Nat.le_of_ble_eq_true rfl) ?_; refine Sat.go hmix ?_; conv => whnf
  refine CallS.of (Tryz.call42 _ _) (rq_Right (w := w) l hv0 hl hs) ?_
  rintro e w1 ⟨rfl, k1⟩
  refine ⟨_, rfl, ?_⟩; (first | refine Then.go hmix ?_ | refine Sat.go hmix ?_ | refine ResK.go ?_ | skip); conv => whnf
  by_cases h1 : rightL l = true
  rotate_left
  · rw [show rightL l = false by simpa using h1]
    refine KGO ?_
    exact ⟨fin_err (R := dropL l id) 1 (by unfold dropL; rw [if_pos h1]) k1⟩
  rw [h1]
  have hR := (rightL_iff l).1 h1
  have g1 : ¬ ¬ rightL l = true := fun h => h h1
  refine KGO ?_
  refine CallS.of (Tryz.call44 _ _) (rq_find (w := w1) l id (hv0.keep k1) (by omega)) ?_
  rintro e w2 ⟨rfl, k2⟩
  have K2 := k1.trans0 k2
  refine ⟨_, rfl, ?_⟩; (first | refine Then.go hmix ?_ | refine Sat.go hmix ?_ | refine ResK.go ?_ | skip); conv => whnf
  cases hb : boxOf l id with
  | none =>
    have hneg := find_neg.2 hb
    have hno := box_none hb
    refine KGO ?_
    exact ⟨fin_err (R := dropL l id) 5 (by unfold dropL; rw [if_neg g1, if_pos (by rw [hno]; simp)]) K2⟩
  | some b =>
    obtain ⟨hm, rfl⟩ := boxOf_mem hb
    obtain ⟨hk1, hk2, hf⟩ := find_nat hb
    have g2 : ¬ ¬ hasId l b.id = true := fun h => h (box_has hb)
    rw [hf]
    generalize findN l b.id = k at *
    obtain ⟨gb, o, rfl, hgb, hat⟩ := hr (by omega)
    refine KGO ?_
    refine Loop.intro (ι := Nat) (fun i => [(0, .slice (some ⟨gb, o, none⟩) l.length cap), (1, .int .i64 b.id), (6, .int .i64 (k : Nat)), (7, .int .i64 (i : Nat))])
      (fun i wr => Keeps w wr none_ ∧ i ≤ l.length ∧ ∀ c ∈ l.take i, ¬ c.up = b.id) (fun i => l.length - i) 0 ⟨rfl, rfl, rfl, rfl, trivial⟩ ⟨K2, Nat.zero_le _, by simp⟩ ?_
    rintro i gg wr ⟨hK, hi, hnd⟩
    (first | refine Then.go hmix ?_ | refine Sat.go hmix ?_ | refine ResK.go ?_ | skip); conv => whnf
    by_cases hlt : i < l.length
    · by_cases h8 : l[i].up = b.id
      · have h3 : (l.any fun c => decide (c.up = b.id)) = true := List.any_eq_true.2 ⟨l[i], List.getElem_mem hlt, by simpa using h8⟩
        refine KGO ?_
        exact ⟨fin_err (R := dropL l b.id) 20 (by unfold dropL; rw [if_neg g1, if_neg g2, if_pos h3]) hK⟩
      · refine KGO ?_
        refine ⟨i + 1, ⟨rfl, rfl, rfl, v_int (by simp), trivial⟩, ⟨hK, by omega, ?_⟩, by dsimp only; omega⟩
        rw [List.take_succ_eq_append_getElem hlt]
        intro c hc
        rcases List.mem_append.1 hc with hc | hc
        · exact hnd c hc
        · rw [List.mem_singleton.1 hc]; exact h8
    · have h3 : ¬ (l.any fun c => decide (c.up = b.id)) = true := by
        rw [List.take_of_length_le (by omega)] at hnd
        simpa using hnd
      have hres : dropL l b.id = (delL l b.id, 0) := by unfold dropL; rw [if_neg g1, if_neg g2, if_neg h3]
      clear hnd
      refine KGO ?_
      refine RunV.of (build_b0 _) ?_
      have o1 : (wr.alloc (.cells #[] 39)).ownsRow wr.heap.size 39 4 (.slice (some ⟨wr.heap.size, 0, none⟩) 0 0) 0 [] := World.ownsRow_made wr #[] 0 (Nat.le_refl _) (by decide) (by simp)
      have o1 : OwnB (wr.alloc (.cells #[] 39)) wr.heap.size (.slice (some ⟨wr.heap.size, 0, none⟩) 0 0) [] := o1
      have k3 : Keeps wr (wr.alloc (.cells #[] 39)) none_ := (Keeps.refl _ _).alloc _
      have hB : wr.heap.size ≤ (wr.alloc (.cells #[] 39)).heap.size := k3.size
      generalize wr.alloc (.cells #[] 39) = w3 at *
      have hat3 := at_mono hat (hK.trans0 k3)
      refine KGO ?_
      rw [if_neg (by omega : ¬ 0 = cap)]
      refine app_rows (w := w3) ⟨gb, o + 0 * 4, none⟩ (m := k - 0) (c := cap - 0) (l := []) (r := l.take k) o1 hB (by rw [List.length_take]; omega) (fun _ => ⟨_, _, rfl, at_take hat3 k⟩) (by rw [List.length_take, List.length_nil]; omega) fun v4 w4 o4 g4 => ?_
      have k4 : Keeps wr w4 none_ := k3.own o1 (Nat.le_refl _) g4
      have hat4 := at_mono hat (hK.trans0 k4)
      rw [List.nil_append] at o4
      obtain ⟨a4, c4, rfl⟩ := own_shape o4
      have hlt4 : (l.take k).length = k := by rw [List.length_take]; omega
      refine KGO ?_
      rw [show ((k : Nat) : Int) + 1 = ((k + 1 : Nat) : Int) by omega]
      refine Cut.from (by omega) hcap ?_
      refine KGO ?_
      have hfin : ∀ v5 w5, OwnB w5 wr.heap.size v5 (l.take k ++ l.drop (k + 1)) → w4.grownBy w5 (Value.slice a4 (l.take k).length c4).ownBlock → OwnB w5 wr.heap.size v5 (delL l b.id) ∧ Keeps w w5 none_ := fun v5 w5 o5 g5 => by
        rw [del_eq hR.asc hk1 hk2] at o5
        exact ⟨o5, hK.trans0 (k4.own o4 (Nat.le_refl _) g5)⟩
      by_cases hc : k + 1 = cap
      · rw [if_pos hc]
        refine app_rows (w := w4) ⟨gb, o, none⟩ (m := l.length - (k + 1)) (c := cap - (k + 1)) (l := l.take k) (r := l.drop (k + 1)) o4 k4.size (by rw [List.length_drop]) (fun _ => by omega) (by rw [List.length_take, List.length_drop]; omega) fun v5 w5 o5 g5 => ?_
        obtain ⟨o6, k6⟩ := hfin v5 w5 o5 g5
        obtain ⟨a5, c5, rfl⟩ := own_shape o6
        refine KGO ?_
        exact ⟨fin_ok (R := dropL l b.id) hres (own_base o6 hK.size) k6⟩
      · rw [if_neg hc]
        refine app_rows (w := w4) ⟨gb, o + (k + 1) * 4, none⟩ (m := l.length - (k + 1)) (c := cap - (k + 1)) (l := l.take k) (r := l.drop (k + 1)) o4 k4.size (by rw [List.length_drop]) (fun _ => ⟨_, _, rfl, at_drop hat4 (k + 1)⟩) (by rw [List.length_take, List.length_drop]; omega) fun v5 w5 o5 g5 => ?_
        obtain ⟨o6, k6⟩ := hfin v5 w5 o5 g5
        obtain ⟨a5, c5, rfl⟩ := own_shape o6
        refine KGO ?_
        exact ⟨fin_ok (R := dropL l b.id) hres (own_base o6 hK.size) k6⟩
theorem ins_take {l : List Bx} {x : Bx} {i : Nat} (h : idxL l x.id = i) : insL l x = l.take i ++ [x] ++ l.drop i := by
  unfold insL; rw [h]; simp
set_option maxHeartbeats 8000000 in
theorem rq_Add {v : Value} (l : List Bx) (up : Int) (nm r : List UInt8) (id : Int) (hv : RowB w v l) (hcp : CapOk v) (hl : l.length ≤ 1000) (hs : SmallB l) (hn : nm.length ≤ 1000000) :
    Calls Tryz.prog 18 #[v, .int .i64 up, .string (str nm), .string (str r), .int .i64 id] w fun e w' => ∃ v', e = .returned (.tuple #[v', .int .i64 ((addL l up nm r id).2 : Nat)]) ∧ OwnB w' w.heap.size v' (addL l up nm r id).1 ∧ Keeps w w' none_ := by
  have hv0 := hv
  obtain ⟨a, cap, rfl, hr⟩ := hv
  obtain ⟨hcap, hcap0⟩ := hcp _ _ _ rfl
  refine calls_of_vc (args := [.slice a l.length cap, .int .i64 up, .string (str nm), .string (str r), .int .i64 id]) Tryz.func18 rfl (Nat.le_of_ble_eq_true rfl) ?_; refine Sat.go hmix ?_; conv => whnf
  refine CallS.of (Tryz.call40 _ _) (rq_Named (w := w) (str nm) (by rw [str_size]; omega)) ?_
  rintro e w1 ⟨rfl, K1⟩
  rw [L_str]
  refine ⟨_, rfl, ?_⟩; (first | refine Then.go hmix ?_ | refine Sat.go hmix ?_ | refine ResK.go ?_ | skip); conv => whnf
  refine KGO ?_
  refine CallS.of (Tryz.call41 _ _) (rq_role (w := w1) r) ?_
  rintro e w2 ⟨rfl, j2⟩
  have K2 := K1.trans0 j2
  refine ⟨_, rfl, ?_⟩; (first | refine Then.go hmix ?_ | refine Sat.go hmix ?_ | refine ResK.go ?_ | skip); conv => whnf
  refine KGO ?_
  refine CallS.of (Tryz.call42 _ _) (rq_Right (w := w2) l (hv0.keep K2) hl hs) ?_
  rintro e w3 ⟨rfl, j3⟩
  have K3 := K2.trans0 j3
  refine ⟨_, rfl, ?_⟩; (first | refine Then.go hmix ?_ | refine Sat.go hmix ?_ | refine ResK.go ?_ | skip); conv => whnf
  by_cases h1 : rightL l = true
  rotate_left
  · rw [show rightL l = false by simpa using h1]
    refine KGO ?_
    exact ⟨fin_err (R := addL l up nm r id) 1 (by unfold addL; rw [if_pos fun h => h1 h.1]) K3⟩
  rw [h1]
  have hR := (rightL_iff l).1 h1
  by_cases h2 : namedB nm = true
  rotate_left
  · rw [show namedB nm = false by simpa using h2]
    refine KGO ?_
    exact ⟨fin_err (R := addL l up nm r id) 1 (by unfold addL; rw [if_pos fun h => h2 h.2.1]) K3⟩
  rw [h2]
  by_cases h3 : r ∈ rolesL
  rotate_left
  · rw [decide_eq_false h3]
    refine KGO ?_
    exact ⟨fin_err (R := addL l up nm r id) 1 (by unfold addL; rw [if_pos fun h => h3 h.2.2]) K3⟩
  rw [decide_eq_true h3]
  have g1 : ¬ ¬ (rightL l = true ∧ namedB nm = true ∧ r ∈ rolesL) := fun h => h ⟨h1, h2, h3⟩
  by_cases h4 : id < 1
  · refine KGO ?_
    exact ⟨fin_err (R := addL l up nm r id) 6 (by unfold addL; rw [if_neg g1, if_pos (.inl h4)]) K3⟩
  by_cases h5 : 1099511627776 < id
  · refine KGO ?_
    exact ⟨fin_err (R := addL l up nm r id) 6 (by unfold addL; rw [if_neg g1, if_pos (.inr h5)]) K3⟩
  have g2 : ¬ (id < 1 ∨ 1099511627776 < id) := by omega
  refine KGO ?_
  refine CallS.of (Tryz.call43 _ _) (rq_Role (w := w3) l r (hv0.keep K3) (by omega)) ?_
  rintro e w4 ⟨rfl, j4⟩
  have K4 := K3.trans0 j4
  have hrs := role_some l r
  obtain ⟨ri, rq, hrq, hrb⟩ : ∃ i q, optV (roleOf l r) = .tuple #[.int .i64 i, .bool q] ∧ q = (roleOf l r).isSome := by
    cases roleOf l r <;> exact ⟨_, _, rfl, rfl⟩
  rw [hrs] at hrb
  rw [hrq]
  clear hrs hrq
  refine ⟨_, rfl, ?_⟩; (first | refine Then.go hmix ?_ | refine Sat.go hmix ?_ | refine ResK.go ?_ | skip); conv => whnf
  refine KGO ?_
  refine CallS.of (Tryz.call44 _ _) (rq_find (w := w4) l id (hv0.keep K4) (by omega)) ?_
  rintro e w5 ⟨rfl, j5⟩
  have K5 := K4.trans0 j5
  refine ⟨_, rfl, ?_⟩; (first | refine Then.go hmix ?_ | refine Sat.go hmix ?_ | refine ResK.go ?_ | skip); conv => whnf
  cases hbo : boxOf l id with
  | some b =>
    obtain ⟨_, _, hf⟩ := find_nat hbo
    rw [hf]
    refine KGO ?_
    exact ⟨fin_err (R := addL l up nm r id) 4 (by unfold addL; rw [if_neg g1, if_neg g2, if_pos (.inl (box_has hbo))]) K5⟩
  | none =>
    have hneg := find_neg.2 hbo
    have hno := box_none hbo
    cases rq with
    | true =>
      refine KGO ?_
      exact ⟨fin_err (R := addL l up nm r id) 4 (by unfold addL; rw [if_neg g1, if_neg g2, if_pos (.inr (of_decide_eq_true hrb.symm))]) K5⟩
    | false =>
      have hrb := of_decide_eq_false hrb.symm
      have g3 : ¬ (hasId l id = true ∨ r ≠ [] ∧ (l.any fun b => decide (b.role = r)) = true) := fun h => h.elim (fun h => by rw [hno] at h; cases h) hrb
      by_cases h6 : 64 ≤ l.length
      · have h64 := hR.len
        refine KGO ?_
        exact ⟨fin_err (R := addL l up nm r id) 3 (by unfold addL; rw [if_neg g1, if_neg g2, if_neg g3, if_pos h6]) K5⟩
      by_cases h0 : up = 0
      · have hup : up = 0 ∨ hasId l up = true := .inl h0
        refine KGO ?_
        have Ky := K5
        have g5 : ¬ ¬ (up = 0 ∨ hasId l up = true) := fun h => h hup
        have hdr := dpt_ref hR hup
        refine CallS.of (Tryz.call45 _ _) (rq_deep (w := w5) l up (hv0.keep Ky) (by omega)) ?_
        rintro e w7 ⟨rfl, j7⟩
        have K7 := Ky.trans0 j7
        rw [hdr]
        refine ⟨_, rfl, ?_⟩; (first | refine Then.go hmix ?_ | refine Sat.go hmix ?_ | refine ResK.go ?_ | skip); conv => whnf
        by_cases h7 : 8 ≤ dpt l up
        · refine KGO ?_
          exact ⟨fin_err (R := addL l up nm r id) 10 (by unfold addL; rw [if_neg g1, if_neg g2, if_neg g3, if_neg h6, if_neg g5, if_pos h7]) K7⟩
        refine KGO ?_
        refine CallS.of (Tryz.call46 _ _) (rq_beside (w := w7) l up nm 0 (hv0.keep K7) (by omega) hn hs) ?_
        rintro e w8 ⟨rfl, j8⟩
        have K8 := K7.trans0 j8
        refine ⟨_, rfl, ?_⟩; (first | refine Then.go hmix ?_ | refine Sat.go hmix ?_ | refine ResK.go ?_ | skip); conv => whnf
        by_cases h8 : takenL l up nm 0 = true
        · rw [h8]
          refine KGO ?_
          exact ⟨fin_err (R := addL l up nm r id) 4 (by unfold addL; rw [if_neg g1, if_neg g2, if_neg g3, if_neg h6, if_neg g5, if_neg h7, if_pos h8]) K8⟩
        rw [show takenL l up nm 0 = false by simpa using h8]
        have hres : addL l up nm r id = (insL l ⟨id, up, nm, r⟩, 0) := by unfold addL; rw [if_neg g1, if_neg g2, if_neg g3, if_neg h6, if_neg g5, if_neg h7, if_neg h8]
        clear g1 g2 g3 g5 hdr hrb hup
        refine KGO ?_
        refine Loop.intro (ι := Nat × Option Addr × Nat) (fun p => [(0, .slice a l.length cap), (1, .int .i64 up), (2, .string (str nm)), (3, .string (str r)), (4, .int .i64 id), (16, .slice p.2.1 p.1 p.2.2), (17, .int .i64 (p.1 : Nat))])
          (fun p wr => Keeps w8 wr none_ ∧ p.1 ≤ l.length ∧ OwnB wr w8.heap.size (.slice p.2.1 p.1 p.2.2) (l.take p.1) ∧ ∀ b ∈ l.take p.1, b.id < id) (fun p => l.length - p.1) (0, none, 0) ⟨rfl, rfl, rfl, rfl, rfl, rfl, rfl, trivial⟩ ⟨Keeps.refl _ _, Nat.zero_le _, World.ownsRow_nil _ _ _ _, by simp⟩ ?_
        rintro ⟨i, ao, co⟩ gg wr ⟨hK, hi, ho, hpre⟩
        dsimp only at hi ho hpre ⊢
        (first | refine Then.go hmix ?_ | refine Sat.go hmix ?_ | refine ResK.go ?_ | skip); conv => whnf
        by_cases hstop : ∃ hlt : i < l.length, l[i].id < id
        · obtain ⟨hlt, hid⟩ := hstop
          obtain ⟨gb, o, rfl, hgb, hat⟩ := hr (by omega)
          have KK := K8.trans0 hK
          refine KGO ?_
          refine RunV.of (build_boxes1 l[i] _) ?_
          (first | refine Then.go hmix ?_ | refine Sat.go hmix ?_ | refine ResK.go ?_ | skip); conv => whnf
          have hlen : (l.take i).length = i := by rw [List.length_take]; omega
          refine app_box (w := wr) (B := w8.heap.size) ho hK.size l[i] (by omega) fun v' w9 o9 g9 => ?_
          have K9 : Keeps w8 w9 none_ := (hK.alloc _).own (own_keep0 (w := wr) ho ((Keeps.refl _ _).alloc _)) (Nat.le_refl _) g9
          rw [← List.take_succ_eq_append_getElem hlt] at o9
          have hlen2 : (l.take (i + 1)).length = i + 1 := by rw [List.length_take]; omega
          obtain ⟨a9, c9, rfl⟩ := own_shape o9
          rw [hlen2] at o9 ⊢
          refine KGO ?_
          refine ⟨(i + 1, a9, c9), ⟨rfl, rfl, rfl, rfl, rfl, rfl, v_int (by simp), trivial⟩, ⟨K9, by dsimp only; omega, o9, ?_⟩, by dsimp only; omega⟩
          dsimp only
          rw [List.take_succ_eq_append_getElem hlt]
          intro c hc
          rcases List.mem_append.1 hc with hc | hc
          · exact hpre c hc
          · rw [List.mem_singleton.1 hc]; exact hid
        · have hidx : idxL l id = i := idx_first hi hpre fun b hb h => by
            obtain ⟨h1, rfl⟩ := List.getElem?_eq_some_iff.1 hb
            exact hstop ⟨h1, h⟩
          have hres2 : addL l up nm r id = (l.take i ++ [⟨id, up, nm, r⟩] ++ l.drop i, 0) := by rw [hres, ins_take (x := ⟨id, up, nm, r⟩) hidx]
          clear hres hpre
          have KK := K8.trans0 hK
          have hlen : (l.take i).length = i := by rw [List.length_take]; omega
          have hfin : ∀ v' w' w9 vo, OwnB w' w8.heap.size v' (l.take i ++ [⟨id, up, nm, r⟩] ++ l.drop i) → OwnB w9 w8.heap.size vo (l.take i ++ [⟨id, up, nm, r⟩]) → Keeps w8 w9 none_ → w9.grownBy w' vo.ownBlock → ∃ v'', Ending.returned (.tuple #[v', .int .i64 0]) = .returned (.tuple #[v'', .int .i64 ((addL l up nm r id).2 : Nat)]) ∧ OwnB w' w.heap.size v'' (addL l up nm r id).1 ∧ Keeps w w' none_ := fun v' w' w9 vo o k9o k9 g => 
            fin_ok hres2 (own_base o K8.size) (K8.trans0 (k9.own k9o (Nat.le_refl _) g))
          by_cases hlt : i < l.length
          · have hge : ¬ l[i].id < id := fun h => hstop ⟨hlt, h⟩
            obtain ⟨gb, o, rfl, hgb, hat⟩ := hr (by omega)
            refine KGO ?_
            refine RunV.of (build_box _ _ _ _ _) ?_
            refine KGO ?_
            refine RunV.of (build_boxes1 ⟨id, up, nm, r⟩ _) ?_
            (first | refine Then.go hmix ?_ | refine Sat.go hmix ?_ | refine ResK.go ?_ | skip); conv => whnf
            refine app_box (w := wr) (B := w8.heap.size) ho hK.size ⟨id, up, nm, r⟩ (by omega) fun v9 w9 o9 g9 => ?_
            have K9 : Keeps w8 w9 none_ := (hK.alloc _).own (own_keep0 (w := wr) ho ((Keeps.refl _ _).alloc _)) (Nat.le_refl _) g9
            obtain ⟨a9, c9, rfl⟩ := own_shape o9
            refine KGO ?_
            rw [if_neg (by omega : ¬ i = cap)]
            refine app_rows (w := w9) ⟨gb, o + i * 4, none⟩ (m := l.length - i) (c := cap - i) (r := l.drop i) o9 (by have := K9.size; omega) (by rw [List.length_drop]) (fun _ => ⟨_, _, rfl, at_drop (at_mono hat (K8.trans0 K9)) i⟩) (by rw [List.length_append, List.length_drop, hlen, List.length_singleton]; omega) fun v5 w5 o5 g5 => ?_
            have hfin2 := hfin v5 w5 w9 _ o5 o9 K9 g5
            obtain ⟨a5, c5, rfl⟩ := own_shape o5
            refine KGO ?_
            exact ⟨hfin2⟩
          · have hi2 : i = l.length := by omega
            rcases a with _ | ⟨ga, oa, sa⟩
            · obtain rfl := hcap0 rfl
              have hl0 : l = [] := List.eq_nil_of_length_eq_zero (by omega)
              have hi0 : i = 0 := by omega
              subst hl0
              subst hi0
              refine KGO ?_
              refine RunV.of (v := .slice none 0 0) (w' := wr) (nil_cut _) ?_
              refine KGO ?_
              refine RunV.of (build_box _ _ _ _ _) ?_
              refine KGO ?_
              refine RunV.of (build_boxes1 ⟨id, up, nm, r⟩ _) ?_
              (first | refine Then.go hmix ?_ | refine Sat.go hmix ?_ | refine ResK.go ?_ | skip); conv => whnf
              refine app_box (w := wr) (B := w8.heap.size) ho hK.size ⟨id, up, nm, r⟩ (by omega) fun v9 w9 o9 g9 => ?_
              have K9 : Keeps w8 w9 none_ := (hK.alloc _).own (own_keep0 (w := wr) ho ((Keeps.refl _ _).alloc _)) (Nat.le_refl _) g9
              obtain ⟨a9, c9, rfl⟩ := own_shape o9
              refine KGO ?_
              refine app_nil o9 ?_
              have o5 := o9
              have g5 : w9.grownBy w9 (Value.slice a9 (List.take 0 [] ++ [(⟨id, up, nm, r⟩ : Bx)]).length c9).ownBlock := ⟨rfl, rfl, rfl, Nat.le_refl _, fun _ _ _ => rfl⟩
              refine KGO ?_
              exact ⟨hfin _ _ w9 _ (by simpa using o9) o9 K9 g5⟩
            · rcases Nat.eq_zero_or_pos l.length with hl0 | hl0
              · have hl0 : l = [] := List.eq_nil_of_length_eq_zero hl0
                have hi0 : i = 0 := by rw [hl0] at hi2; exact hi2
                subst hl0
                subst hi0
                rcases sa with _ | sa
                · refine KGO ?_
                  refine RunV.of (build_box _ _ _ _ _) ?_
                  refine KGO ?_
                  refine RunV.of (build_boxes1 ⟨id, up, nm, r⟩ _) ?_
                  (first | refine Then.go hmix ?_ | refine Sat.go hmix ?_ | refine ResK.go ?_ | skip); conv => whnf
                  refine app_box (w := wr) (B := w8.heap.size) ho hK.size ⟨id, up, nm, r⟩ (by omega) fun v9 w9 o9 g9 => ?_
                  have K9 : Keeps w8 w9 none_ := (hK.alloc _).own (own_keep0 (w := wr) ho ((Keeps.refl _ _).alloc _)) (Nat.le_refl _) g9
                  obtain ⟨a9, c9, rfl⟩ := own_shape o9
                  refine KGO ?_
                  refine app_rows (w := w9) _ (m := 0) (c := cap - 0) (r := []) o9 (by have := K9.size; omega) rfl (fun _ => by omega) (by rw [List.length_append, hlen, List.length_nil, List.length_singleton]; omega) fun v5 w5 o5 g5 => ?_
                  have hfin2 := hfin v5 w5 w9 _ o5 o9 K9 g5
                  obtain ⟨a5, c5, rfl⟩ := own_shape o5
                  refine KGO ?_
                  exact ⟨hfin2⟩
                · refine KGO ?_
                  refine any_cut (by rfl) fun A' => ?_
                  refine KGO ?_
                  refine RunV.of (build_box _ _ _ _ _) ?_
                  refine KGO ?_
                  refine RunV.of (build_boxes1 ⟨id, up, nm, r⟩ _) ?_
                  (first | refine Then.go hmix ?_ | refine Sat.go hmix ?_ | refine ResK.go ?_ | skip); conv => whnf
                  refine app_box (w := wr) (B := w8.heap.size) ho hK.size ⟨id, up, nm, r⟩ (by omega) fun v9 w9 o9 g9 => ?_
                  have K9 : Keeps w8 w9 none_ := (hK.alloc _).own (own_keep0 (w := wr) ho ((Keeps.refl _ _).alloc _)) (Nat.le_refl _) g9
                  obtain ⟨a9, c9, rfl⟩ := own_shape o9
                  refine KGO ?_
                  refine app_rows (w := w9) A' (m := 0) (c := cap) (r := []) o9 (by have := K9.size; omega) rfl (fun _ => by omega) (by rw [List.length_append, hlen, List.length_nil, List.length_singleton]; omega) fun v5 w5 o5 g5 => ?_
                  have hfin2 := hfin v5 w5 w9 _ o5 o9 K9 g5
                  obtain ⟨a5, c5, rfl⟩ := own_shape o5
                  refine KGO ?_
                  exact ⟨hfin2⟩
              obtain ⟨_, _, hae, _⟩ := hr hl0
              injection hae with hae
              injection hae with e1 e2 e3
              subst e3
              refine KGO ?_
              refine RunV.of (build_box _ _ _ _ _) ?_
              refine KGO ?_
              refine RunV.of (build_boxes1 ⟨id, up, nm, r⟩ _) ?_
              (first | refine Then.go hmix ?_ | refine Sat.go hmix ?_ | refine ResK.go ?_ | skip); conv => whnf
              refine app_box (w := wr) (B := w8.heap.size) ho hK.size ⟨id, up, nm, r⟩ (by omega) fun v9 w9 o9 g9 => ?_
              have K9 : Keeps w8 w9 none_ := (hK.alloc _).own (own_keep0 (w := wr) ho ((Keeps.refl _ _).alloc _)) (Nat.le_refl _) g9
              obtain ⟨a9, c9, rfl⟩ := own_shape o9
              refine KGO ?_
              by_cases hic : i = cap
              · rw [if_pos hic]
                refine app_rows (w := w9) _ (m := l.length - i) (c := cap - i) (r := l.drop i) o9 (by have := K9.size; omega) (by rw [List.length_drop]) (fun _ => by omega) (by rw [List.length_append, List.length_drop, hlen, List.length_singleton]; omega) fun v5 w5 o5 g5 => ?_
                have hfin2 := hfin v5 w5 w9 _ o5 o9 K9 g5
                obtain ⟨a5, c5, rfl⟩ := own_shape o5
                refine KGO ?_
                exact ⟨hfin2⟩
              · rw [if_neg hic]
                refine app_rows (w := w9) _ (m := l.length - i) (c := cap - i) (r := l.drop i) o9 (by have := K9.size; omega) (by rw [List.length_drop]) (fun _ => by omega) (by rw [List.length_append, List.length_drop, hlen, List.length_singleton]; omega) fun v5 w5 o5 g5 => ?_
                have hfin2 := hfin v5 w5 w9 _ o5 o9 K9 g5
                obtain ⟨a5, c5, rfl⟩ := own_shape o5
                refine KGO ?_
                exact ⟨hfin2⟩
      · refine KGO ?_
        refine CallS.of (Tryz.call44 _ _) (rq_find (w := w5) l up (hv0.keep K5) (by omega)) ?_
        rintro e w6 ⟨rfl, j6⟩
        have K6 := K5.trans0 j6
        refine ⟨_, rfl, ?_⟩; (first | refine Then.go hmix ?_ | refine Sat.go hmix ?_ | refine ResK.go ?_ | skip); conv => whnf
        cases hbu : boxOf l up with
        | none =>
          have hnegu := find_neg.2 hbu
          have hnu : ¬ (up = 0 ∨ hasId l up = true) := fun h => h.elim h0 fun h => by rw [box_none hbu] at h; cases h
          refine KGO ?_
          exact ⟨fin_err (R := addL l up nm r id) 5 (by unfold addL; rw [if_neg g1, if_neg g2, if_neg g3, if_neg h6, if_pos hnu]) K6⟩
        | some c =>
          obtain ⟨_, _, hfu⟩ := find_nat hbu
          have hup : up = 0 ∨ hasId l up = true := .inr (box_has hbu)
          rw [hfu]
          clear hfu
          refine KGO ?_
          have Ky := K6
          have g5 : ¬ ¬ (up = 0 ∨ hasId l up = true) := fun h => h hup
          have hdr := dpt_ref hR hup
          refine CallS.of (Tryz.call45 _ _) (rq_deep (w := w6) l up (hv0.keep Ky) (by omega)) ?_
          rintro e w7 ⟨rfl, j7⟩
          have K7 := Ky.trans0 j7
          rw [hdr]
          refine ⟨_, rfl, ?_⟩; (first | refine Then.go hmix ?_ | refine Sat.go hmix ?_ | refine ResK.go ?_ | skip); conv => whnf
          by_cases h7 : 8 ≤ dpt l up
          · refine KGO ?_
            exact ⟨fin_err (R := addL l up nm r id) 10 (by unfold addL; rw [if_neg g1, if_neg g2, if_neg g3, if_neg h6, if_neg g5, if_pos h7]) K7⟩
          refine KGO ?_
          refine CallS.of (Tryz.call46 _ _) (rq_beside (w := w7) l up nm 0 (hv0.keep K7) (by omega) hn hs) ?_
          rintro e w8 ⟨rfl, j8⟩
          have K8 := K7.trans0 j8
          refine ⟨_, rfl, ?_⟩; (first | refine Then.go hmix ?_ | refine Sat.go hmix ?_ | refine ResK.go ?_ | skip); conv => whnf
          by_cases h8 : takenL l up nm 0 = true
          · rw [h8]
            refine KGO ?_
            exact ⟨fin_err (R := addL l up nm r id) 4 (by unfold addL; rw [if_neg g1, if_neg g2, if_neg g3, if_neg h6, if_neg g5, if_neg h7, if_pos h8]) K8⟩
          rw [show takenL l up nm 0 = false by simpa using h8]
          have hres : addL l up nm r id = (insL l ⟨id, up, nm, r⟩, 0) := by unfold addL; rw [if_neg g1, if_neg g2, if_neg g3, if_neg h6, if_neg g5, if_neg h7, if_neg h8]
          clear g1 g2 g3 g5 hdr hrb hup
          refine KGO ?_
          refine Loop.intro (ι := Nat × Option Addr × Nat) (fun p => [(0, .slice a l.length cap), (1, .int .i64 up), (2, .string (str nm)), (3, .string (str r)), (4, .int .i64 id), (16, .slice p.2.1 p.1 p.2.2), (17, .int .i64 (p.1 : Nat))])
            (fun p wr => Keeps w8 wr none_ ∧ p.1 ≤ l.length ∧ OwnB wr w8.heap.size (.slice p.2.1 p.1 p.2.2) (l.take p.1) ∧ ∀ b ∈ l.take p.1, b.id < id) (fun p => l.length - p.1) (0, none, 0) ⟨rfl, rfl, rfl, rfl, rfl, rfl, rfl, trivial⟩ ⟨Keeps.refl _ _, Nat.zero_le _, World.ownsRow_nil _ _ _ _, by simp⟩ ?_
          rintro ⟨i, ao, co⟩ gg wr ⟨hK, hi, ho, hpre⟩
          dsimp only at hi ho hpre ⊢
          (first | refine Then.go hmix ?_ | refine Sat.go hmix ?_ | refine ResK.go ?_ | skip); conv => whnf
          by_cases hstop : ∃ hlt : i < l.length, l[i].id < id
          · obtain ⟨hlt, hid⟩ := hstop
            obtain ⟨gb, o, rfl, hgb, hat⟩ := hr (by omega)
            have KK := K8.trans0 hK
            refine KGO ?_
            refine RunV.of (build_boxes1 l[i] _) ?_
            (first | refine Then.go hmix ?_ | refine Sat.go hmix ?_ | refine ResK.go ?_ | skip); conv => whnf
            have hlen : (l.take i).length = i := by rw [List.length_take]; omega
            refine app_box (w := wr) (B := w8.heap.size) ho hK.size l[i] (by omega) fun v' w9 o9 g9 => ?_
            have K9 : Keeps w8 w9 none_ := (hK.alloc _).own (own_keep0 (w := wr) ho ((Keeps.refl _ _).alloc _)) (Nat.le_refl _) g9
            rw [← List.take_succ_eq_append_getElem hlt] at o9
            have hlen2 : (l.take (i + 1)).length = i + 1 := by rw [List.length_take]; omega
            obtain ⟨a9, c9, rfl⟩ := own_shape o9
            rw [hlen2] at o9 ⊢
            refine KGO ?_
            refine ⟨(i + 1, a9, c9), ⟨rfl, rfl, rfl, rfl, rfl, rfl, v_int (by simp), trivial⟩, ⟨K9, by dsimp only; omega, o9, ?_⟩, by dsimp only; omega⟩
            dsimp only
            rw [List.take_succ_eq_append_getElem hlt]
            intro c hc
            rcases List.mem_append.1 hc with hc | hc
            · exact hpre c hc
            · rw [List.mem_singleton.1 hc]; exact hid
          · have hidx : idxL l id = i := idx_first hi hpre fun b hb h => by
              obtain ⟨h1, rfl⟩ := List.getElem?_eq_some_iff.1 hb
              exact hstop ⟨h1, h⟩
            have hres2 : addL l up nm r id = (l.take i ++ [⟨id, up, nm, r⟩] ++ l.drop i, 0) := by rw [hres, ins_take (x := ⟨id, up, nm, r⟩) hidx]
            clear hres hpre
            have KK := K8.trans0 hK
            have hlen : (l.take i).length = i := by rw [List.length_take]; omega
            have hfin : ∀ v' w' w9 vo, OwnB w' w8.heap.size v' (l.take i ++ [⟨id, up, nm, r⟩] ++ l.drop i) → OwnB w9 w8.heap.size vo (l.take i ++ [⟨id, up, nm, r⟩]) → Keeps w8 w9 none_ → w9.grownBy w' vo.ownBlock → ∃ v'', Ending.returned (.tuple #[v', .int .i64 0]) = .returned (.tuple #[v'', .int .i64 ((addL l up nm r id).2 : Nat)]) ∧ OwnB w' w.heap.size v'' (addL l up nm r id).1 ∧ Keeps w w' none_ := fun v' w' w9 vo o k9o k9 g => 
              fin_ok hres2 (own_base o K8.size) (K8.trans0 (k9.own k9o (Nat.le_refl _) g))
            by_cases hlt : i < l.length
            · have hge : ¬ l[i].id < id := fun h => hstop ⟨hlt, h⟩
              obtain ⟨gb, o, rfl, hgb, hat⟩ := hr (by omega)
              refine KGO ?_
              refine RunV.of (build_box _ _ _ _ _) ?_
              refine KGO ?_
              refine RunV.of (build_boxes1 ⟨id, up, nm, r⟩ _) ?_
              (first | refine Then.go hmix ?_ | refine Sat.go hmix ?_ | refine ResK.go ?_ | skip); conv => whnf
              refine app_box (w := wr) (B := w8.heap.size) ho hK.size ⟨id, up, nm, r⟩ (by omega) fun v9 w9 o9 g9 => ?_
              have K9 : Keeps w8 w9 none_ := (hK.alloc _).own (own_keep0 (w := wr) ho ((Keeps.refl _ _).alloc _)) (Nat.le_refl _) g9
              obtain ⟨a9, c9, rfl⟩ := own_shape o9
              refine KGO ?_
              rw [if_neg (by omega : ¬ i = cap)]
              refine app_rows (w := w9) ⟨gb, o + i * 4, none⟩ (m := l.length - i) (c := cap - i) (r := l.drop i) o9 (by have := K9.size; omega) (by rw [List.length_drop]) (fun _ => ⟨_, _, rfl, at_drop (at_mono hat (K8.trans0 K9)) i⟩) (by rw [List.length_append, List.length_drop, hlen, List.length_singleton]; omega) fun v5 w5 o5 g5 => ?_
              have hfin2 := hfin v5 w5 w9 _ o5 o9 K9 g5
              obtain ⟨a5, c5, rfl⟩ := own_shape o5
              refine KGO ?_
              exact ⟨hfin2⟩
            · have hi2 : i = l.length := by omega
              rcases a with _ | ⟨ga, oa, sa⟩
              · obtain rfl := hcap0 rfl
                have hl0 : l = [] := List.eq_nil_of_length_eq_zero (by omega)
                have hi0 : i = 0 := by omega
                subst hl0
                subst hi0
                refine KGO ?_
                refine RunV.of (v := .slice none 0 0) (w' := wr) (nil_cut _) ?_
                refine KGO ?_
                refine RunV.of (build_box _ _ _ _ _) ?_
                refine KGO ?_
                refine RunV.of (build_boxes1 ⟨id, up, nm, r⟩ _) ?_
                (first | refine Then.go hmix ?_ | refine Sat.go hmix ?_ | refine ResK.go ?_ | skip); conv => whnf
                refine app_box (w := wr) (B := w8.heap.size) ho hK.size ⟨id, up, nm, r⟩ (by omega) fun v9 w9 o9 g9 => ?_
                have K9 : Keeps w8 w9 none_ := (hK.alloc _).own (own_keep0 (w := wr) ho ((Keeps.refl _ _).alloc _)) (Nat.le_refl _) g9
                obtain ⟨a9, c9, rfl⟩ := own_shape o9
                refine KGO ?_
                refine app_nil o9 ?_
                have o5 := o9
                have g5 : w9.grownBy w9 (Value.slice a9 (List.take 0 [] ++ [(⟨id, up, nm, r⟩ : Bx)]).length c9).ownBlock := ⟨rfl, rfl, rfl, Nat.le_refl _, fun _ _ _ => rfl⟩
                refine KGO ?_
                exact ⟨hfin _ _ w9 _ (by simpa using o9) o9 K9 g5⟩
              · rcases Nat.eq_zero_or_pos l.length with hl0 | hl0
                · have hl0 : l = [] := List.eq_nil_of_length_eq_zero hl0
                  have hi0 : i = 0 := by rw [hl0] at hi2; exact hi2
                  subst hl0
                  subst hi0
                  rcases sa with _ | sa
                  · refine KGO ?_
                    refine RunV.of (build_box _ _ _ _ _) ?_
                    refine KGO ?_
                    refine RunV.of (build_boxes1 ⟨id, up, nm, r⟩ _) ?_
                    (first | refine Then.go hmix ?_ | refine Sat.go hmix ?_ | refine ResK.go ?_ | skip); conv => whnf
                    refine app_box (w := wr) (B := w8.heap.size) ho hK.size ⟨id, up, nm, r⟩ (by omega) fun v9 w9 o9 g9 => ?_
                    have K9 : Keeps w8 w9 none_ := (hK.alloc _).own (own_keep0 (w := wr) ho ((Keeps.refl _ _).alloc _)) (Nat.le_refl _) g9
                    obtain ⟨a9, c9, rfl⟩ := own_shape o9
                    refine KGO ?_
                    refine app_rows (w := w9) _ (m := 0) (c := cap - 0) (r := []) o9 (by have := K9.size; omega) rfl (fun _ => by omega) (by rw [List.length_append, hlen, List.length_nil, List.length_singleton]; omega) fun v5 w5 o5 g5 => ?_
                    have hfin2 := hfin v5 w5 w9 _ o5 o9 K9 g5
                    obtain ⟨a5, c5, rfl⟩ := own_shape o5
                    refine KGO ?_
                    exact ⟨hfin2⟩
                  · refine KGO ?_
                    refine any_cut (by rfl) fun A' => ?_
                    refine KGO ?_
                    refine RunV.of (build_box _ _ _ _ _) ?_
                    refine KGO ?_
                    refine RunV.of (build_boxes1 ⟨id, up, nm, r⟩ _) ?_
                    (first | refine Then.go hmix ?_ | refine Sat.go hmix ?_ | refine ResK.go ?_ | skip); conv => whnf
                    refine app_box (w := wr) (B := w8.heap.size) ho hK.size ⟨id, up, nm, r⟩ (by omega) fun v9 w9 o9 g9 => ?_
                    have K9 : Keeps w8 w9 none_ := (hK.alloc _).own (own_keep0 (w := wr) ho ((Keeps.refl _ _).alloc _)) (Nat.le_refl _) g9
                    obtain ⟨a9, c9, rfl⟩ := own_shape o9
                    refine KGO ?_
                    refine app_rows (w := w9) A' (m := 0) (c := cap) (r := []) o9 (by have := K9.size; omega) rfl (fun _ => by omega) (by rw [List.length_append, hlen, List.length_nil, List.length_singleton]; omega) fun v5 w5 o5 g5 => ?_
                    have hfin2 := hfin v5 w5 w9 _ o5 o9 K9 g5
                    obtain ⟨a5, c5, rfl⟩ := own_shape o5
                    refine KGO ?_
                    exact ⟨hfin2⟩
                obtain ⟨_, _, hae, _⟩ := hr hl0
                injection hae with hae
                injection hae with e1 e2 e3
                subst e3
                refine KGO ?_
                refine RunV.of (build_box _ _ _ _ _) ?_
                refine KGO ?_
                refine RunV.of (build_boxes1 ⟨id, up, nm, r⟩ _) ?_
                (first | refine Then.go hmix ?_ | refine Sat.go hmix ?_ | refine ResK.go ?_ | skip); conv => whnf
                refine app_box (w := wr) (B := w8.heap.size) ho hK.size ⟨id, up, nm, r⟩ (by omega) fun v9 w9 o9 g9 => ?_
                have K9 : Keeps w8 w9 none_ := (hK.alloc _).own (own_keep0 (w := wr) ho ((Keeps.refl _ _).alloc _)) (Nat.le_refl _) g9
                obtain ⟨a9, c9, rfl⟩ := own_shape o9
                refine KGO ?_
                by_cases hic : i = cap
                · rw [if_pos hic]
                  refine app_rows (w := w9) _ (m := l.length - i) (c := cap - i) (r := l.drop i) o9 (by have := K9.size; omega) (by rw [List.length_drop]) (fun _ => by omega) (by rw [List.length_append, List.length_drop, hlen, List.length_singleton]; omega) fun v5 w5 o5 g5 => ?_
                  have hfin2 := hfin v5 w5 w9 _ o5 o9 K9 g5
                  obtain ⟨a5, c5, rfl⟩ := own_shape o5
                  refine KGO ?_
                  exact ⟨hfin2⟩
                · rw [if_neg hic]
                  refine app_rows (w := w9) _ (m := l.length - i) (c := cap - i) (r := l.drop i) o9 (by have := K9.size; omega) (by rw [List.length_drop]) (fun _ => by omega) (by rw [List.length_append, List.length_drop, hlen, List.length_singleton]; omega) fun v5 w5 o5 g5 => ?_
                  have hfin2 := hfin v5 w5 w9 _ o5 o9 K9 g5
                  obtain ⟨a5, c5, rfl⟩ := own_shape o5
                  refine KGO ?_
                  exact ⟨hfin2⟩
end
end Go.Proofs.YtdghfagipheabaaGreatDoor
