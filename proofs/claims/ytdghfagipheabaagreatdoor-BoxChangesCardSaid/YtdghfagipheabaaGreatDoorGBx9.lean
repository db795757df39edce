/- Helper text of this claim: Bx9, Bw11, Bw12, Bw13, Bx10: lemmas and contracts that the proved statement rests on; no conditions of its own. -/
import Derived.Test.YtdghfagipheabaaGreatDoorGOpn
import Derived.Test.YtdghfagipheabaaGreatDoorGBw5
import Derived.Test.YtdghfagipheabaaGreatDoorGBw8
import Derived.Test.YtdghfagipheabaaGreatDoorGBx0
import Derived.Lib.Split
import Derived.Lib.SplitLaws
import Derived.Lib.IndexLaws
import Derived.Lib.IndexBytes
namespace Go.Vc
open Go Go.Pw
set_option linter.unusedVariables false
theorem flatK_set {α : Type} (f : α → List Value) (n : Nat) (hf : ∀ x, (f x).length = n) {j : Nat} (hj : j < n) (v : Value) (x : α) : ∀ (l : List α) (k : Nat) (hk : k < l.length), f x = (f l[k]).set j v → (l.flatMap f).set (k * n + j) v = (l.set k x).flatMap f
  | [], k, hk, _ => by simp at hk
  | y :: r, 0, _, h => by
    rw [List.set_cons_zero, List.flatMap_cons, List.flatMap_cons, Nat.zero_mul, Nat.zero_add, List.set_append_left _ _ (by rw [hf]; exact hj)]
    have h : f x = (f y).set j v := h
    rw [h]
  | y :: r, k + 1, hk, h => by
    rw [List.set_cons_succ, List.flatMap_cons, List.flatMap_cons, List.set_append_right _ _ (by rw [hf, Nat.succ_mul]; omega), hf, show (k + 1) * n + j - n = k * n + j by rw [Nat.succ_mul]; omega]
    rw [flatK_set f n hf hj v x r k (by simpa using hk) h]
/-- Store of one cell of a block. -/
theorem Store.atK {P : Program} {t T : TypeId} {w : World} {b i : Nat} {cs : List Value} {v : Value} {K : World → Prop} (h : VarK w b T cs) (hi : i < cs.length) (hs : sizeOfT P t = some 1) (hv : v.cells = #[v] ∧ (∀ cs, v ≠ .agg cs) ∧ ∀ cs, v ≠ .tuple cs)
    (k : ∀ w', VarK w' b T (cs.set i v) → Keeps w w' (one_ b) → K w') : Store P t ⟨b, i, none⟩ v w K := by
  have hc : w.cell? ⟨b, i, none⟩ = some cs[i] := by
    have := h.at i _ (List.getElem?_eq_getElem hi)
    rwa [Nat.zero_add] at this
  exact Store.one hs hv hc (h.frozen _) (k _ (h.set i v) ((Keeps.refl w (one_ b)).setCell (p := ⟨b, i, none⟩) (.inl rfl) v))
/-- A row of one's own with one field of one element turned. -/
theorem own_setK {α : Type} {w w' : World} {B e s g cap : Nat} {cells : List Value} {f : α → List Value} {l : List α} (hf : ∀ x, (f x).length = s) {k j : Nat} (hk : k < l.length) (hj : j < s) {v : Value} {x : α} (hx : f x = (f l[k]).set j v)
    (hB : B ≤ g) (hn : l.length ≤ cap) (hc : cap ≤ maxLen) (hl : cells.length = cap * s) (ht : cells.take (l.length * s) = l.flatMap f) (h : VarK w' g e (cells.set (k * s + j) v)) : w'.ownsRow B e s (.slice (some ⟨g, 0, none⟩) l.length cap) l.length ((l.set k x).flatMap f) := by
  refine own_ofK hB h hn hc (by rw [List.length_set, hl]) ?_ (by rw [flatK_len f s hf, List.length_set])
  rw [List.take_set, ht]
  exact flatK_set f s hf hj v x l k hk hx
end Go.Vc
namespace Go.Cs
theorem set_eq {l : List Bx} (h : l.Pairwise fun a b => a.id < b.id) {b : Bx} (hb : b ∈ l) (g : Bx → Bx) {k : Nat} (hk : k < l.length) (he : l[k] = b) : l.set k (g b) = l.map fun c => if c.id = b.id then g c else c := by
  apply List.ext_getElem
  · simp
  · intro i h1 h2
    rw [List.getElem_set, List.getElem_map]
    have hi : i < l.length := by simpa using h1
    by_cases e : k = i
    · subst e
      rw [if_pos rfl, he, if_pos rfl]
    · rw [if_neg e, if_neg]
      intro e2
      have := id_inj h (List.getElem_mem hi) hb e2
      rw [← he] at this
      rw [List.pairwise_iff_getElem] at h
      rcases Nat.lt_or_gt_of_ne e with q | q
      · have := h k i hk hi q; rw [he] at this; omega
      · have := h i k hi hk q; rw [he] at this; omega
theorem del_eq {l : List Bx} (h : l.Pairwise fun a b => a.id < b.id) {b : Bx} {k : Nat} (hk : k < l.length) (he : l[k] = b) : l.take k ++ l.drop (k + 1) = delL l b.id := by
  have hl : l = l.take k ++ b :: l.drop (k + 1) := by
    conv => lhs; rw [← List.take_append_drop k l, List.drop_eq_getElem_cons hk, he]
  have hp := h
  rw [hl, List.pairwise_append] at hp
  obtain ⟨p1, p2, p3⟩ := hp
  obtain ⟨q1, q2⟩ := List.pairwise_cons.1 p2
  unfold delL
  conv => rhs; rw [hl]
  rw [List.filter_append, List.filter_cons_of_neg (by simp), List.filter_eq_self.2 (fun c hc => by have := p3 c hc b (by simp); simp; omega), List.filter_eq_self.2 (fun c hc => by have := q1 c hc; simp; omega)]
end Go.Cs

-- alias Tryz
namespace Go.Proofs.YtdghfagipheabaaGreatDoor
open Go.RowKit Go.Pw Go.Vc Go.Cs Go.Lib
set_option linter.unusedVariables false
set_option maxRecDepth 100000
section
variable {w w' : World}
set_option maxHeartbeats 4000000 in
theorem bx_Name {v : Value} (l : List Bx) (id : Int) (nm : List UInt8) (hv : RowB w v l) (hl : l.length ≤ 1000) (hs : SmallB l) (hn : nm.length ≤ 1000000) (hE : BEnv w) :
    Calls Tryz.prog 12 #[v, .int .i64 id, .string (str nm)] w fun e w' => ∃ v', e = .returned (.tuple #[v', .int .i64 ((nameL l id nm).2 : Nat)]) ∧ OwnB w' w.heap.size v' (nameL l id nm).1 ∧ Keeps w w' none_ := by
  have hv0 := hv
  obtain ⟨a, cap, rfl, hr⟩ := hv
  refine calls_of_vc (args := [.slice a l.length cap, .int .i64 id, .string (str nm)]) Tryz.func12 rfl (Nat.le_of_ble_eq_true rfl) ?_; refine Sat.go hmix ?_; conv => whnf
  refine CallS.of (Tryz.call16 _ _) (bx_Right (w := w) l hv0 hl hs hE.F hE.T hE.R) ?_
  rintro e w1 ⟨rfl, k1⟩
  refine ⟨_, rfl, ?_⟩; (first | refine Then.go hmix ?_ | refine Sat.go hmix ?_ | refine ResK.go ?_ | skip); conv => whnf
  by_cases h1 : rightL l = true
  rotate_left
  · rw [show rightL l = false by simpa using h1]
    refine KGO ?_
    exact ⟨fin_err (R := nameL l id nm) 1 (by unfold nameL; rw [if_pos h1]) k1⟩
  rw [h1]
  have hR := (rightL_iff l).1 h1
  have g1 : ¬ ¬ rightL l = true := fun h => h h1
  refine KGO ?_
  refine CallS.of (Tryz.call22 _ _) (bx_search (w := w1) l id (hv0.keep k1) (by omega)) ?_
  rintro e w2 ⟨k, q, rfl, hkl, hasc, k2⟩
  obtain ⟨rfl, rfl⟩ := hasc hR.asc
  have K2 := k1.trans0 k2
  refine ⟨_, rfl, ?_⟩; (first | refine Then.go hmix ?_ | refine Sat.go hmix ?_ | refine ResK.go ?_ | skip); conv => whnf
  cases hb : boxOf l id with
  | none =>
    have hno : hasId l id = false := by
      rw [Bool.eq_false_iff]
      exact fun h => by
        obtain ⟨c, hc, he⟩ := (hasId_iff _ _).1 h
        exact boxOf_none.1 hb c hc he
    rw [hno]
    refine KGO ?_
    exact ⟨fin_err (R := nameL l id nm) 5 (by unfold nameL; rw [if_neg g1, hb]) K2⟩
  | some b =>
    obtain ⟨hm, rfl⟩ := boxOf_mem hb
    rw [(hasId_iff l b.id).2 ⟨b, hm, rfl⟩]
    obtain ⟨hk1, hk2⟩ := idx_at hR.asc hm
    generalize idxL l b.id = k at *
    refine KGO ?_
    refine CallS.of (Tryz.call17 _ _) (bx_Named (w := w2) (str nm) (hE.T.keep K2) (by rw [str_size]; omega)) ?_
    rintro e w3 ⟨rfl, k3⟩
    rw [L_str]
    have K3 := K2.trans0 k3
    refine ⟨_, rfl, ?_⟩; (first | refine Then.go hmix ?_ | refine Sat.go hmix ?_ | refine ResK.go ?_ | skip); conv => whnf
    by_cases h2 : namedB nm = true
    rotate_left
    · rw [show namedB nm = false by simpa using h2]
      refine KGO ?_
      exact ⟨fin_err (R := nameL l b.id nm) 1 (by unfold nameL; rw [if_neg g1, hb]; dsimp only; rw [if_pos h2]) K3⟩
    rw [h2]
    obtain ⟨gb, o, rfl, hgb, hat⟩ := hr (by omega)
    refine KGO ?_
    rw [hk2]
    refine CallS.of (Tryz.call28 _ _) (bx_taken (w := w3) l b.up nm b.id (hv0.keep K3) (by omega) (hE.F.keep K3) hn (fun b hb => (hs b hb).1)) ?_
    rintro e w4 ⟨rfl, k4⟩
    have K4 := K3.trans0 k4
    refine ⟨_, rfl, ?_⟩; (first | refine Then.go hmix ?_ | refine Sat.go hmix ?_ | refine ResK.go ?_ | skip); conv => whnf
    by_cases h3 : takenL l b.up nm b.id = true
    · rw [h3]
      refine KGO ?_
      exact ⟨fin_err (R := nameL l b.id nm) 4 (by unfold nameL; rw [if_neg g1, hb]; dsimp only; rw [if_neg (fun h => h h2), if_pos h3]) K4⟩
    rw [show takenL l b.up nm b.id = false by simpa using h3]
    have hres : nameL l b.id nm = (setName l b.id nm, 0) := by unfold nameL; rw [if_neg g1, hb]; dsimp only; rw [if_neg (fun h => h h2), if_neg h3]
    refine KGO ?_
    refine CallS.of (Tryz.call30 _ _) (cl_Box (w := w4) l (hv0.keep K4) (by omega)) ?_
    rintro e w5 ⟨v1, rfl, o1, k5⟩
    have K5 := K4.trans0 k5
    rcases own_blockK o1 with ⟨_, h0⟩ | ⟨g, cap2, cells, rfl, hBg, hvk, hnc, hcm, hcl, htk⟩
    · omega
    refine ⟨_, rfl, ?_⟩; (first | refine Then.go hmix ?_ | refine Sat.go hmix ?_ | refine ResK.go ?_ | skip); conv => whnf
    refine KGO ?_
    refine Store.atK hvk (by rw [hcl]; omega) (by rfl) ⟨rfl, by simp, by simp⟩ fun w6 v6 k6 => ?_
    refine KGO ?_
    have K6 : Keeps w w6 none_ := K5.trans k6 fun q hq e => by
      have e : q = g := e
      have := K4.size
      omega
    rw [Nat.zero_add] at v6
    have o6 := own_setK (w := w5) boxLen (l := l) (k := k) (j := 2) (x := { b with name := nm }) hk1 (by omega) (by rw [hk2]; rfl) hBg hnc hcm hcl htk v6
    rw [set_eq hR.asc hm (fun c => { c with name := nm }) hk1 hk2] at o6
    have hsl : (setName l b.id nm).length = l.length := by unfold setName; rw [List.length_map]
    have o7 : OwnB w6 w4.heap.size (.slice (some ⟨g, 0, none⟩) l.length cap2) (setName l b.id nm) := by
      rw [OwnB, hsl]; exact o6
    exact ⟨fin_ok (R := nameL l b.id nm) hres (own_base o7 K4.size) K6⟩
set_option maxHeartbeats 4000000 in
theorem bx_Drop {v : Value} (l : List Bx) (id : Int) (hv : RowB w v l) (hl : l.length ≤ 1000) (hs : SmallB l) (hE : BEnv w) :
    Calls Tryz.prog 11 #[v, .int .i64 id] w fun e w' => ∃ v', e = .returned (.tuple #[v', .int .i64 ((dropL l id).2 : Nat)]) ∧ OwnB w' w.heap.size v' (dropL l id).1 ∧ Keeps w w' none_ := by
  have hv0 := hv
  obtain ⟨a, cap, rfl, hr⟩ := hv
  refine calls_of_vc (args := [.slice a l.length cap, .int .i64 id]) Tryz.func11 rfl (Nat.le_of_ble_eq_true rfl) ?_; refine Sat.go hmix ?_; conv => whnf
  rw [show w.alloc (.cells #[.int .i64 id] 3) = w.alloc (.cells (List.toArray [.int .i64 id]) 3) from rfl]
  have a_b0 := at_fresh w 3 [.int .i64 id]
  have k_w0 : Keeps w (w.alloc (.cells (List.toArray [.int .i64 id]) 3)) none_ := (Keeps.refl _ _).alloc _
  have z_w0 : (w.alloc (.cells (List.toArray [.int .i64 id]) 3)).heap.size = w.heap.size + 1 := by simp
  generalize w.alloc (.cells (List.toArray [.int .i64 id]) 3) = w0 at *
  generalize hs_b0 : w.heap.size = b0 at *
  refine CallS.of (Tryz.call16 _ _) (bx_Right (w := w0) l (hv0.keep k_w0) hl hs (hE.F.keep k_w0) (hE.T.keep k_w0) (hE.R.keep k_w0)) ?_
  rintro e w1 ⟨rfl, j1⟩
  have k1 := k_w0.trans0 j1
  refine ⟨_, rfl, ?_⟩; (first | refine Then.go hmix ?_ | refine Sat.go hmix ?_ | refine ResK.go ?_ | skip); conv => whnf
  by_cases h1 : rightL l = true
  rotate_left
  · rw [show rightL l = false by simpa using h1]
    refine KGO ?_
    exact ⟨fin_err (R := dropL l id) 1 (by unfold dropL; rw [if_pos h1]) k1⟩
  rw [h1]
  have hR := (rightL_iff l).1 h1
  have g1 : ¬ ¬ rightL l = true := fun h => h h1
  have c1 := at_mono a_b0 j1
  refine KGO ?_
  refine CallS.of (Tryz.call22 _ _) (bx_search (w := w1) l id (hv0.keep k1) (by omega)) ?_
  rintro e w2 ⟨k, q, rfl, hkl, hasc, j2⟩
  obtain ⟨rfl, rfl⟩ := hasc hR.asc
  have K2 := k1.trans0 j2
  have J2 := j1.trans0 j2
  refine ⟨_, rfl, ?_⟩; (first | refine Then.go hmix ?_ | refine Sat.go hmix ?_ | refine ResK.go ?_ | skip); conv => whnf
  by_cases h2 : hasId l id = true
  rotate_left
  · rw [show hasId l id = false by simpa using h2]
    refine KGO ?_
    exact ⟨fin_err (R := dropL l id) 5 (by unfold dropL; rw [if_neg g1, if_pos h2]) K2⟩
  rw [h2]
  have g2 : ¬ ¬ hasId l id = true := fun h => h h2
  obtain ⟨b, hm, rfl⟩ := (hasId_iff _ _).1 h2
  obtain ⟨hk1, hk2⟩ := idx_at hR.asc hm
  generalize idxL l b.id = k at *
  refine KGO ?_
  have hc0 : w2.cell? ⟨b0, 0, none⟩ = some (.int .i64 b.id) := cell_mono (a_b0 0 _ rfl) J2
  conv => arg 3; simp [ev, upd]
  refine CallS.of (Tryz.call24 _ _) (cf1 (w := w2) l 32 (.pointer (some ⟨b0, 0, none⟩)) (fun c => decide (c.up = b.id)) (hv0.keep K2) (by omega) Tryz.call32 (fun c _ w'' k' => bx_upIs c b.id (cell_mono hc0 k'))) ?_
  rintro e w3 ⟨rfl, j3⟩
  have K3 := K2.trans0 j3
  refine ⟨_, rfl, ?_⟩; (first | refine Then.go hmix ?_ | refine Sat.go hmix ?_ | refine ResK.go ?_ | skip); conv => whnf
  by_cases h3 : (l.any fun c => decide (c.up = b.id)) = true
  · rw [h3]
    refine KGO ?_
    exact ⟨fin_err (R := dropL l b.id) 20 (by unfold dropL; rw [if_neg g1, if_neg g2, if_pos h3]) K3⟩
  rw [show (l.any fun c => decide (c.up = b.id)) = false by simpa using h3]
  have hres : dropL l b.id = (delL l b.id, 0) := by unfold dropL; rw [if_neg g1, if_neg g2, if_neg h3]
  refine KGO ?_
  refine CallS.of (Tryz.call30 _ _) (cl_Box (w := w3) l (hv0.keep K3) (by omega)) ?_
  rintro e w4 ⟨v1, rfl, o1, j4⟩
  have K4 := K3.trans0 j4
  obtain ⟨a1, cp1, rfl⟩ := own_shape o1
  refine ⟨_, rfl, ?_⟩; (first | refine Then.go hmix ?_ | refine Sat.go hmix ?_ | refine ResK.go ?_ | skip); conv => whnf
  refine KGO ?_
  refine CallS.of (Tryz.call33 _ _) (del_Box (w := w4) (B := w3.heap.size) l k o1 j4.size hk1 hl) ?_
  rintro e w5 ⟨v2, rfl, o2, j5⟩
  rw [del_eq hR.asc hk1 hk2] at o2
  obtain ⟨a2, cp2, rfl⟩ := own_shape o2
  refine ⟨_, rfl, ?_⟩; (first | refine Then.go hmix ?_ | refine Sat.go hmix ?_ | refine ResK.go ?_ | skip); conv => whnf
  refine KGO ?_
  have K5 : Keeps w w5 none_ := K4.trans j5 fun q hq e => by
    have := K3.size
    omega
  exact ⟨fin_ok (R := dropL l b.id) hres (own_base o2 (by have := K3.size; have := j1.size; have := J2.size; have := j3.size; omega)) K5⟩
end
end Go.Proofs.YtdghfagipheabaaGreatDoor

-- alias Tryz
namespace Go.Proofs.YtdghfagipheabaaGreatDoor
open Go.RowKit Go.Pw Go.Vc Go.Cs Go.Lib
set_option linter.unusedVariables false
set_option maxRecDepth 100000
def belowF (l : List Bx) (id : Int) (m : Nat) (r : List Bx) : Nat := r.foldl (fun m b => if within l b.id id then max m (dpt l b.id - dpt l id + 1) else m) m
theorem maxI (m : Nat) (a b : Nat) (h : b ≤ a) : max (m : Int) ((a : Nat) - (b : Nat) + 1) = ((max m (a - b + 1) : Nat) : Int) := by omega
section
variable {w w' : World}
set_option maxHeartbeats 8000000 in
theorem bx_Move {v : Value} (l : List Bx) (id up : Int) (hv : RowB w v l) (hl : l.length ≤ 1000) (hs : SmallB l) (hE : BEnv w) :
    Calls Tryz.prog 10 #[v, .int .i64 id, .int .i64 up] w fun e w' => ∃ v', e = .returned (.tuple #[v', .int .i64 ((moveL l id up).2 : Nat)]) ∧ OwnB w' w.heap.size v' (moveL l id up).1 ∧ Keeps w w' none_ := by
  have hv0 := hv
  obtain ⟨a, cap, rfl, hr⟩ := hv
  refine calls_of_vc (args := [.slice a l.length cap, .int .i64 id, .int .i64 up]) Tryz.func10 rfl (Nat.le_of_ble_eq_true rfl) ?_; refine Sat.go hmix ?_; conv => whnf
  refine CallS.of (Tryz.call16 _ _) (bx_Right (w := w) l hv0 hl hs hE.F hE.T hE.R) ?_
  rintro e w1 ⟨rfl, k1⟩
  refine ⟨_, rfl, ?_⟩; (first | refine Then.go hmix ?_ | refine Sat.go hmix ?_ | refine ResK.go ?_ | skip); conv => whnf
  by_cases h1 : rightL l = true
  rotate_left
  · rw [show rightL l = false by simpa using h1]
    refine KGO ?_
    exact ⟨fin_err (R := moveL l id up) 1 (by unfold moveL; rw [if_pos h1]) k1⟩
  rw [h1]
  have hR := (rightL_iff l).1 h1
  have g1 : ¬ ¬ rightL l = true := fun h => h h1
  refine KGO ?_
  refine CallS.of (Tryz.call22 _ _) (bx_search (w := w1) l id (hv0.keep k1) (by omega)) ?_
  rintro e w2 ⟨k, q, rfl, hkl, hasc, k2⟩
  obtain ⟨rfl, rfl⟩ := hasc hR.asc
  have K2 := k1.trans0 k2
  refine ⟨_, rfl, ?_⟩; (first | refine Then.go hmix ?_ | refine Sat.go hmix ?_ | refine ResK.go ?_ | skip); conv => whnf
  cases hb : boxOf l id with
  | none =>
    have hno : hasId l id = false := by
      rw [Bool.eq_false_iff]
      exact fun h => by
        obtain ⟨c, hc, he⟩ := (hasId_iff _ _).1 h
        exact boxOf_none.1 hb c hc he
    rw [hno]
    refine KGO ?_
    exact ⟨fin_err (R := moveL l id up) 5 (by unfold moveL; rw [if_neg g1, hb]) K2⟩
  | some b =>
    obtain ⟨hm, rfl⟩ := boxOf_mem hb
    rw [(hasId_iff l b.id).2 ⟨b, hm, rfl⟩]
    obtain ⟨hk1, hk2⟩ := idx_at hR.asc hm
    have hid0 : b.id ≠ 0 := by have := (hR.pos b hm).1; omega
    generalize idxL l b.id = k at *
    refine KGO ?_
    refine CallS.of (Tryz.call26 _ _) (bx_has (w := w2) l up (hv0.keep K2) (by omega) hR.asc) ?_
    rintro e w3 ⟨rfl, k3⟩
    have K3 := K2.trans0 k3
    refine ⟨_, rfl, ?_⟩; (first | refine Then.go hmix ?_ | refine Sat.go hmix ?_ | refine ResK.go ?_ | skip); conv => whnf
    by_cases h2 : up = 0 ∨ hasId l up = true
    rotate_left
    · rw [decide_eq_false h2]
      refine KGO ?_
      exact ⟨fin_err (R := moveL l b.id up) 5 (by unfold moveL; rw [if_neg g1, hb]; dsimp only; rw [if_pos h2]) K3⟩
    rw [decide_eq_true h2]
    have h2' : up = 0 ∨ ∃ c ∈ l, c.id = up := by rwa [hasId_iff] at h2
    obtain ⟨hd, hd8⟩ := dep_up hR h2'
    obtain ⟨hdi, hdi8⟩ := dep_up hR (.inr ⟨b, hm, rfl⟩)
    have gm2 : ¬ ¬ (up = 0 ∨ hasId l up = true) := fun h => h h2
    by_cases h3 : up = 0
    · have gm3 : ¬ (up ≠ 0 ∧ within l up b.id = true) := fun h => h.1 h3
      refine KGO ?_
      refine Loop.intro (ι := Nat × Nat) (fun p => [(0, .slice a l.length cap), (1, .int .i64 b.id), (2, .int .i64 up), (8, .int .i64 (k : Nat)), (10, .int .i64 (p.2 : Nat)), (39, .slice a l.length cap), (40, .int .i64 (l.length : Nat)), (41, .int .i64 (p.1 : Nat))])
        (fun p wr => Keeps w wr none_ ∧ p.1 ≤ l.length ∧ p.2 ≤ 1001 ∧ belowL l b.id = belowF l b.id p.2 (l.drop p.1)) (fun p => l.length - p.1) (0, 0) ⟨rfl, rfl, rfl, rfl, rfl, rfl, rfl, rfl, trivial⟩ ⟨K3, Nat.zero_le _, by decide, rfl⟩ ?_
      rintro ⟨i, m⟩ gg wr ⟨hK, hi, hm1, he⟩
      dsimp only at hi hm1 he ⊢
      (first | refine Then.go hmix ?_ | refine Sat.go hmix ?_ | refine ResK.go ?_ | skip); conv => whnf
      by_cases hlt : i < l.length
      · obtain ⟨gb, o, rfl, hgb, hat⟩ := hr (by omega)
        have hdr := List.drop_eq_getElem_cons hlt
        have hci := List.getElem_mem hlt
        obtain ⟨hdc, hdc8⟩ := dep_up hR (.inr ⟨l[i], hci, rfl⟩)
        refine KGO ?_
        generalize l[i] = c at *
        refine Store.fresh (vs := [.int .i64 c.id, .int .i64 c.up, .string (str c.name), .string (str c.role)]) (by rfl) rfl (flat_of (by rfl)) ?_
        have a_b5 := at_fresh wr 39 ([.int .i64 c.id, .int .i64 c.up, .string (str c.name), .string (str c.role)])
        have k_w5 : Keeps wr (wr.alloc (.cells (List.toArray ([.int .i64 c.id, .int .i64 c.up, .string (str c.name), .string (str c.role)])) 39)) none_ := (Keeps.refl _ _).alloc _
        have z_w5 : (wr.alloc (.cells (List.toArray ([.int .i64 c.id, .int .i64 c.up, .string (str c.name), .string (str c.role)])) 39)).heap.size = wr.heap.size + 1 := by simp
        generalize wr.alloc (.cells (List.toArray ([.int .i64 c.id, .int .i64 c.up, .string (str c.name), .string (str c.role)])) 39) = w5 at *
        generalize hs_b5 : wr.heap.size = b5 at *
        have K5 := hK.trans0 k_w5
        refine KGO ?_
        refine CallS.of (Tryz.call31 _ _) (bx_within (w := w5) l c.id b.id (hv0.keep K5) hR hdc) ?_
        rintro e w6 ⟨rfl, k6⟩
        have K6 := K5.trans0 k6
        have a6 := at_mono a_b5 k6
        refine ⟨_, rfl, ?_⟩; (first | refine Then.go hmix ?_ | refine Sat.go hmix ?_ | refine ResK.go ?_ | skip); conv => whnf
        rw [hdr] at he
        by_cases h5 : within l c.id b.id = true
        rotate_left
        · rw [show within l c.id b.id = false by simpa using h5]
          refine KGO ?_
          exact ⟨(i + 1, m), ⟨rfl, rfl, rfl, rfl, rfl, rfl, rfl, v_int (by simp), trivial⟩, ⟨K6, by dsimp only; omega, hm1, by dsimp only; rw [he, belowF, belowF, List.foldl_cons, if_neg h5]⟩, by dsimp only; omega⟩
        · rw [h5]
          refine KGO ?_
          refine CallS.of (Tryz.call27 _ _) (bx_depth (w := w6) l c.id (hv0.keep K6) hR hdc) ?_
          rintro e w7 ⟨rfl, k7⟩
          have K7 := K6.trans0 k7
          refine ⟨_, rfl, ?_⟩; (first | refine Then.go hmix ?_ | refine Sat.go hmix ?_ | refine ResK.go ?_ | skip); conv => whnf
          refine KGO ?_
          refine CallS.of (Tryz.call27 _ _) (bx_depth (w := w7) l b.id (hv0.keep K7) hR hdi) ?_
          rintro e w8 ⟨rfl, k8⟩
          have K8 := K7.trans0 k8
          refine ⟨_, rfl, ?_⟩; (first | refine Then.go hmix ?_ | refine Sat.go hmix ?_ | refine ResK.go ?_ | skip); conv => whnf
          obtain ⟨e2, he1, he2⟩ := ((within_of hR hid0 hdc).1 h5).dep (by rw [boxOf_up, zero_no hR]; rfl) hdc
          have hle : dpt l b.id ≤ dpt l c.id := by rw [dpt_of he2]; exact he1
          refine KGO ?_
          rw [maxI m _ _ hle]
          exact ⟨(i + 1, max m (dpt l c.id - dpt l b.id + 1)), ⟨rfl, rfl, rfl, rfl, rfl, rfl, rfl, v_int (by simp), trivial⟩, ⟨K8, by dsimp only; omega, by dsimp only; omega, by dsimp only; rw [he, belowF, belowF, List.foldl_cons, if_pos h5]⟩, by dsimp only; omega⟩
      · rw [List.drop_eq_nil_of_le (by omega)] at he
        have he : belowL l b.id = m := he
        subst he
        refine KGO ?_
        refine CallS.of (Tryz.call27 _ _) (bx_depth (w := wr) l up (hv0.keep hK) hR hd) ?_
        rintro e w7 ⟨rfl, k7⟩
        have K7 := hK.trans0 k7
        refine ⟨_, rfl, ?_⟩; (first | refine Then.go hmix ?_ | refine Sat.go hmix ?_ | refine ResK.go ?_ | skip); conv => whnf
        by_cases h6 : 8 < dpt l up + belowL l b.id
        · refine KGO ?_
          exact ⟨fin_err (R := moveL l b.id up) 10 (by unfold moveL; rw [if_neg g1, hb]; dsimp only; rw [if_neg gm2, if_neg gm3, if_pos h6]) K7⟩
        obtain ⟨gb, o, rfl, hgb, hat⟩ := hr (by omega)
        refine KGO ?_
        rw [hk2]
        refine CallS.of (Tryz.call28 _ _) (bx_taken (w := w7) l up b.name b.id (hv0.keep K7) (by omega) (hE.F.keep K7) (hs b hm).1 (fun b hb => (hs b hb).1)) ?_
        rintro e w8 ⟨rfl, k8⟩
        have K8 := K7.trans0 k8
        refine ⟨_, rfl, ?_⟩; (first | refine Then.go hmix ?_ | refine Sat.go hmix ?_ | refine ResK.go ?_ | skip); conv => whnf
        by_cases h7 : takenL l up b.name b.id = true
        · rw [h7]
          refine KGO ?_
          exact ⟨fin_err (R := moveL l b.id up) 4 (by unfold moveL; rw [if_neg g1, hb]; dsimp only; rw [if_neg gm2, if_neg gm3, if_neg h6, if_pos h7]) K8⟩
        rw [show takenL l up b.name b.id = false by simpa using h7]
        have hres : moveL l b.id up = (setUp l b.id up, 0) := by unfold moveL; rw [if_neg g1, hb]; dsimp only; rw [if_neg gm2, if_neg gm3, if_neg h6, if_neg h7]
        refine KGO ?_
        refine CallS.of (Tryz.call30 _ _) (cl_Box (w := w8) l (hv0.keep K8) (by omega)) ?_
        rintro e w9 ⟨v1, rfl, o1, k9⟩
        have K9 := K8.trans0 k9
        rcases own_blockK o1 with ⟨_, h0⟩ | ⟨g, cap2, cells, rfl, hBg, hvk, hnc, hcm, hcl, htk⟩
        · omega
        refine ⟨_, rfl, ?_⟩; (first | refine Then.go hmix ?_ | refine Sat.go hmix ?_ | refine ResK.go ?_ | skip); conv => whnf
        refine KGO ?_
        refine Store.atK hvk (by rw [hcl]; omega) (by rfl) ⟨rfl, by simp, by simp⟩ fun w10 v10 k10 => ?_
        refine KGO ?_
        have K10 : Keeps w w10 none_ := K9.trans k10 fun q hq e => by
          have e : q = g := e
          have := K8.size
          omega
        rw [Nat.zero_add] at v10
        have o6 := own_setK (w := w9) boxLen (l := l) (k := k) (j := 1) (x := { b with up := up }) hk1 (by omega) (by rw [hk2]; rfl) hBg hnc hcm hcl htk v10
        rw [set_eq hR.asc hm (fun c => { c with up := up }) hk1 hk2] at o6
        have hsl : (setUp l b.id up).length = l.length := by unfold setUp; rw [List.length_map]
        have o7 : OwnB w10 w8.heap.size (.slice (some ⟨g, 0, none⟩) l.length cap2) (setUp l b.id up) := by
          rw [OwnB, hsl]; exact o6
        exact ⟨fin_ok (R := moveL l b.id up) hres (own_base o7 K8.size) K10⟩
    · refine KGO ?_
      refine CallS.of (Tryz.call31 _ _) (bx_within (w := w3) l up b.id (hv0.keep K3) hR hd) ?_
      rintro e w4 ⟨rfl, k4⟩
      have K4 := K3.trans0 k4
      refine ⟨_, rfl, ?_⟩; (first | refine Then.go hmix ?_ | refine Sat.go hmix ?_ | refine ResK.go ?_ | skip); conv => whnf
      by_cases h4 : within l up b.id = true
      · rw [h4]
        refine KGO ?_
        exact ⟨fin_err (R := moveL l b.id up) 11 (by unfold moveL; rw [if_neg g1, hb]; dsimp only; rw [if_neg gm2, if_pos ⟨h3, h4⟩]) K4⟩
      rw [show within l up b.id = false by simpa using h4]
      have gm3 : ¬ (up ≠ 0 ∧ within l up b.id = true) := fun h => h4 h.2
      refine KGO ?_
      refine Loop.intro (ι := Nat × Nat) (fun p => [(0, .slice a l.length cap), (1, .int .i64 b.id), (2, .int .i64 up), (8, .int .i64 (k : Nat)), (10, .int .i64 (p.2 : Nat)), (39, .slice a l.length cap), (40, .int .i64 (l.length : Nat)), (41, .int .i64 (p.1 : Nat))])
        (fun p wr => Keeps w wr none_ ∧ p.1 ≤ l.length ∧ p.2 ≤ 1001 ∧ belowL l b.id = belowF l b.id p.2 (l.drop p.1)) (fun p => l.length - p.1) (0, 0) ⟨rfl, rfl, rfl, rfl, rfl, rfl, rfl, rfl, trivial⟩ ⟨K4, Nat.zero_le _, by decide, rfl⟩ ?_
      rintro ⟨i, m⟩ gg wr ⟨hK, hi, hm1, he⟩
      dsimp only at hi hm1 he ⊢
      (first | refine Then.go hmix ?_ | refine Sat.go hmix ?_ | refine ResK.go ?_ | skip); conv => whnf
      by_cases hlt : i < l.length
      · obtain ⟨gb, o, rfl, hgb, hat⟩ := hr (by omega)
        have hdr := List.drop_eq_getElem_cons hlt
        have hci := List.getElem_mem hlt
        obtain ⟨hdc, hdc8⟩ := dep_up hR (.inr ⟨l[i], hci, rfl⟩)
        refine KGO ?_
        generalize l[i] = c at *
        refine Store.fresh (vs := [.int .i64 c.id, .int .i64 c.up, .string (str c.name), .string (str c.role)]) (by rfl) rfl (flat_of (by rfl)) ?_
        have a_b5 := at_fresh wr 39 ([.int .i64 c.id, .int .i64 c.up, .string (str c.name), .string (str c.role)])
        have k_w5 : Keeps wr (wr.alloc (.cells (List.toArray ([.int .i64 c.id, .int .i64 c.up, .string (str c.name), .string (str c.role)])) 39)) none_ := (Keeps.refl _ _).alloc _
        have z_w5 : (wr.alloc (.cells (List.toArray ([.int .i64 c.id, .int .i64 c.up, .string (str c.name), .string (str c.role)])) 39)).heap.size = wr.heap.size + 1 := by simp
        generalize wr.alloc (.cells (List.toArray ([.int .i64 c.id, .int .i64 c.up, .string (str c.name), .string (str c.role)])) 39) = w5 at *
        generalize hs_b5 : wr.heap.size = b5 at *
        have K5 := hK.trans0 k_w5
        refine KGO ?_
        refine CallS.of (Tryz.call31 _ _) (bx_within (w := w5) l c.id b.id (hv0.keep K5) hR hdc) ?_
        rintro e w6 ⟨rfl, k6⟩
        have K6 := K5.trans0 k6
        have a6 := at_mono a_b5 k6
        refine ⟨_, rfl, ?_⟩; (first | refine Then.go hmix ?_ | refine Sat.go hmix ?_ | refine ResK.go ?_ | skip); conv => whnf
        rw [hdr] at he
        by_cases h5 : within l c.id b.id = true
        rotate_left
        · rw [show within l c.id b.id = false by simpa using h5]
          refine KGO ?_
          exact ⟨(i + 1, m), ⟨rfl, rfl, rfl, rfl, rfl, rfl, rfl, v_int (by simp), trivial⟩, ⟨K6, by dsimp only; omega, hm1, by dsimp only; rw [he, belowF, belowF, List.foldl_cons, if_neg h5]⟩, by dsimp only; omega⟩
        · rw [h5]
          refine KGO ?_
          refine CallS.of (Tryz.call27 _ _) (bx_depth (w := w6) l c.id (hv0.keep K6) hR hdc) ?_
          rintro e w7 ⟨rfl, k7⟩
          have K7 := K6.trans0 k7
          refine ⟨_, rfl, ?_⟩; (first | refine Then.go hmix ?_ | refine Sat.go hmix ?_ | refine ResK.go ?_ | skip); conv => whnf
          refine KGO ?_
          refine CallS.of (Tryz.call27 _ _) (bx_depth (w := w7) l b.id (hv0.keep K7) hR hdi) ?_
          rintro e w8 ⟨rfl, k8⟩
          have K8 := K7.trans0 k8
          refine ⟨_, rfl, ?_⟩; (first | refine Then.go hmix ?_ | refine Sat.go hmix ?_ | refine ResK.go ?_ | skip); conv => whnf
          obtain ⟨e2, he1, he2⟩ := ((within_of hR hid0 hdc).1 h5).dep (by rw [boxOf_up, zero_no hR]; rfl) hdc
          have hle : dpt l b.id ≤ dpt l c.id := by rw [dpt_of he2]; exact he1
          refine KGO ?_
          rw [maxI m _ _ hle]
          exact ⟨(i + 1, max m (dpt l c.id - dpt l b.id + 1)), ⟨rfl, rfl, rfl, rfl, rfl, rfl, rfl, v_int (by simp), trivial⟩, ⟨K8, by dsimp only; omega, by dsimp only; omega, by dsimp only; rw [he, belowF, belowF, List.foldl_cons, if_pos h5]⟩, by dsimp only; omega⟩
      · rw [List.drop_eq_nil_of_le (by omega)] at he
        have he : belowL l b.id = m := he
        subst he
        refine KGO ?_
        refine CallS.of (Tryz.call27 _ _) (bx_depth (w := wr) l up (hv0.keep hK) hR hd) ?_
        rintro e w7 ⟨rfl, k7⟩
        have K7 := hK.trans0 k7
        refine ⟨_, rfl, ?_⟩; (first | refine Then.go hmix ?_ | refine Sat.go hmix ?_ | refine ResK.go ?_ | skip); conv => whnf
        by_cases h6 : 8 < dpt l up + belowL l b.id
        · refine KGO ?_
          exact ⟨fin_err (R := moveL l b.id up) 10 (by unfold moveL; rw [if_neg g1, hb]; dsimp only; rw [if_neg gm2, if_neg gm3, if_pos h6]) K7⟩
        obtain ⟨gb, o, rfl, hgb, hat⟩ := hr (by omega)
        refine KGO ?_
        rw [hk2]
        refine CallS.of (Tryz.call28 _ _) (bx_taken (w := w7) l up b.name b.id (hv0.keep K7) (by omega) (hE.F.keep K7) (hs b hm).1 (fun b hb => (hs b hb).1)) ?_
        rintro e w8 ⟨rfl, k8⟩
        have K8 := K7.trans0 k8
        refine ⟨_, rfl, ?_⟩; (first | refine Then.go hmix ?_ | refine Sat.go hmix ?_ | refine ResK.go ?_ | skip); conv => whnf
        by_cases h7 : takenL l up b.name b.id = true
        · rw [h7]
          refine KGO ?_
          exact ⟨fin_err (R := moveL l b.id up) 4 (by unfold moveL; rw [if_neg g1, hb]; dsimp only; rw [if_neg gm2, if_neg gm3, if_neg h6, if_pos h7]) K8⟩
        rw [show takenL l up b.name b.id = false by simpa using h7]
        have hres : moveL l b.id up = (setUp l b.id up, 0) := by unfold moveL; rw [if_neg g1, hb]; dsimp only; rw [if_neg gm2, if_neg gm3, if_neg h6, if_neg h7]
        refine KGO ?_
        refine CallS.of (Tryz.call30 _ _) (cl_Box (w := w8) l (hv0.keep K8) (by omega)) ?_
        rintro e w9 ⟨v1, rfl, o1, k9⟩
        have K9 := K8.trans0 k9
        rcases own_blockK o1 with ⟨_, h0⟩ | ⟨g, cap2, cells, rfl, hBg, hvk, hnc, hcm, hcl, htk⟩
        · omega
        refine ⟨_, rfl, ?_⟩; (first | refine Then.go hmix ?_ | refine Sat.go hmix ?_ | refine ResK.go ?_ | skip); conv => whnf
        refine KGO ?_
        refine Store.atK hvk (by rw [hcl]; omega) (by rfl) ⟨rfl, by simp, by simp⟩ fun w10 v10 k10 => ?_
        refine KGO ?_
        have K10 : Keeps w w10 none_ := K9.trans k10 fun q hq e => by
          have e : q = g := e
          have := K8.size
          omega
        rw [Nat.zero_add] at v10
        have o6 := own_setK (w := w9) boxLen (l := l) (k := k) (j := 1) (x := { b with up := up }) hk1 (by omega) (by rw [hk2]; rfl) hBg hnc hcm hcl htk v10
        rw [set_eq hR.asc hm (fun c => { c with up := up }) hk1 hk2] at o6
        have hsl : (setUp l b.id up).length = l.length := by unfold setUp; rw [List.length_map]
        have o7 : OwnB w10 w8.heap.size (.slice (some ⟨g, 0, none⟩) l.length cap2) (setUp l b.id up) := by
          rw [OwnB, hsl]; exact o6
        exact ⟨fin_ok (R := moveL l b.id up) hres (own_base o7 K8.size) K10⟩
end
end Go.Proofs.YtdghfagipheabaaGreatDoor

-- alias Tryz
namespace Go.Proofs.YtdghfagipheabaaGreatDoor
open Go.RowKit Go.Pw Go.Vc Go.Cs Go.Lib
set_option linter.unusedVariables false
set_option maxRecDepth 100000
section
variable {w w' : World}
/-- A number or none, as the code gives it. -/
def optV : Option Int → Value
  | none => .tuple #[.int .i64 0, .bool false]
  | some i => .tuple #[.int .i64 i, .bool true]
set_option maxHeartbeats 1000000 in
theorem bx_Role {v : Value} (l : List Bx) (r : List UInt8) (hv : RowB w v l) (hl : l.length ≤ 1000000) : Calls Tryz.prog 14 #[v, .string (str r)] w fun e w' => e = .returned (optV (roleOf l r)) ∧ Keeps w w' none_ := by
  obtain ⟨a, cap, rfl, hr⟩ := hv
  refine calls_of_vc (args := [.slice a l.length cap, .string (str r)]) Tryz.func14 rfl (Nat.le_of_ble_eq_true rfl) ?_; refine Sat.go hmix ?_; conv => whnf
  refine Loop.intro (ι := Nat) (fun i => [(0, .slice a l.length cap), (1, .string (str r)), (8, .slice a l.length cap), (9, .int .i64 (l.length : Nat)), (10, .int .i64 (i : Nat))])
    (fun i wr => Keeps w wr none_ ∧ i ≤ l.length ∧ roleOf l r = roleOf (l.drop i) r) (fun i => l.length - i) 0 ⟨rfl, rfl, rfl, rfl, rfl, trivial⟩ ⟨Keeps.refl _ _, Nat.zero_le _, rfl⟩ ?_
  rintro i gg wr ⟨hK, hi, he⟩
  (first | refine Then.go hmix ?_ | refine Sat.go hmix ?_ | refine ResK.go ?_ | skip); conv => whnf
  by_cases hlt : i < l.length
  · obtain ⟨gb, o, rfl, hgb, hat⟩ := hr (by omega)
    have hdr := List.drop_eq_getElem_cons hlt
    refine KGO ?_
    generalize l[i] = c at *
    refine Store.fresh (vs := [.int .i64 c.id, .int .i64 c.up, .string (str c.name), .string (str c.role)]) (by rfl) rfl (flat_of (by rfl)) ?_
    have a_b5 := at_fresh wr 39 ([.int .i64 c.id, .int .i64 c.up, .string (str c.name), .string (str c.role)])
    have k_w5 : Keeps wr (wr.alloc (.cells (List.toArray ([.int .i64 c.id, .int .i64 c.up, .string (str c.name), .string (str c.role)])) 39)) none_ := (Keeps.refl _ _).alloc _
    have z_w5 : (wr.alloc (.cells (List.toArray ([.int .i64 c.id, .int .i64 c.up, .string (str c.name), .string (str c.role)])) 39)).heap.size = wr.heap.size + 1 := by simp
    generalize wr.alloc (.cells (List.toArray ([.int .i64 c.id, .int .i64 c.up, .string (str c.name), .string (str c.role)])) 39) = w5 at *
    generalize hs_b5 : wr.heap.size = b5 at *
    have K5 := hK.trans0 k_w5
    rw [hdr] at he
    by_cases h1 : c.role = r
    · have hd1 : decide (str c.role = str r) = true := by rw [h1]; simp
      by_cases h2 : r = []
      · have hd2 : decide (str r = (⟨#[]⟩ : ByteArray)) = true := by rw [h2]; rfl
        refine KGO ?_
        refine ⟨i + 1, ⟨rfl, rfl, rfl, rfl, v_int (by simp), trivial⟩, ⟨K5, by omega, ?_⟩, by dsimp only; omega⟩
        rw [he, roleOf, roleOf, if_pos h2, if_pos h2]
      · have hd2 : decide (str r = (⟨#[]⟩ : ByteArray)) = false := decide_eq_false fun h => h2 (by have := congrArg L h; rwa [L_str] at this)
        refine KGO ?_
        refine ⟨?_, K5⟩
        rw [he, roleOf, if_neg h2, List.find?_cons, decide_eq_true h1]
        rfl
    · have hd1 : decide (str c.role = str r) = false := decide_eq_false fun h => h1 ((str_eq _ _).1 h)
      refine KGO ?_
      refine ⟨i + 1, ⟨rfl, rfl, rfl, rfl, v_int (by simp), trivial⟩, ⟨K5, by omega, ?_⟩, by dsimp only; omega⟩
      rw [he, roleOf, roleOf, List.find?_cons, decide_eq_false h1]
  · rw [List.drop_eq_nil_of_le (by omega)] at he
    refine KGO ?_
    refine ⟨?_, hK⟩
    rw [he, roleOf]
    split <;> rfl
end
end Go.Proofs.YtdghfagipheabaaGreatDoor

namespace Go.Cs
open Go.Lib
set_option linter.unusedVariables false
theorem idx_cons (b c : UInt8) (t : List UInt8) : indexByte (b :: t) c = if b == c then 0 else if indexByte t c == -1 then -1 else indexByte t c + 1 := rfl
theorem splitK_cons (b : UInt8) (hb : b ≠ 47) (t : List UInt8) (k : Nat) (hk : k = t.count 47) : splitK [47] 0 k (b :: t) = match splitK [47] 0 k t with | [] => [[b]] | x :: r => (b :: x) :: r := by
  cases k with
  | zero => rfl
  | succ k =>
    have hm : (47 : UInt8) ∈ t := List.count_pos_iff.1 (by omega)
    have hbb : ¬ (b == 47) = true := by simpa using hb
    unfold splitK
    rw [index_one, index_one, idx_cons, if_neg hbb]
    have hge := indexByte_ge t 47
    have hne : ¬ (indexByte t 47 == -1) = true := by
      intro h
      obtain ⟨i, hi, he⟩ := List.getElem_of_mem hm
      exact indexByte_none (by simpa using h) i (by rw [List.getElem?_eq_getElem hi, he])
    rw [if_neg hne, if_neg hne]
    have h0 : 0 ≤ indexByte t 47 := by
      have : indexByte t 47 ≠ -1 := by simpa using hne
      omega
    obtain ⟨n, hn⟩ : ∃ n : Nat, indexByte t 47 = n := ⟨_, (Int.toNat_of_nonneg h0).symm⟩
    rw [hn]
    have h1 : ¬ (((n : Nat) : Int) + 1 == -1) = true := by simp; omega
    rw [if_neg h1]
    have e1 : (((n : Nat) : Int) + 1).toNat = n + 1 := by omega
    have e2 : ((n : Nat) : Int).toNat = n := by omega
    rw [e1, e2]
    show (b :: t).take (n + 1 + 0) :: splitK [47] 0 k ((b :: t).drop (n + 1 + 1)) = (b :: t.take (n + 0)) :: splitK [47] 0 k (t.drop (n + 1))
    rfl
theorem split_eq : ∀ s : List UInt8, splitS s = splitK [47] 0 (s.count 47) s
  | [] => rfl
  | b :: t => by
    rw [splitS]
    by_cases hb : b = 47
    · subst hb
      rw [if_pos rfl, split_eq t, List.count_cons_self]
      conv => rhs; rw [splitK]
      rw [index_one, idx_cons]
      rfl
    · rw [if_neg hb, split_eq t, List.count_cons_of_ne (by exact fun h => hb h), splitK_cons b hb t _ rfl]
      cases splitK [47] 0 (List.count 47 t) t <;> rfl
end Go.Cs
