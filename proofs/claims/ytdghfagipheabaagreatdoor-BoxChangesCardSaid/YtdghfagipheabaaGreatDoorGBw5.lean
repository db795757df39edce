/- Helper text of this claim: Bw5, Bw6, RowK, FlatK, Bw7: lemmas and contracts that the proved statement rests on; no conditions of its own. -/
import Derived.Test.YtdghfagipheabaaGreatDoorBw4
import Derived.Test.YtdghfagipheabaaGreatDoorGBw3
import Derived.Test.YtdghfagipheabaaGreatDoorGCs0
import Derived.Laws.CopyRow
import Derived.Lib.AppendZerosOnto
import Derived.Lib.Overlaps
import Derived.Laws.Externs
import Derived.Lib.SliceRun
import Derived.Test.YtdghfagipheabaaGreatDoorGOpn
-- alias Tryz
namespace Go.Proofs.YtdghfagipheabaaGreatDoor
open Go.RowKit Go.Pw Go.Vc Go.Cs Go.Lib
set_option linter.unusedVariables false
set_option maxRecDepth 100000
section
variable {w : World}
set_option maxHeartbeats 1000000 in
theorem cf1 {v : Value} (l : List Bx) (g : Nat) (c1 : Value) (p : Bx → Bool) (hv : RowB w v l) (hl : l.length ≤ 1000000) (hg : ∀ (args : Array Value) (w : World), (callFunc g args).run Tryz.prog w = .ok (.enter g args) w)
    (hp : ∀ b ∈ l, ∀ w', Keeps w w' none_ → Calls Tryz.prog g #[.agg (boxCells b).toArray, c1] w' fun e w'' => e = .returned (.bool (p b)) ∧ Keeps w' w'' none_) :
    Calls Tryz.prog 24 #[v, .func (.func g) #[] #[c1]] w fun e w' => e = .returned (.bool (l.any p)) ∧ Keeps w w' none_ := by
  have hi : ∀ w0 : World, Keeps w w0 none_ → Calls Tryz.prog 53 #[v, .func (.func g) #[] #[c1]] w0 fun e w' => ∃ z : Int, e = .returned (.int .i64 z) ∧ (0 ≤ z ↔ l.any p = true) ∧ Keeps w0 w' none_ := fun w0 K0 => by
    have hv1 := hv.keep K0
    obtain ⟨a, cap, rfl, hr⟩ := hv1
    refine calls_of_vc (args := [.slice a l.length cap, .func (.func g) #[] #[c1]]) Tryz.func53 rfl (Nat.le_of_ble_eq_true rfl) ?_; refine Sat.go hmix ?_; conv => whnf
    refine Loop.intro (ι := Nat) (fun i => [(0, .slice a l.length cap), (1, .func (.func g) #[] #[c1]), (7, .int .i64 (l.length : Nat)), (8, .int .i64 (i : Nat))])
      (fun i wr => Keeps w0 wr none_ ∧ i ≤ l.length ∧ l.any p = (l.drop i).any p) (fun i => l.length - i) 0 ⟨rfl, rfl, rfl, rfl, trivial⟩ ⟨Keeps.refl _ _, Nat.zero_le _, rfl⟩ ?_
    rintro i gg wr ⟨hK, hi, he⟩
    (first | refine Then.go hmix ?_ | refine Sat.go hmix ?_ | refine ResK.go ?_ | skip); conv => whnf
    by_cases hlt : i < l.length
    · obtain ⟨gb, o, rfl, hgb, hat⟩ := hr (by omega)
      have hd := List.drop_eq_getElem_cons hlt
      have hpc := hp l[i] (List.getElem_mem hlt) wr (K0.trans0 hK)
      refine KGO ?_
      generalize l[i] = b at *
      refine CallS.of (hg _ _) hpc ?_
      rintro e w1 ⟨rfl, k1⟩
      refine ⟨_, rfl, ?_⟩; (first | refine Then.go hmix ?_ | refine Sat.go hmix ?_ | refine ResK.go ?_ | skip); conv => whnf
      rw [hd, List.any_cons] at he
      cases hb : p b with
      | true =>
        rw [hb, Bool.true_or] at he
        refine KGO ?_
        exact ⟨_, rfl, ⟨fun _ => he, fun _ => by omega⟩, hK.trans0 k1⟩
      | false =>
        rw [hb, Bool.false_or] at he
        refine KGO ?_
        exact ⟨i + 1, ⟨rfl, rfl, rfl, v_int (by simp), trivial⟩, ⟨hK.trans0 k1, by omega, he⟩, by dsimp only; omega⟩
    · refine KGO ?_
      refine ⟨_, rfl, ⟨fun h => by omega, fun h => ?_⟩, hK⟩
      rw [he, List.drop_eq_nil_of_le (by omega)] at h
      cases h
  have hv0 := hv
  obtain ⟨a, cap, rfl, hr⟩ := hv
  refine calls_of_vc (args := [.slice a l.length cap, .func (.func g) #[] #[c1]]) Tryz.func24 rfl (Nat.le_of_ble_eq_true rfl) ?_; refine Sat.go hmix ?_; conv => whnf
  refine CallS.of (Tryz.call53 _ _) (hi w (Keeps.refl _ _)) ?_
  rintro e w1 ⟨z, rfl, hz, k1⟩
  refine ⟨_, rfl, ?_⟩; (first | refine Then.go hmix ?_ | refine Sat.go hmix ?_ | refine ResK.go ?_ | skip); conv => whnf
  refine ⟨ret_bool ?_, k1⟩
  rw [Bool.eq_iff_iff, decide_eq_true_eq]
  exact hz
set_option maxHeartbeats 1000000 in
theorem cf3 {v : Value} (l : List Bx) (g : Nat) (c1 c2 c3 : Value) (p : Bx → Bool) (hv : RowB w v l) (hl : l.length ≤ 1000000) (hg : ∀ (args : Array Value) (w : World), (callFunc g args).run Tryz.prog w = .ok (.enter g args) w)
    (hp : ∀ b ∈ l, ∀ w', Keeps w w' none_ → Calls Tryz.prog g #[.agg (boxCells b).toArray, c1, c2, c3] w' fun e w'' => e = .returned (.bool (p b)) ∧ Keeps w' w'' none_) :
    Calls Tryz.prog 24 #[v, .func (.func g) #[] #[c1, c2, c3]] w fun e w' => e = .returned (.bool (l.any p)) ∧ Keeps w w' none_ := by
  have hi : ∀ w0 : World, Keeps w w0 none_ → Calls Tryz.prog 53 #[v, .func (.func g) #[] #[c1, c2, c3]] w0 fun e w' => ∃ z : Int, e = .returned (.int .i64 z) ∧ (0 ≤ z ↔ l.any p = true) ∧ Keeps w0 w' none_ := fun w0 K0 => by
    have hv1 := hv.keep K0
    obtain ⟨a, cap, rfl, hr⟩ := hv1
    refine calls_of_vc (args := [.slice a l.length cap, .func (.func g) #[] #[c1, c2, c3]]) Tryz.func53 rfl (Nat.le_of_ble_eq_true rfl) ?_; refine Sat.go hmix ?_; conv => whnf
    refine Loop.intro (ι := Nat) (fun i => [(0, .slice a l.length cap), (1, .func (.func g) #[] #[c1, c2, c3]), (7, .int .i64 (l.length : Nat)), (8, .int .i64 (i : Nat))])
      (fun i wr => Keeps w0 wr none_ ∧ i ≤ l.length ∧ l.any p = (l.drop i).any p) (fun i => l.length - i) 0 ⟨rfl, rfl, rfl, rfl, trivial⟩ ⟨Keeps.refl _ _, Nat.zero_le _, rfl⟩ ?_
    rintro i gg wr ⟨hK, hi, he⟩
    (first | refine Then.go hmix ?_ | refine Sat.go hmix ?_ | refine ResK.go ?_ | skip); conv => whnf
    by_cases hlt : i < l.length
    · obtain ⟨gb, o, rfl, hgb, hat⟩ := hr (by omega)
      have hd := List.drop_eq_getElem_cons hlt
      have hpc := hp l[i] (List.getElem_mem hlt) wr (K0.trans0 hK)
      refine KGO ?_
      generalize l[i] = b at *
      refine CallS.of (hg _ _) hpc ?_
      rintro e w1 ⟨rfl, k1⟩
      refine ⟨_, rfl, ?_⟩; (first | refine Then.go hmix ?_ | refine Sat.go hmix ?_ | refine ResK.go ?_ | skip); conv => whnf
      rw [hd, List.any_cons] at he
      cases hb : p b with
      | true =>
        rw [hb, Bool.true_or] at he
        refine KGO ?_
        exact ⟨_, rfl, ⟨fun _ => he, fun _ => by omega⟩, hK.trans0 k1⟩
      | false =>
        rw [hb, Bool.false_or] at he
        refine KGO ?_
        exact ⟨i + 1, ⟨rfl, rfl, rfl, v_int (by simp), trivial⟩, ⟨hK.trans0 k1, by omega, he⟩, by dsimp only; omega⟩
    · refine KGO ?_
      refine ⟨_, rfl, ⟨fun h => by omega, fun h => ?_⟩, hK⟩
      rw [he, List.drop_eq_nil_of_le (by omega)] at h
      cases h
  have hv0 := hv
  obtain ⟨a, cap, rfl, hr⟩ := hv
  refine calls_of_vc (args := [.slice a l.length cap, .func (.func g) #[] #[c1, c2, c3]]) Tryz.func24 rfl (Nat.le_of_ble_eq_true rfl) ?_; refine Sat.go hmix ?_; conv => whnf
  refine CallS.of (Tryz.call53 _ _) (hi w (Keeps.refl _ _)) ?_
  rintro e w1 ⟨z, rfl, hz, k1⟩
  refine ⟨_, rfl, ?_⟩; (first | refine Then.go hmix ?_ | refine Sat.go hmix ?_ | refine ResK.go ?_ | skip); conv => whnf
  refine ⟨ret_bool ?_, k1⟩
  rw [Bool.eq_iff_iff, decide_eq_true_eq]
  exact hz
end
end Go.Proofs.YtdghfagipheabaaGreatDoor

-- alias Tryz
namespace Go.Proofs.YtdghfagipheabaaGreatDoor
open Go.RowKit Go.Pw Go.Vc Go.Cs Go.Lib
set_option linter.unusedVariables false
set_option maxRecDepth 100000
section
variable {w : World}
theorem bx_upIs (b : Bx) (id : Int) {bp : Nat} (hc : w.cell? ⟨bp, 0, none⟩ = some (.int .i64 id)) : Calls Tryz.prog 32 #[.agg (boxCells b).toArray, .pointer (some ⟨bp, 0, none⟩)] w fun e w' => e = .returned (.bool (decide (b.up = id))) ∧ Keeps w w' none_ := by
  refine calls_of_vc (args := [.agg #[.int .i64 b.id, .int .i64 b.up, .string (str b.name), .string (str b.role)], .pointer (some ⟨bp, 0, none⟩)]) Tryz.func32 rfl (Nat.le_of_ble_eq_true rfl) ?_; refine Sat.go hmix ?_; conv => whnf
  rw [show w.alloc (.cells #[.int .i64 b.id, .int .i64 b.up, .string (str b.name), .string (str b.role)] 39) = w.alloc (.cells (List.toArray [.int .i64 b.id, .int .i64 b.up, .string (str b.name), .string (str b.role)]) 39) from rfl]
  have a_b1 := at_fresh w 39 [.int .i64 b.id, .int .i64 b.up, .string (str b.name), .string (str b.role)]
  have k_w1 : Keeps w (w.alloc (.cells (List.toArray [.int .i64 b.id, .int .i64 b.up, .string (str b.name), .string (str b.role)]) 39)) none_ := (Keeps.refl _ _).alloc _
  have z_w1 : (w.alloc (.cells (List.toArray [.int .i64 b.id, .int .i64 b.up, .string (str b.name), .string (str b.role)]) 39)).heap.size = w.heap.size + 1 := by simp
  generalize w.alloc (.cells (List.toArray [.int .i64 b.id, .int .i64 b.up, .string (str b.name), .string (str b.role)]) 39) = w1 at *
  generalize hs_b1 : w.heap.size = b1 at *
  refine KGO ?_
  exact ⟨ret_bool (eqB_dec _ _), k_w1⟩
theorem bx_roleIs (b : Bx) (r : List UInt8) {bp : Nat} (hc : w.cell? ⟨bp, 0, none⟩ = some (.string (str r))) : Calls Tryz.prog 25 #[.agg (boxCells b).toArray, .pointer (some ⟨bp, 0, none⟩)] w fun e w' => e = .returned (.bool (decide (b.role = r))) ∧ Keeps w w' none_ := by
  refine calls_of_vc (args := [.agg #[.int .i64 b.id, .int .i64 b.up, .string (str b.name), .string (str b.role)], .pointer (some ⟨bp, 0, none⟩)]) Tryz.func25 rfl (Nat.le_of_ble_eq_true rfl) ?_; refine Sat.go hmix ?_; conv => whnf
  rw [show w.alloc (.cells #[.int .i64 b.id, .int .i64 b.up, .string (str b.name), .string (str b.role)] 39) = w.alloc (.cells (List.toArray [.int .i64 b.id, .int .i64 b.up, .string (str b.name), .string (str b.role)]) 39) from rfl]
  have a_b1 := at_fresh w 39 [.int .i64 b.id, .int .i64 b.up, .string (str b.name), .string (str b.role)]
  have k_w1 : Keeps w (w.alloc (.cells (List.toArray [.int .i64 b.id, .int .i64 b.up, .string (str b.name), .string (str b.role)]) 39)) none_ := (Keeps.refl _ _).alloc _
  have z_w1 : (w.alloc (.cells (List.toArray [.int .i64 b.id, .int .i64 b.up, .string (str b.name), .string (str b.role)]) 39)).heap.size = w.heap.size + 1 := by simp
  generalize w.alloc (.cells (List.toArray [.int .i64 b.id, .int .i64 b.up, .string (str b.name), .string (str b.role)]) 39) = w1 at *
  generalize hs_b1 : w.heap.size = b1 at *
  refine KGO ?_
  exact ⟨ret_bool (by rw [decide_eq_decide, str_eq]), k_w1⟩
theorem fold_Equal2 (s t : List UInt8) (hT : FoldTab w) (hs : s.length ≤ 100000000) (ht : t.length ≤ 100000000) : Calls Tryz.prog 55 #[.string (str s), .string (str t)] w fun e w' => e = .returned (.bool (decide (foldL s = foldL t))) ∧ Keeps w w' none_ := by
  refine calls_of_vc (args := [.string (str s), .string (str t)]) Tryz.func55 rfl (Nat.le_of_ble_eq_true rfl) ?_; refine Sat.go hmix ?_; conv => whnf
  refine CallS.of (Tryz.call34 _ _) (fold_Fold (w := w) (str s) hT (by rw [str_size]; omega)) ?_
  rintro e w1 ⟨rfl, k1⟩
  rw [L_str]
  refine ⟨_, rfl, ?_⟩; (first | refine Then.go hmix ?_ | refine Sat.go hmix ?_ | refine ResK.go ?_ | skip); conv => whnf
  refine CallS.of (Tryz.call34 _ _) (fold_Fold (w := w1) (str t) (hT.keep k1) (by rw [str_size]; omega)) ?_
  rintro e w2 ⟨rfl, k2⟩
  rw [L_str]
  refine ⟨_, rfl, ?_⟩; (first | refine Then.go hmix ?_ | refine Sat.go hmix ?_ | refine ResK.go ?_ | skip); conv => whnf
  exact ⟨ret_bool (by rw [decide_eq_decide, str_eq]), k1.trans0 k2⟩
set_option maxHeartbeats 2000000 in
theorem bx_takenIs (b : Bx) (up but : Int) (nm : List UInt8) {p1 p2 p3 : Nat} (hT : FoldTab w) (hn : nm.length ≤ 1000000) (hb : b.name.length ≤ 1000000) (c1 : w.cell? ⟨p1, 0, none⟩ = some (.int .i64 up)) (c2 : w.cell? ⟨p2, 0, none⟩ = some (.int .i64 but)) (c3 : w.cell? ⟨p3, 0, none⟩ = some (.string (str nm))) :
    Calls Tryz.prog 54 #[.agg (boxCells b).toArray, .pointer (some ⟨p1, 0, none⟩), .pointer (some ⟨p2, 0, none⟩), .pointer (some ⟨p3, 0, none⟩)] w fun e w' => e = .returned (.bool (decide (b.up = up ∧ b.id ≠ but ∧ foldL b.name = foldL nm))) ∧ Keeps w w' none_ := by
  refine calls_of_vc (args := [.agg #[.int .i64 b.id, .int .i64 b.up, .string (str b.name), .string (str b.role)], .pointer (some ⟨p1, 0, none⟩), .pointer (some ⟨p2, 0, none⟩), .pointer (some ⟨p3, 0, none⟩)]) Tryz.func54 rfl (Nat.le_of_ble_eq_true rfl) ?_; refine Sat.go hmix ?_; conv => whnf
  rw [show w.alloc (.cells #[.int .i64 b.id, .int .i64 b.up, .string (str b.name), .string (str b.role)] 39) = w.alloc (.cells (List.toArray [.int .i64 b.id, .int .i64 b.up, .string (str b.name), .string (str b.role)]) 39) from rfl]
  have a_b1 := at_fresh w 39 [.int .i64 b.id, .int .i64 b.up, .string (str b.name), .string (str b.role)]
  have k_w1 : Keeps w (w.alloc (.cells (List.toArray [.int .i64 b.id, .int .i64 b.up, .string (str b.name), .string (str b.role)]) 39)) none_ := (Keeps.refl _ _).alloc _
  have z_w1 : (w.alloc (.cells (List.toArray [.int .i64 b.id, .int .i64 b.up, .string (str b.name), .string (str b.role)]) 39)).heap.size = w.heap.size + 1 := by simp
  generalize w.alloc (.cells (List.toArray [.int .i64 b.id, .int .i64 b.up, .string (str b.name), .string (str b.role)]) 39) = w1 at *
  generalize hs_b1 : w.heap.size = b1 at *
  by_cases h1 : b.up = up
  · by_cases h2 : b.id = but
    · refine KGO ?_
      exact ⟨ret_bool (by simp [h2]), k_w1⟩
    · refine KGO ?_
      refine CallS.of (Tryz.call55 _ _) (fold_Equal2 (w := w1) b.name nm (hT.keep k_w1) (by omega) (by omega)) ?_
      rintro e w2 ⟨rfl, k2⟩
      refine ⟨_, rfl, ?_⟩; (first | refine Then.go hmix ?_ | refine Sat.go hmix ?_ | refine ResK.go ?_ | skip); conv => whnf
      refine KGO ?_
      exact ⟨ret_bool (by simp [h1, h2]), k_w1.trans0 k2⟩
  · refine KGO ?_
    exact ⟨ret_bool (by simp [h1]), k_w1⟩
set_option maxHeartbeats 2000000 in
theorem bx_taken {v : Value} (l : List Bx) (up : Int) (nm : List UInt8) (but : Int) (hv : RowB w v l) (hl : l.length ≤ 1000000) (hT : FoldTab w) (hn : nm.length ≤ 1000000) (hb : ∀ b ∈ l, b.name.length ≤ 1000000) :
    Calls Tryz.prog 28 #[v, .int .i64 up, .string (str nm), .int .i64 but] w fun e w' => e = .returned (.bool (takenL l up nm but)) ∧ Keeps w w' none_ := by
  have hv0 := hv
  obtain ⟨a, cap, rfl, hr⟩ := hv
  refine calls_of_vc (args := [.slice a l.length cap, .int .i64 up, .string (str nm), .int .i64 but]) Tryz.func28 rfl (Nat.le_of_ble_eq_true rfl) ?_; refine Sat.go hmix ?_; conv => whnf
  rw [show w.alloc (.cells #[.int .i64 up] 3) = w.alloc (.cells (List.toArray [.int .i64 up]) 3) from rfl]
  have a_b1 := at_fresh w 3 [.int .i64 up]
  have k_w1 : Keeps w (w.alloc (.cells (List.toArray [.int .i64 up]) 3)) none_ := (Keeps.refl _ _).alloc _
  have z_w1 : (w.alloc (.cells (List.toArray [.int .i64 up]) 3)).heap.size = w.heap.size + 1 := by simp
  generalize w.alloc (.cells (List.toArray [.int .i64 up]) 3) = w1 at *
  generalize hs_b1 : w.heap.size = b1 at *
  rw [show w1.alloc (.cells #[.string (str nm)] 9) = w1.alloc (.cells (List.toArray [.string (str nm)]) 9) from rfl]
  have a_b2 := at_fresh w1 9 [.string (str nm)]
  have k_w2 : Keeps w1 (w1.alloc (.cells (List.toArray [.string (str nm)]) 9)) none_ := (Keeps.refl _ _).alloc _
  have z_w2 : (w1.alloc (.cells (List.toArray [.string (str nm)]) 9)).heap.size = w1.heap.size + 1 := by simp
  generalize w1.alloc (.cells (List.toArray [.string (str nm)]) 9) = w2 at *
  generalize hs_b2 : w1.heap.size = b2 at *
  rw [show w2.alloc (.cells #[.int .i64 but] 3) = w2.alloc (.cells (List.toArray [.int .i64 but]) 3) from rfl]
  have a_b3 := at_fresh w2 3 [.int .i64 but]
  have k_w3 : Keeps w2 (w2.alloc (.cells (List.toArray [.int .i64 but]) 3)) none_ := (Keeps.refl _ _).alloc _
  have z_w3 : (w2.alloc (.cells (List.toArray [.int .i64 but]) 3)).heap.size = w2.heap.size + 1 := by simp
  generalize w2.alloc (.cells (List.toArray [.int .i64 but]) 3) = w3 at *
  generalize hs_b3 : w2.heap.size = b3 at *
  have K3 := (k_w1.trans0 k_w2).trans0 k_w3
  have c1 : w3.cell? ⟨b1, 0, none⟩ = some (.int .i64 up) := cell_mono (a_b1 0 _ rfl) (k_w2.trans0 k_w3)
  have c2 : w3.cell? ⟨b3, 0, none⟩ = some (.int .i64 but) := a_b3 0 _ rfl
  have c3 : w3.cell? ⟨b2, 0, none⟩ = some (.string (str nm)) := cell_mono (a_b2 0 _ rfl) k_w3
  conv => arg 3; simp [ev, upd]
  refine CallS.of (Tryz.call24 _ _) (cf3 (w := w3) l 54 (.pointer (some ⟨b1, 0, none⟩)) (.pointer (some ⟨b3, 0, none⟩)) (.pointer (some ⟨b2, 0, none⟩)) (fun b => decide (b.up = up ∧ b.id ≠ but ∧ foldL b.name = foldL nm)) (hv0.keep K3) hl Tryz.call54 (fun b hb2 w' k => bx_takenIs b up but nm (hT.keep (K3.trans0 k)) hn (hb b hb2) (cell_mono c1 k) (cell_mono c2 k) (cell_mono c3 k))) ?_
  rintro e w4 ⟨rfl, k4⟩
  refine ⟨_, rfl, ?_⟩; (first | refine Then.go hmix ?_ | refine Sat.go hmix ?_ | refine ResK.go ?_ | skip); conv => whnf
  exact ⟨rfl, K3.trans0 k4⟩
end
end Go.Proofs.YtdghfagipheabaaGreatDoor

/-! Rows in blocks of their own, elements of any size: appended to, copied over, cleared. -/
namespace Go.Vc
open Go Go.Pw Go.RowKit
set_option linter.unusedVariables false
section
variable {P : Program} {w : World} {K : Value → World → Prop} {t tn ty e T : TypeId} {cs : Array Bool} {g : Nat} {cells : List Value}
theorem setRow_keeps (w : World) (g : Nat) (cs : Array Value) : Keeps w (w.setRow g cs) (one_ g) :=
  ⟨rfl, rfl, rfl, by simp, fun k hk hn => setRow_other w g k cs fun e => hn e⟩
theorem VarK.setRow (h : VarK w g T cells) (new : List Value) : VarK (w.setRow g new.toArray) g T new := setRow_heap w g _ _ T (0, 0) h
theorem info_one {s bytes : Nat} {z : Value} (hb : (P.info? e).map (fun i => (i.zero, i.size, i.bytes)) = some (some z, s, bytes)) : ∃ i, P.info? e = some i ∧ i.zero = some z ∧ i.size = s ∧ i.bytes = bytes := by
  obtain ⟨i, hi, hi2⟩ := Option.map_eq_some_iff.1 hb
  simp only [Prod.mk.injEq] at hi2
  exact ⟨i, hi, hi2.1, hi2.2.1, hi2.2.2⟩
/-- 'append(s, v...)' where there is room: in place. -/
theorem RunN.roomK {s bytes : Nat} {z : Value} (ht : P.underlying t = some (.slice e)) (hb : (P.info? e).map (fun i => (i.zero, i.size, i.bytes)) = some (some z, s, bytes)) (h : VarK w g e cells) {n c m mc : Nat} {a : Addr} {news : List Value}
    (hl : news.length = m * s) (hnews : ∀ j u, news[j]? = some u → w.cell? (a.add j) = some u) (h1 : ∀ u ∈ news, u.oneCell' = true) (hroom : n + m ≤ c) (hfit : (n + m) * s ≤ cells.length)
    (k : ∀ w', VarK w' g e (cells.take (n * s) ++ news ++ cells.drop ((n + m) * s)) → Keeps w w' (one_ g) → K (.slice (some ⟨g, 0, none⟩) (n + m) c) w') :
    RunN P (builtin .append #[t, t] ty cs [.slice (some ⟨g, 0, none⟩) n c, .slice (some a) m mc].toArray) w K := by
  obtain ⟨i, hi, z1, rfl, z3⟩ := info_one hb
  have hr := run_append_room (P := P) w t ty e i ht hi g n c cells.toArray h a m mc news hl hnews h1 hroom (by rw [hl]; rw [Nat.add_mul] at hfit; simpa using hfit)
  have e2 : n * i.size + news.length = (n + m) * i.size := by rw [hl, Nat.add_mul]
  rw [e2] at hr
  have e1 : (builtin .append #[t, t] ty cs [.slice (some ⟨g, 0, none⟩) n c, .slice (some a) m mc].toArray).run P w = .ok (.value (.slice (some ⟨g, 0, none⟩) (n + m) c)) (w.setRow g (cells.take (n * i.size) ++ news ++ cells.drop ((n + m) * i.size)).toArray) := by
    show (do pure (Next.value (← Builtin.append_ #[t, t] ty #[.slice (some ⟨g, 0, none⟩) n c, .slice (some a) m mc])) : Sem Next).run P w = _
    simp only [Sem.run_bind, hr, Result.andThen_ok]
    rfl
  exact ⟨_, _, e1, k _ (h.setRow _) (setRow_keeps _ _ _)⟩
theorem fits48 {need old bytes : Nat} (hlt : old < need) (hbytes : need * bytes ≤ 140737488355328) : Builtin.nextslicecap need old * bytes ≤ 281474976710656 := growslice_fits hlt hbytes
/-- .. where there is none: a new block. -/
theorem RunN.growK {s bytes : Nat} {z : Value} (ht : P.underlying t = some (.slice e)) (hb : (P.info? e).map (fun i => (i.zero, i.size, i.bytes)) = some (some z, s, bytes)) (hz : z.cells.size = s) {b a : Addr} {n c m mc : Nat} {olds news : List Value}
    (hlo : olds.length = n * s) (holds : ∀ j u, olds[j]? = some u → w.cell? (b.add j) = some u) (hl : news.length = m * s) (hnews : ∀ j u, news[j]? = some u → w.cell? (a.add j) = some u)
    (hroom : c < n + m) (h63 : n + m ≤ 9223372036854775807) (hbytes : (n + m) * bytes ≤ 140737488355328)
    (k : ∀ w' tail c', VarK w' w.heap.size e (olds ++ news ++ tail) → (olds ++ news ++ tail).length = c' * s → n + m ≤ c' → c' ≤ maxLen → Keeps w w' none_ → K (.slice (some ⟨w.heap.size, 0, none⟩) (n + m) c') w') :
    RunN P (builtin .append #[t, t] ty cs [.slice (some b) n c, .slice (some a) m mc].toArray) w K := by
  obtain ⟨i, hi, z1, rfl, rfl⟩ := info_one hb
  have hr := run_append_grow (P := P) w t ty e i z ht hi z1 b n c olds hlo holds a m mc news hl hnews hroom (by omega) (fits48 hroom hbytes)
  have hge := grownCap_ge w (n + m) c e
  refine ⟨_, w.drew.alloc (.cells (olds.toArray ++ news.toArray ++ Builtin.zeroCells z.cells (grownCap w (n + m) c e - (n + m))) e), ?_, k _ (Builtin.zeroCells z.cells (grownCap w (n + m) c e - (n + m))).toList _ ?_ ?_ hge (grownCap_le_maxLen w (n + m) c e (by rw [show maxLen = 9223372036854775807 from rfl]; exact h63)) ?_⟩
  · show (do pure (Next.value (← Builtin.append_ #[t, t] ty #[.slice (some b) n c, .slice (some a) m mc])) : Sem Next).run P w = _
    simp only [Sem.run_bind, hr, Result.andThen_ok]
    rfl
  · have := heap_alloc_new w.drew (.cells (olds.toArray ++ news.toArray ++ Builtin.zeroCells z.cells (grownCap w (n + m) c e - (n + m))) e)
    unfold VarK
    rw [show (olds ++ news ++ (Builtin.zeroCells z.cells (grownCap w (n + m) c e - (n + m))).toList).toArray = olds.toArray ++ news.toArray ++ Builtin.zeroCells z.cells (grownCap w (n + m) c e - (n + m)) by apply Array.ext'; simp]
    exact this
  · rw [List.length_append, List.length_append, hlo, hl, Array.length_toList, size_zeroCells, hz, ← Nat.add_mul, ← Nat.add_mul]
    congr 1
    omega
  · exact (Keeps.refl w none_).drew.alloc _
/-- 'append(s, make([]T, m)...)' where there is no room. -/
theorem RunN.zerosK {s bytes : Nat} {z : Value} {kq kn : IntKind} (ht : P.underlying t = some (.slice e)) (htn : P.underlying tn = some (.int kn)) (hb : (P.info? e).map (fun i => (i.zero, i.size, i.bytes)) = some (some z, s, bytes)) (hz : z.cells.size = s) (hs : 0 < s) {b : Addr} {n c m : Nat} {olds : List Value}
    (hlo : olds.length = n * s) (holds : ∀ j u, olds[j]? = some u → w.cell? (b.add j) = some u) (h0 : 0 < m)
    (hroom : c < n + m) (h63 : n + m ≤ 9223372036854775807) (hbytes : (n + m) * bytes ≤ 140737488355328)
    (k : ∀ w' tail c', VarK w' w.heap.size e (olds ++ tail) → (olds ++ tail).length = c' * s → n + m ≤ c' → c' ≤ maxLen → Keeps w w' none_ → K (.slice (some ⟨w.heap.size, 0, none⟩) (n + m) c') w') :
    RunN P (builtin .append #[t, tn] ty cs [.slice (some b) n c, .int kq (m : Nat)].toArray) w K := by
  obtain ⟨i, hi, z1, rfl, rfl⟩ := info_one hb
  have hmb : m * i.bytes ≤ 281474976710656 := by rw [Nat.add_mul] at hbytes; omega
  have hr := Lib.run_append_grow_zeros (P := P) w t tn ty e i z kq kn ht htn hi z1 (some b) n c olds (run_firstCells_some (P := P) w.drew i.size n b n c olds hlo (by simpa using holds)) m h0 hs hroom (by omega) hmb (fits48 hroom hbytes)
  have hge := grownCap_ge w (n + m) c e
  refine ⟨_, w.drew.alloc (.cells (olds.toArray ++ Builtin.zeroCells z.cells m ++ Builtin.zeroCells z.cells (grownCap w (n + m) c e - (n + m))) e), ?_, k _ (Builtin.zeroCells z.cells m ++ Builtin.zeroCells z.cells (grownCap w (n + m) c e - (n + m))).toList _ ?_ ?_ hge (grownCap_le_maxLen w (n + m) c e (by rw [show maxLen = 9223372036854775807 from rfl]; exact h63)) ?_⟩
  · show (do pure (Next.value (← Builtin.append_ #[t, tn] ty #[.slice (some b) n c, .int kq (m : Nat)])) : Sem Next).run P w = _
    simp only [Sem.run_bind, hr, Result.andThen_ok]
    rfl
  · have := heap_alloc_new w.drew (.cells (olds.toArray ++ Builtin.zeroCells z.cells m ++ Builtin.zeroCells z.cells (grownCap w (n + m) c e - (n + m))) e)
    unfold VarK
    rw [show (olds ++ (Builtin.zeroCells z.cells m ++ Builtin.zeroCells z.cells (grownCap w (n + m) c e - (n + m))).toList).toArray = olds.toArray ++ Builtin.zeroCells z.cells m ++ Builtin.zeroCells z.cells (grownCap w (n + m) c e - (n + m)) by apply Array.ext'; simp]
    exact this
  · rw [List.length_append, hlo, Array.length_toList, Array.size_append, size_zeroCells, size_zeroCells, hz, ← Nat.add_mul, ← Nat.add_mul]
    congr 1
    omega
  · exact (Keeps.refl w none_).drew.alloc _
theorem RunN.capK {a : Option Addr} {n c : Nat} (ht : P.underlying t = some (.slice e)) (k : K (.int .i64 (c : Nat)) w) : RunN P (builtin .cap #[t] ty cs [.slice a n c].toArray) w K := by
  refine ⟨_, w, ?_, k⟩
  show (do pure (Next.value (← Builtin.cap_ #[t] ty #[.slice a n c])) : Sem Next).run P w = _
  simp [Builtin.cap_, run_underlying ht, goInt]
/-- 's[i:j:m]'. -/
theorem run_cut3 {s bytes : Nat} {z : Value} {f : Fr} {x y zz : Operand} {o n c i j m : Nat} (ht : P.underlying t = some (.slice e)) (hb : (P.info? e).map (fun i => (i.zero, i.size, i.bytes)) = some (some z, s, bytes)) (hij : i ≤ j) (hjm : j ≤ m) (hmc : m ≤ c)
    (hx : ev f x = .int .i64 (i : Nat)) (hy : ev f y = .int .i64 (j : Nat)) (hz : ev f zz = .int .i64 (m : Nat)) :
    (Instr.sliceAt t (.slice (some ⟨g, o, none⟩) n c) ((some x).map (ev f)) ((some y).map (ev f)) (some (ev f zz))).run P w = .ok (.slice (some ⟨g, if i = m then o else o + i * s, none⟩) (j - i) (m - i)) w := by
  obtain ⟨q, hq, _, rfl, _⟩ := info_one hb
  unfold Instr.sliceAt Instr.slice Instr.sliceBounds
  simp only [Sem.run_bind, und_ok ht, Result.andThen_ok, Option.map_some, hx, hy, hz, bound_ok hmc, bound_ok hjm, bound_ok hij, Sem.run_pure, size_ok hq]
  by_cases e : i = m
  · subst e; simp
  · rw [if_neg e, if_neg (fun h => e h.symm)]; simp [add_none]
/-- 'copy(d, s)'. -/
theorem RunN.copyK {s bytes : Nat} {z : Value} {o dl dc sl sc : Nat} (ht : P.underlying t = some (.slice e)) (hb : (P.info? e).map (fun i => (i.zero, i.size, i.bytes)) = some (some z, s, bytes)) (h : VarK w g T cells) {a : Addr} {news : List Value}
    {m : Nat} (hm : min sl dl = m) (hl : news.length = m * s) (hnews : ∀ j u, news[j]? = some u → w.cell? (a.add j) = some u) (h1 : ∀ u ∈ news, u.oneCell' = true) (hfit : o + news.length ≤ cells.length)
    (k : ∀ w', VarK w' g T (cells.take o ++ news ++ cells.drop (o + news.length)) → Keeps w w' (one_ g) → K (.int .i64 (m : Nat)) w') :
    RunN P (builtin .copy #[t, t] ty cs [.slice (some ⟨g, o, none⟩) dl dc, .slice (some a) sl sc].toArray) w K := by
  obtain ⟨i, hi, z1, rfl, z3⟩ := info_one hb
  have hm : Nat.min sl dl = m := hm
  subst hm
  have hst := run_storeCells_at P g o T news 0 cells.toArray w h (by simpa using hfit) h1
  have hf := run_firstCells_some (P := P) w i.size (Nat.min sl dl) a sl sc news hl hnews
  rw [Nat.add_zero] at hst
  have e1 : (builtin .copy #[t, t] ty cs [.slice (some ⟨g, o, none⟩) dl dc, .slice (some a) sl sc].toArray).run P w = .ok (.value (goInt (Nat.min sl dl))) (w.setRow g (cells.take o ++ news ++ cells.drop (o + news.length)).toArray) := by
    show (do pure (Next.value (← Builtin.copy_ #[t, t] ty #[.slice (some ⟨g, o, none⟩) dl dc, .slice (some a) sl sc])) : Sem Next).run P w = _
    have hst : (storeCells ⟨g, o, none⟩ news).run P w = .ok () (w.setRow g (cells.take o ++ news ++ cells.drop (o + news.length)).toArray) := hst
    simp [Builtin.copy_, run_underlying ht, Builtin.lenOf, sizeOf, typeInfo, hi, hf, hst]
  exact ⟨_, _, e1, k _ (h.setRow _) (setRow_keeps _ _ _)⟩
/-- 'clear(s)'. -/
theorem RunN.clearK {s bytes : Nat} {z : Value} {o n c : Nat} (ht : P.underlying t = some (.slice e)) (hb : (P.info? e).map (fun i => (i.zero, i.size, i.bytes)) = some (some z, s, bytes)) (hz : z.cells.size = s) (h1 : ∀ u ∈ z.cells, u.oneCell' = true) (h : VarK w g T cells) (hfit : o + n * s ≤ cells.length)
    (k : ∀ w' zs, zs.length = n * s → VarK w' g T (cells.take o ++ zs ++ cells.drop (o + n * s)) → Keeps w w' (one_ g) → K (.tuple #[]) w') :
    RunN P (builtin .clear #[t] ty cs [.slice (some ⟨g, o, none⟩) n c].toArray) w K := by
  obtain ⟨i, hi, z1, rfl, z3⟩ := info_one hb
  have hzl : (Builtin.zeroCells z.cells n).toList.length = n * i.size := by rw [Array.length_toList, size_zeroCells, hz]
  cases n with
  | zero =>
    refine ⟨_, w, ?_, k w [] (by simp) (by simpa using h) (Keeps.refl _ _)⟩
    show (do pure (Next.value (← Builtin.clear_ #[t] ty #[.slice (some ⟨g, o, none⟩) 0 c])) : Sem Next).run P w = _
    simp [Builtin.clear_, run_underlying ht]
  | succ n =>
    have hst := run_storeCells_at P g o T (Builtin.zeroCells z.cells (n + 1)).toList 0 cells.toArray w h (by rw [hzl]; simpa using hfit) (fun u hu => by
      have hu : u ∈ Builtin.zeroCells z.cells (n + 1) := by simpa using hu
      unfold Builtin.zeroCells at hu
      obtain ⟨j, hj, rfl⟩ := Array.mem_map.1 hu
      have hj : j < (n + 1) * z.cells.size := by simpa using hj
      have hs : 0 < z.cells.size := by
        rcases Nat.eq_zero_or_pos z.cells.size with h0 | h0
        · rw [h0] at hj; omega
        · exact h0
      rw [getElem!_pos z.cells _ (Nat.mod_lt _ hs)]
      exact h1 _ (Array.getElem_mem _))
    simp only [hzl, Nat.add_zero] at hst
    have hst : (storeCells ⟨g, o, none⟩ (Builtin.zeroCells z.cells (n + 1)).toList).run P w = .ok () (w.setRow g (cells.take o ++ (Builtin.zeroCells z.cells (n + 1)).toList ++ cells.drop (o + (n + 1) * i.size)).toArray) := hst
    have e1 : (builtin .clear #[t] ty cs [.slice (some ⟨g, o, none⟩) (n + 1) c].toArray).run P w = .ok (.value (.tuple #[])) (w.setRow g (cells.take o ++ (Builtin.zeroCells z.cells (n + 1)).toList ++ cells.drop (o + (n + 1) * i.size)).toArray) := by
      show (do pure (Next.value (← Builtin.clear_ #[t] ty #[.slice (some ⟨g, o, none⟩) (n + 1) c])) : Sem Next).run P w = _
      have hzv : (zeroValue e).run P w = .ok z w := by simp [zeroValue, typeInfo, hi, z1]
      simp [Builtin.clear_, run_underlying ht, hzv, hst]
    exact ⟨_, _, e1, k _ (Builtin.zeroCells z.cells (n + 1)).toList hzl (h.setRow _) (setRow_keeps _ _ _)⟩
end
end Go.Vc

namespace Go.Vc
open Go Go.Pw
set_option linter.unusedVariables false
theorem flatK_drop {α : Type} (f : α → List Value) (n : Nat) (hf : ∀ x, (f x).length = n) : ∀ (l : List α) (i : Nat), (l.flatMap f).drop (i * n) = (l.drop i).flatMap f
  | l, 0 => by simp
  | [], i + 1 => by simp
  | x :: r, i + 1 => by
    rw [List.flatMap_cons, Nat.succ_mul, Nat.add_comm, ← List.drop_drop, List.drop_left' (hf x), flatK_drop f n hf r i]; rfl
theorem flatK_take {α : Type} (f : α → List Value) (n : Nat) (hf : ∀ x, (f x).length = n) : ∀ (l : List α) (i : Nat), (l.flatMap f).take (i * n) = (l.take i).flatMap f
  | l, 0 => by simp
  | [], i + 1 => by simp
  | x :: r, i + 1 => by
    rw [List.flatMap_cons, List.take_append, List.take_of_length_le (by rw [hf, Nat.succ_mul]; omega), hf, show (i + 1) * n - n = i * n by rw [Nat.succ_mul]; omega, flatK_take f n hf r i]; rfl
theorem flatK_len {α : Type} (f : α → List Value) (n : Nat) (hf : ∀ x, (f x).length = n) : ∀ (l : List α), (l.flatMap f).length = l.length * n
  | [] => by simp
  | x :: r => by rw [List.flatMap_cons, List.length_append, hf, flatK_len f n hf r, List.length_cons, Nat.succ_mul]; omega
/-- A row in a block of its own, opened: nil, or its block. -/
theorem own_blockK {w : World} {B e s n : Nat} {v : Value} {xs : List Value} (h : w.ownsRow B e s v n xs) : (v = .slice none 0 0 ∧ n = 0) ∨ ∃ g cap cells, v = .slice (some ⟨g, 0, none⟩) n cap ∧ B ≤ g ∧ VarK w g e cells ∧ n ≤ cap ∧ cap ≤ maxLen ∧ cells.length = cap * s ∧ cells.take (n * s) = xs := by
  rcases h.2 with h | ⟨g, cap, cur, h1, h2, h3, h4, h5, h6, h7⟩
  · exact .inl h
  · exact .inr ⟨g, cap, cur.toList, h1, h2, by unfold VarK; simpa using h3, h4, h5, by simpa using h6, h7⟩
theorem own_ofK {w : World} {B e s n g cap : Nat} {cells xs : List Value} (hB : B ≤ g) (h : VarK w g e cells) (hn : n ≤ cap) (hc : cap ≤ maxLen) (hl : cells.length = cap * s) (hx : cells.take (n * s) = xs) (hxl : xs.length = n * s) : w.ownsRow B e s (.slice (some ⟨g, 0, none⟩) n cap) n xs :=
  ⟨hxl, .inr ⟨g, cap, cells.toArray, rfl, hB, h, hn, hc, by simpa using hl, by simpa using hx⟩⟩
theorem at_of_own {w : World} {B e s n g cap : Nat} {xs : List Value} (h : w.ownsRow B e s (.slice (some ⟨g, 0, none⟩) n cap) n xs) : At w g 0 xs := fun j u hu => by
  have := h.cells (g := g) rfl j u hu
  rw [add_none] at this; exact this
theorem VarK.cells (w : World) {g : Nat} {T : TypeId} {cells : List Value} (h : VarK w g T cells) (o : Nat) {news : List Value} (hn : ∀ j u, news[j]? = some u → cells[o + j]? = some u) : ∀ j u, news[j]? = some u → w.cell? ((⟨g, o, none⟩ : Addr).add j) = some u := fun j u hj => by
  rw [add_none]
  have := h.at (o + j) u (hn j u hj)
  simpa using this
/-- Readable from anywhere: an own row. -/
theorem own_rowO {α : Type} {w : World} {B e s : Nat} {v : Value} {cells : α → List Value} {l : List α} (h : w.ownsRow B e s v l.length (l.flatMap cells)) : RowO w v cells l := by
  rcases own_blockK h with ⟨rfl, h0⟩ | ⟨g, cap, cs, rfl, hB, hv, _⟩
  · exact ⟨none, 0, by rw [h0], fun hp => by omega⟩
  · exact ⟨some ⟨g, 0, none⟩, cap, rfl, fun _ => ⟨g, 0, rfl, hv.lt, at_of_own h⟩⟩
end Go.Vc
namespace Go.Vc
/-- Cells with others laid over them from o on. -/
def patch (cells : List Value) (o : Nat) (news : List Value) : List Value := cells.take o ++ news ++ cells.drop (o + news.length)
theorem patch_len {cells : List Value} {o : Nat} {news : List Value} (h : o + news.length ≤ cells.length) : (patch cells o news).length = cells.length := by
  unfold patch
  rw [List.length_append, List.length_append, List.length_take, List.length_drop]; omega
theorem patch_at (A T N : List Value) (o : Nat) (h : A.length = o) : patch (A ++ T) o N = A ++ N ++ T.drop N.length := by
  unfold patch
  subst h
  rw [List.take_left, List.drop_append, List.drop_of_length_le (by omega), List.nil_append, Nat.add_sub_cancel_left]
theorem VarK.shape {w : World} {g : Nat} {T : TypeId} {cells : List Value} (h : VarK w g T cells) : w.shape? g = some (T, cells.length) := by
  unfold World.shape?
  unfold VarK at h
  rw [h]; simp
end Go.Vc

-- alias Tryz
namespace Go.Proofs.YtdghfagipheabaaGreatDoor
open Go.RowKit Go.Pw Go.Vc Go.Cs Go.Lib
set_option linter.unusedVariables false
set_option maxRecDepth 100000
abbrev OwnB (w : World) (B : Nat) (v : Value) (l : List Bx) : Prop := w.ownsRow B 39 4 v l.length (l.flatMap boxCells)
theorem boxLen (b : Bx) : (boxCells b).length = 4 := rfl
theorem boxOne (b : Bx) : ∀ u ∈ boxCells b, u.oneCell' = true := fun u hu => by
  simp only [boxCells, List.mem_cons, List.not_mem_nil, or_false] at hu
  rcases hu with rfl | rfl | rfl | rfl <;> rfl
theorem boxesOne (l : List Bx) : ∀ u ∈ l.flatMap boxCells, u.oneCell' = true := fun u hu => by
  obtain ⟨b, _, hb⟩ := List.mem_flatMap.1 hu
  exact boxOne b u hb
theorem boxInfo : (Tryz.prog.info? 39).map (fun i => (i.zero, i.size, i.bytes)) = some (some (.agg #[.int .i64 0, .int .i64 0, .string ⟨#[]⟩, .string ⟨#[]⟩]), 4, 48) := by kernel_rfl
section
variable {w : World}
theorem build_b0 (w : World) : (Instr.buildSlice 22 0 [].toArray).run Tryz.prog w = .ok (.slice (some ⟨w.heap.size, 0, none⟩) 0 0) (w.alloc (.cells #[] 39)) := by
  simp [Instr.buildSlice, go_sem, Tryz.runUnderlying22]
theorem cl_Box {v : Value} (l : List Bx) (hv : RowB w v l) (hl : l.length ≤ 1000000) : Calls Tryz.prog 30 #[v] w fun e w' => ∃ v', e = .returned v' ∧ OwnB w' w.heap.size v' l ∧ Keeps w w' none_ := by
  obtain ⟨a, cap, rfl, hr⟩ := hv
  have hnil : l.length = 0 → l = [] := List.eq_nil_of_length_eq_zero
  rcases a with _ | ⟨gb, o, sp⟩
  · obtain rfl : l = [] := hnil (by
      rcases Nat.eq_zero_or_pos l.length with h | h
      · exact h
      · obtain ⟨g, o, h1, _⟩ := hr h; cases h1)
    refine calls_of_vc (args := [.slice none 0 cap]) Tryz.func30 rfl (Nat.le_of_ble_eq_true rfl) ?_; refine Sat.go hmix ?_; conv => whnf
    refine KGO ?_
    exact ⟨_, rfl, World.ownsRow_nil _ _ _ _, Keeps.refl _ _⟩
  · refine calls_of_vc (args := [.slice (some ⟨gb, o, sp⟩) l.length cap]) Tryz.func30 rfl (Nat.le_of_ble_eq_true rfl) ?_; refine Sat.go hmix ?_; conv => whnf
    refine KGO ?_
    refine RunV.of (build_b0 _) ?_
    have o1 : (w.alloc (.cells #[] 39)).ownsRow w.heap.size 39 4 (.slice (some ⟨w.heap.size, 0, none⟩) 0 0) 0 [] := World.ownsRow_made w #[] 0 (Nat.le_refl _) (by decide) (by simp)
    have k1 : Keeps w (w.alloc (.cells #[] 39)) none_ := (Keeps.refl _ _).alloc _
    have hB : w.heap.size ≤ (w.alloc (.cells #[] 39)).heap.size := k1.size
    generalize w.alloc (.cells #[] 39) = w1 at *
    refine KGO ?_
    have hnews : ∀ j u, (l.flatMap boxCells)[j]? = some u → w1.cell? ((⟨gb, o, sp⟩ : Addr).add j) = some u := fun j u hj => by
      rcases Nat.eq_zero_or_pos l.length with h | h
      · rw [hnil h] at hj; simp at hj
      · obtain ⟨g', o', h1, _, h3⟩ := hr h
        injection h1 with h1
        injection h1 with h4 h5 h6
        subst h4; subst h5; subst h6
        rw [add_none]
        exact cell_mono (h3 j u hj) k1
    refine RunN.app Tryz.underlying22 boxInfo rfl (by decide) o1 hB ⟨gb, o, sp⟩ l.length cap (l.flatMap boxCells) (flatK_len boxCells 4 boxLen l) hnews (boxesOne l) (by omega) (by omega) fun v' w' h2 h3 => ?_
    obtain ⟨a', c', rfl⟩ : ∃ a c, v' = .slice a (0 + l.length) c := own_shape h2
    refine KGO ?_
    refine ⟨_, rfl, ?_, k1.own o1 (Nat.le_refl _) h3⟩
    rw [List.nil_append, Nat.zero_add] at h2
    rw [Nat.zero_add]
    exact h2
end
end Go.Proofs.YtdghfagipheabaaGreatDoor
