/- Helper text of this claim: Cw8: lemmas and contracts that the proved statement rests on; no conditions of its own. -/
import Derived.Test.YtmipmlcolaaonaaDoorCw7
import Derived.Test.YtmipmlcolaaonaaDoorWcz
-- alias Tryd
namespace Go.Proofs.YtmipmlcolaaonaaDoor
open Go.RowKit Go.Pw Go.Vc Go.Cs Go.Lib
set_option linter.unusedVariables false
set_option maxRecDepth 100000
def listL (l : List UInt8) : List (List UInt8) := (wordsL l).map (·.1)
theorem wordFlat (x : Wd) : ∀ v ∈ wordCells x, Flat v := by
  intro v hv
  simp only [wordCells, List.mem_cons, List.not_mem_nil, or_false] at hv
  rcases hv with rfl | rfl | rfl <;> trivial
set_option maxHeartbeats 2000000 in
theorem cut_List {w : World} (s : ByteArray) (hC : CutTab w) (hF : FoldTab w) (hs : s.size ≤ 10000000) : Calls Tryd.prog 39 #[.string s] w fun e w' => ∃ v, e = .returned v ∧ Txs w' w.heap.size v (listL (L s)) ∧ Keeps w w' none_ := by
  have hLs : (L s).length = s.size := by simp [L]
  have hwl := wordsL_len (L s)
  refine calls_of_vc (args := [.string s]) Tryd.func39 rfl (Nat.le_of_ble_eq_true rfl) ?_; refine Sat.go hmix ?_; conv => whnf
  refine GO ?_
  refine CallS.of (Tryd.call36 _ _) (cut_Words s hC hF hs) ?_
  rintro e w1 ⟨v, rfl, hW, k1⟩
  unfold listL
  generalize wordsL (L s) = W at *
  obtain ⟨a, cap, rfl, hr⟩ := own_rd hW
  refine ⟨_, rfl, ?_⟩; (first | refine Then.go hmix ?_ | refine Sat.go hmix ?_ | refine ResK.go ?_ | skip); conv => whnf
  refine GO ?_
  refine Loop.intro (ι := Nat × Option Addr × Nat × List (List UInt8)) (fun i => [(3, .slice i.2.1 i.2.2.2.length i.2.2.1), (7, .slice a W.length cap), (8, .int .i64 (W.length : Nat)), (9, .int .i64 (i.1 : Nat))])
    (fun i wr => Keeps w1 wr none_ ∧ i.1 ≤ W.length ∧ i.2.2.2 = (W.take i.1).map (·.1) ∧ Txs wr w1.heap.size (.slice i.2.1 i.2.2.2.length i.2.2.1) i.2.2.2) (fun i => W.length - i.1) (0, none, 0, []) ⟨rfl, rfl, rfl, rfl, trivial⟩
    ⟨Keeps.refl _ _, Nat.zero_le _, rfl, ?_⟩ ?_
  · exact World.ownsRow_nil _ _ _ _
  rintro ⟨i, va, vc, l⟩ gg wr ⟨hK1, hi, hl, hT⟩
  dsimp only at hi hl hT ⊢
  have hll : l.length = i := by rw [hl]; simp; omega
  (first | refine Then.go hmix ?_ | refine Sat.go hmix ?_ | refine ResK.go ?_ | skip); conv => whnf
  by_cases hlt : i < W.length
  · obtain ⟨g1, rfl, b1, h1⟩ := hr (by omega)
    have c1 := at_word (at_keep h1 hK1) hlt
    refine GO ?_
    refine Load.agg (wordCells W[i]) (by rfl) (by rfl) (by rfl) c1 ?_
    refine GO ?_
    refine Store.fresh (vs := wordCells W[i]) (by rfl) rfl (wordFlat _) ?_
    have c2 : (wr.alloc (.cells (wordCells W[i]).toArray 41)).cell? ⟨wr.heap.size, 0, none⟩ = some (.string (str W[i].1)) := by
      exact new_cells wr (wordCells W[i]).toArray 41 0 (.string (str W[i].1)) rfl
    have k2 : Keeps wr (wr.alloc (.cells (wordCells W[i]).toArray 41)) none_ := (Keeps.refl _ _).alloc _
    generalize wr.alloc (.cells (wordCells W[i]).toArray 41) = w2 at *
    refine GO ?_
    refine RunV.of (build_text _ _) ?_
    (first | refine Then.go hmix ?_ | refine Sat.go hmix ?_ | refine ResK.go ?_ | skip); conv => whnf
    have hT2 : Txs w2 w1.heap.size (.slice va l.length vc) l := own_keep0 hT k2
    refine app_text hT2 (Nat.le_trans hK1.size k2.size) W[i].1 (by omega) fun v' w3 h3 g3 => ?_
    obtain ⟨a3, c3, rfl⟩ : ∃ a c, v' = .slice a (l ++ [W[i].1]).length c := own_shape h3
    refine GO ?_
    have K3 : Keeps w1 w3 none_ := ((hK1.trans0 k2).alloc _).own (own_keep0 hT2 ((Keeps.refl _ _).alloc _)) (Nat.le_refl _) g3
    exact ⟨(i + 1, a3, c3, l ++ [W[i].1]), ⟨rfl, rfl, rfl, v_int (by simp), trivial⟩, ⟨K3, by dsimp only; omega, by dsimp only; rw [List.take_succ_eq_append_getElem hlt, List.map_append, hl]; rfl, h3⟩, by dsimp only; omega⟩
  · refine GO ?_
    have e : i = W.length := by omega
    rw [e, List.take_length] at hl
    refine ⟨_, rfl, ?_, k1.trans0 hK1⟩
    rw [← hl]
    exact own_base hT k1.size
end Go.Proofs.YtmipmlcolaaonaaDoor
