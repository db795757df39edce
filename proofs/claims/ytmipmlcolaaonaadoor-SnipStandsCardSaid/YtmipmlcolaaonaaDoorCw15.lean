/- Helper text of this claim: Cw15: lemmas and contracts that the proved statement rests on; no conditions of its own. -/
import Derived.Test.YtmipmlcolaaonaaDoorCr7
import Derived.Test.YtmipmlcolaaonaaDoorCw9
import Derived.Test.YtmipmlcolaaonaaDoorWcz
-- alias Tryd
namespace Go.Proofs.YtmipmlcolaaonaaDoor
open Go.RowKit Go.Pw Go.Vc Go.Cs Go.Lib
set_option linter.unusedVariables false
set_option maxRecDepth 100000
section
variable {w : World}
set_option maxHeartbeats 2000000 in
theorem ref_List32 (s : ByteArray) (hs : s.size ≤ 10000000) : Calls Tryd.prog 40 #[.string s] w fun e w' => ∃ v, e = .returned v ∧ Txs w' w.heap.size v (listL (L s)) ∧ Keeps w w' none_ := by
  have hLs : (L s).length = s.size := by simp [L]
  have hwl := wordsL_len (L s)
  refine calls_of_vc (args := [.string s]) Tryd.func40 rfl (Nat.le_of_ble_eq_true rfl) ?_; refine Sat.go hmix ?_; conv => whnf
  refine GO ?_
  refine CallS.of (Tryd.call37 _ _) (ref_Words32 s hs) ?_
  rintro e w1 ⟨v, rfl, hW, k1⟩
  unfold listL
  generalize wordsL (L s) = W at *
  obtain ⟨a, cap, rfl, hr⟩ := own_rd hW
  refine ⟨_, rfl, ?_⟩; (first | refine Then.go hmix ?_ | refine Sat.go hmix ?_ | refine ResK.go ?_ | skip); conv => whnf
  refine GO ?_
  refine Loop.intro (ι := Nat × Option Addr × Nat × List (List UInt8)) (fun i => [(3, .slice a W.length cap), (4, .slice i.2.1 i.2.2.2.length i.2.2.1), (5, .int .i64 (i.1 : Nat))])
    (fun i wr => Keeps w1 wr none_ ∧ i.1 ≤ W.length ∧ i.2.2.2 = (W.take i.1).map (·.1) ∧ Txs wr w1.heap.size (.slice i.2.1 i.2.2.2.length i.2.2.1) i.2.2.2) (fun i => W.length - i.1) (0, none, 0, []) ⟨rfl, rfl, rfl, trivial⟩
    ⟨Keeps.refl _ _, Nat.zero_le _, rfl, ?_⟩ ?_
  · exact World.ownsRow_nil _ _ _ _
  rintro ⟨i, va, vc, l⟩ gg wr ⟨hK1, hi, hl, hT⟩
  dsimp only at hi hl hT ⊢
  have hll : l.length = i := by rw [hl]; simp; omega
  (first | refine Then.go hmix ?_ | refine Sat.go hmix ?_ | refine ResK.go ?_ | skip); conv => whnf
  by_cases hlt : i < W.length
  · obtain ⟨g1, rfl, b1, h1⟩ := hr (by omega)
    have c1 : wr.cell? ⟨g1, 0 + i * 3, none⟩ = some (.string (str W[i].1)) := at_word (at_keep h1 hK1) hlt 0 _ rfl
    refine GO ?_
    refine RunV.of (build_text _ _) ?_
    (first | refine Then.go hmix ?_ | refine Sat.go hmix ?_ | refine ResK.go ?_ | skip); conv => whnf
    refine app_text hT hK1.size W[i].1 (by omega) fun v' w3 h3 g3 => ?_
    obtain ⟨a3, c3, rfl⟩ : ∃ a c, v' = .slice a (l ++ [W[i].1]).length c := own_shape h3
    refine GO ?_
    have K3 : Keeps w1 w3 none_ := (hK1.alloc _).own (own_keep0 hT ((Keeps.refl _ _).alloc _)) (Nat.le_refl _) g3
    exact ⟨(i + 1, a3, c3, l ++ [W[i].1]), ⟨rfl, rfl, v_int (by simp), trivial⟩, ⟨K3, by dsimp only; omega, by dsimp only; rw [List.take_succ_eq_append_getElem hlt, List.map_append, hl]; rfl, h3⟩, by dsimp only; omega⟩
  · refine GO ?_
    have e : i = W.length := by omega
    rw [e, List.take_length] at hl
    refine ⟨_, rfl, ?_, k1.trans0 hK1⟩
    rw [← hl]
    exact own_base hT k1.size
set_option maxHeartbeats 4000000 in
theorem tells32_walk (r : Int) (s : ByteArray) (hr : -9223372036854775808 ≤ r ∧ r ≤ 9223372036854775807) (hC : CutTab w) (hF : FoldTab w) : Calls Tryd.prog 8 #[.int .i64 r, .string s] w fun e w' => e = .returned (.bool true) ∧ Keeps w w' none_ := by
  refine calls_of_vc (args := [.int .i64 r, .string s]) Tryd.func8 rfl (Nat.le_of_ble_eq_true rfl) ?_; refine Sat.go hmix ?_; conv => whnf
  refine CallS.of (Tryd.call32 _ _) (law32_small hC hF) ?_
  rintro e w1 ⟨rfl, k1⟩
  refine ⟨_, rfl, ?_⟩; (first | refine Then.go hmix ?_ | refine Sat.go hmix ?_ | refine ResK.go ?_ | skip); conv => whnf
  by_cases hs : 5000 < s.size
  · refine GO ?_
    exact ⟨rfl, k1⟩
  refine GO ?_
  refine CallS.of (Tryd.call33 _ _) (cut_Kind r (hC.keep k1)) ?_
  rintro e w2 ⟨rfl, k2⟩
  have K2 := k1.trans0 k2
  refine ⟨_, rfl, ?_⟩; (first | refine Then.go hmix ?_ | refine Sat.go hmix ?_ | refine ResK.go ?_ | skip); conv => whnf
  refine GO ?_
  refine CallS.of (Tryd.call34 _ _) (ref_Kind32 r w2) ?_
  rintro e w2' ⟨rfl, rfl⟩
  refine ⟨_, rfl, ?_⟩; (first | refine Then.go hmix ?_ | refine Sat.go hmix ?_ | refine ResK.go ?_ | skip); conv => whnf
  refine GO ?_
  refine CallS.of (Tryd.call36 _ _) (cut_Words s (hC.keep K2) (hF.keep K2) (by omega)) ?_
  rintro e w3 ⟨va, rfl, hA, k3⟩
  have K3 := K2.trans0 k3
  have hwl := wordsL_len (L s)
  rw [L_len] at hwl
  have RA := own_rd hA
  obtain ⟨aa, ca, rfl, _⟩ := own_rd hA
  refine ⟨_, rfl, ?_⟩; (first | refine Then.go hmix ?_ | refine Sat.go hmix ?_ | refine ResK.go ?_ | skip); conv => whnf
  refine GO ?_
  refine CallS.of (Tryd.call37 _ _) (ref_Words32 s (by omega)) ?_
  rintro e w4 ⟨vb, rfl, hB, k4⟩
  have K4 := K3.trans0 k4
  have RB := own_rd hB
  have RA4 := RA.keep k4
  obtain ⟨ab, cb, rfl, _⟩ := own_rd hB
  refine ⟨_, rfl, ?_⟩; (first | refine Then.go hmix ?_ | refine Sat.go hmix ?_ | refine ResK.go ?_ | skip); conv => whnf
  refine GO ?_
  refine CallS.of (Tryd.call35 _ _) (ref_Same (w := w4) RA4 RB (by omega) (by omega)) ?_
  rintro e w5 ⟨rfl, k5⟩
  rw [show decide (wordsL (L s) = wordsL (L s)) = true by simp]
  have K5 := K4.trans0 k5
  refine ⟨_, rfl, ?_⟩; (first | refine Then.go hmix ?_ | refine Sat.go hmix ?_ | refine ResK.go ?_ | skip); conv => whnf
  refine GO ?_
  refine CallS.of (Tryd.call39 _ _) (cut_List s (hC.keep K5) (hF.keep K5) (by omega)) ?_
  rintro e w6 ⟨vc, rfl, hT, k6⟩
  have K6 := K5.trans0 k6
  have RT := own_rd hT
  obtain ⟨at_, ct, rfl, _⟩ := own_rd hT
  refine ⟨_, rfl, ?_⟩; (first | refine Then.go hmix ?_ | refine Sat.go hmix ?_ | refine ResK.go ?_ | skip); conv => whnf
  refine GO ?_
  refine CallS.of (Tryd.call40 _ _) (ref_List32 s (by omega)) ?_
  rintro e w7 ⟨vd, rfl, hU, k7⟩
  have K7 := K6.trans0 k7
  have RU := own_rd hU
  have RT7 := RT.keep k7
  obtain ⟨au, cu, rfl, _⟩ := own_rd hU
  have hll : (listL (L s)).length ≤ 1000000000 := by unfold listL; rw [List.length_map]; omega
  refine ⟨_, rfl, ?_⟩; (first | refine Then.go hmix ?_ | refine Sat.go hmix ?_ | refine ResK.go ?_ | skip); conv => whnf
  refine GO ?_
  refine CallS.of (Tryd.call38 _ _) (ref_SameTexts (w := w7) RT7 RU hll hll) ?_
  rintro e w8 ⟨rfl, k8⟩
  rw [show decide (listL (L s) = listL (L s)) = true by simp]
  refine ⟨_, rfl, ?_⟩; (first | refine Then.go hmix ?_ | refine Sat.go hmix ?_ | refine ResK.go ?_ | skip); conv => whnf
  refine GO ?_
  exact ⟨rfl, K7.trans0 k8⟩
end
end Go.Proofs.YtmipmlcolaaonaaDoor
