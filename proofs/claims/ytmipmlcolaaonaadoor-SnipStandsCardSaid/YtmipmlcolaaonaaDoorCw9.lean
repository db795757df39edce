/- Helper text of this claim: Cw9: lemmas and contracts that the proved statement rests on; no conditions of its own. -/
import Derived.Test.YtmipmlcolaaonaaDoorCw8
import Derived.Test.YtmipmlcolaaonaaDoorWcz
-- alias Tryd
namespace Go.Proofs.YtmipmlcolaaonaaDoor
open Go.RowKit Go.Pw Go.Vc Go.Cs Go.Lib
set_option linter.unusedVariables false
set_option maxRecDepth 100000
section
variable {w : World}
def sW : List Wd := [([97, 98], 0, 2), ([99, 57], 3, 5), ([228, 184, 173], 6, 9), ([230, 150, 135], 9, 12), ([120], 13, 14)]
theorem wrd0 (w : World) (hC : CutTab w) (hF : FoldTab w) : Calls Tryd.prog 36 #[.string ⟨#[65, 98, 45, 99, 57, 32, 228, 184, 173, 230, 150, 135, 255, 120]⟩] w fun e w' => ∃ v, e = .returned v ∧ Wds w' w.heap.size v sW ∧ Keeps w w' none_ := by
  have h := cut_Words (w := w) ⟨#[65, 98, 45, 99, 57, 32, 228, 184, 173, 230, 150, 135, 255, 120]⟩ hC hF (by decide)
  rw [show wordsL (L ⟨#[65, 98, 45, 99, 57, 32, 228, 184, 173, 230, 150, 135, 255, 120]⟩) = sW by decide +kernel] at h
  exact h
theorem wrd1 (w : World) (hC : CutTab w) (hF : FoldTab w) : Calls Tryd.prog 36 #[.string ⟨#[]⟩] w fun e w' => ∃ v, e = .returned v ∧ Wds w' w.heap.size v [] ∧ Keeps w w' none_ := by
  have h := cut_Words (w := w) ⟨#[]⟩ hC hF (by decide)
  rw [show wordsL (L ⟨#[]⟩) = [] by decide +kernel] at h
  exact h
theorem lst0 (w : World) (hC : CutTab w) (hF : FoldTab w) : Calls Tryd.prog 39 #[.string ⟨#[97, 95, 195, 132, 98]⟩] w fun e w' => ∃ v, e = .returned v ∧ Txs w' w.heap.size v [[97], [195, 164, 98]] ∧ Keeps w w' none_ := by
  have h := cut_List (w := w) ⟨#[97, 95, 195, 132, 98]⟩ hC hF (by decide)
  rw [show listL (L ⟨#[97, 95, 195, 132, 98]⟩) = [[97], [195, 164, 98]] by decide +kernel] at h
  exact h
theorem knd (r : Int) (k : Nat) (h : kindI r = k) (w : World) (hC : CutTab w) : Calls Tryd.prog 33 #[.int .i64 r] w fun e w' => e = .returned (.int .i64 (k : Nat)) ∧ Keeps w w' none_ := by
  subst h; exact cut_Kind r hC
theorem build_words5 (w : World) : (Instr.buildSlice 34 5 [(0, .agg #[.string ⟨#[97, 98]⟩, .int .i64 0, .int .i64 2]), (1, .agg #[.string ⟨#[99, 57]⟩, .int .i64 3, .int .i64 5]), (2, .agg #[.string ⟨#[228, 184, 173]⟩, .int .i64 6, .int .i64 9]), (3, .agg #[.string ⟨#[230, 150, 135]⟩, .int .i64 9, .int .i64 12]), (4, .agg #[.string ⟨#[120]⟩, .int .i64 13, .int .i64 14])].toArray).run Tryd.prog w =
    .ok (.slice (some ⟨w.heap.size, 0, none⟩) 5 5) (w.alloc (.cells (sW.flatMap wordCells).toArray 41)) := by
  simp [Instr.buildSlice, go_sem, Tryd.runUnderlying34, sW, wordCells, str]
theorem build_texts2 (w : World) : (Instr.buildSlice 37 2 [(0, .string ⟨#[97]⟩), (1, .string ⟨#[195, 164, 98]⟩)].toArray).run Tryd.prog w =
    .ok (.slice (some ⟨w.heap.size, 0, none⟩) 2 2) (w.alloc (.cells #[.string ⟨#[97]⟩, .string ⟨#[195, 164, 98]⟩] 9)) := by
  simp [Instr.buildSlice, go_sem, Tryd.runUnderlying37]
theorem new_rd (w : World) (xs : List Value) (T : TypeId) (n c : Nat) : Rd (w.alloc (.cells xs.toArray T)) (.slice (some ⟨w.heap.size, 0, none⟩) n c) n xs :=
  ⟨_, _, rfl, fun _ => ⟨w.heap.size, rfl, by simp, at_cells (heap_alloc_new w (.cells xs.toArray T))⟩⟩
set_option maxHeartbeats 4000000 in
theorem law32_small (hC : CutTab w) (hF : FoldTab w) : Calls Tryd.prog 32 #[] w fun e w' => e = .returned (.bool true) ∧ Keeps w w' none_ := by
  refine calls_of_vc (args := []) Tryd.func32 rfl (Nat.le_of_ble_eq_true rfl) ?_; refine Sat.go hmix ?_; conv => whnf
  refine GO ?_
  refine CallS.of (Tryd.call36 _ _) (wrd0 _ hC hF) ?_
  rintro e w1 ⟨v, rfl, hW, k1⟩
  have R1 := own_rd hW
  obtain ⟨a, cap, rfl, _⟩ := own_rd hW
  refine ⟨_, rfl, ?_⟩; (first | refine Then.go hmix ?_ | refine Sat.go hmix ?_ | refine ResK.go ?_ | skip); conv => whnf
  (first | refine Then.go hmix ?_ | refine Sat.go hmix ?_ | refine ResK.go ?_ | skip); conv => whnf
  refine RunV.of (build_word _ _ _ _) ?_
  (first | refine Then.go hmix ?_ | refine Sat.go hmix ?_ | refine ResK.go ?_ | skip); conv => whnf
  refine RunV.of (build_word _ _ _ _) ?_
  (first | refine Then.go hmix ?_ | refine Sat.go hmix ?_ | refine ResK.go ?_ | skip); conv => whnf
  refine RunV.of (build_word _ _ _ _) ?_
  (first | refine Then.go hmix ?_ | refine Sat.go hmix ?_ | refine ResK.go ?_ | skip); conv => whnf
  refine RunV.of (build_word _ _ _ _) ?_
  (first | refine Then.go hmix ?_ | refine Sat.go hmix ?_ | refine ResK.go ?_ | skip); conv => whnf
  refine RunV.of (build_word _ _ _ _) ?_
  (first | refine Then.go hmix ?_ | refine Sat.go hmix ?_ | refine ResK.go ?_ | skip); conv => whnf
  refine RunV.of (build_words5 _) ?_
  have R2 := new_rd w1 (sW.flatMap wordCells) 41 5 5
  have k2 : Keeps w1 (w1.alloc (.cells (sW.flatMap wordCells).toArray 41)) none_ := (Keeps.refl _ _).alloc _
  have R1' := R1.keep k2
  generalize w1.alloc (.cells (sW.flatMap wordCells).toArray 41) = w2 at *
  have K2 := k1.trans0 k2
  (first | refine Then.go hmix ?_ | refine Sat.go hmix ?_ | refine ResK.go ?_ | skip); conv => whnf
  refine CallS.of (Tryd.call35 _ _) (ref_Same (w := w2) (la := sW) (lb := sW) R1' R2 (by decide) (by decide)) ?_
  rintro e w3 ⟨rfl, k3⟩
  rw [show decide (sW = sW) = true by simp]
  have K3 := K2.trans0 k3
  refine ⟨_, rfl, ?_⟩; (first | refine Then.go hmix ?_ | refine Sat.go hmix ?_ | refine ResK.go ?_ | skip); conv => whnf
  refine LGO ?_
  refine CallS.of (Tryd.call39 _ _) (lst0 _ (hC.keep K3) (hF.keep K3)) ?_
  rintro e w4 ⟨v, rfl, hT, k4⟩
  have K4 := K3.trans0 k4
  have T1 := own_rd hT
  obtain ⟨a4, cap4, rfl, _⟩ := own_rd hT
  refine ⟨_, rfl, ?_⟩; (first | refine Then.go hmix ?_ | refine Sat.go hmix ?_ | refine ResK.go ?_ | skip); conv => whnf
  refine LGO ?_
  refine RunV.of (build_texts2 _) ?_
  have T2 := new_rd w4 ([[97], [195, 164, 98]].map sv) 9 2 2
  have k5 : Keeps w4 (w4.alloc (.cells #[.string ⟨#[97]⟩, .string ⟨#[195, 164, 98]⟩] 9)) none_ := (Keeps.refl _ _).alloc _
  have T1' := T1.keep k5
  have T2 : Rd (w4.alloc (.cells #[.string ⟨#[97]⟩, .string ⟨#[195, 164, 98]⟩] 9)) (.slice (some ⟨w4.heap.size, 0, none⟩) 2 2) 2 ([[97], [195, 164, 98]].map sv) := T2
  generalize w4.alloc (.cells #[.string ⟨#[97]⟩, .string ⟨#[195, 164, 98]⟩] 9) = w5 at *
  have K5 := K4.trans0 k5
  refine LGO ?_
  refine CallS.of (Tryd.call38 _ _) (ref_SameTexts (w := w5) (la := [[97], [195, 164, 98]]) (lb := [[97], [195, 164, 98]]) T1' T2 (by decide) (by decide)) ?_
  rintro e w6 ⟨rfl, k6⟩
  rw [show decide (([[97], [195, 164, 98]] : List (List UInt8)) = [[97], [195, 164, 98]]) = true by simp]
  have K6 := K5.trans0 k6
  refine ⟨_, rfl, ?_⟩; (first | refine Then.go hmix ?_ | refine Sat.go hmix ?_ | refine ResK.go ?_ | skip); conv => whnf
  refine LGO ?_
  refine CallS.of (Tryd.call33 _ _) (knd 97 1 (by decide +kernel) w6 (hC.keep K6)) ?_
  rintro e w7 ⟨rfl, k7⟩
  have K7 := K6.trans0 k7
  refine ⟨_, rfl, ?_⟩; (first | refine Then.go hmix ?_ | refine Sat.go hmix ?_ | refine ResK.go ?_ | skip); conv => whnf
  refine LGO ?_
  refine CallS.of (Tryd.call33 _ _) (knd 45 0 (by decide +kernel) w7 (hC.keep K7)) ?_
  rintro e w8 ⟨rfl, k8⟩
  have K8 := K7.trans0 k8
  refine ⟨_, rfl, ?_⟩; (first | refine Then.go hmix ?_ | refine Sat.go hmix ?_ | refine ResK.go ?_ | skip); conv => whnf
  refine LGO ?_
  refine CallS.of (Tryd.call33 _ _) (knd 215 0 (by decide +kernel) w8 (hC.keep K8)) ?_
  rintro e w9 ⟨rfl, k9⟩
  have K9 := K8.trans0 k9
  refine ⟨_, rfl, ?_⟩; (first | refine Then.go hmix ?_ | refine Sat.go hmix ?_ | refine ResK.go ?_ | skip); conv => whnf
  refine LGO ?_
  refine CallS.of (Tryd.call33 _ _) (knd 20013 2 (by decide +kernel) w9 (hC.keep K9)) ?_
  rintro e w10 ⟨rfl, k10⟩
  have K10 := K9.trans0 k10
  refine ⟨_, rfl, ?_⟩; (first | refine Then.go hmix ?_ | refine Sat.go hmix ?_ | refine ResK.go ?_ | skip); conv => whnf
  refine LGO ?_
  refine CallS.of (Tryd.call33 _ _) (knd (-1) 0 (by decide +kernel) w10 (hC.keep K10)) ?_
  rintro e w11 ⟨rfl, k11⟩
  have K11 := K10.trans0 k11
  refine ⟨_, rfl, ?_⟩; (first | refine Then.go hmix ?_ | refine Sat.go hmix ?_ | refine ResK.go ?_ | skip); conv => whnf
  refine LGO ?_
  refine CallS.of (Tryd.call36 _ _) (wrd1 _ (hC.keep K11) (hF.keep K11)) ?_
  rintro e w12 ⟨v, rfl, hE, k12⟩
  have K12 := K11.trans0 k12
  obtain ⟨ae, cape, rfl⟩ : ∃ a c, v = .slice a 0 c := own_shape hE
  refine ⟨_, rfl, ?_⟩; (first | refine Then.go hmix ?_ | refine Sat.go hmix ?_ | refine ResK.go ?_ | skip); conv => whnf
  refine LGO ?_
  exact ⟨rfl, K12⟩
end
end Go.Proofs.YtmipmlcolaaonaaDoor
