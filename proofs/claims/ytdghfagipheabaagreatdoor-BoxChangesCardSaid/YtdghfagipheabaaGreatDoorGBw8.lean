/- Helper text of this claim: Bw8, Bw9, Bw10: lemmas and contracts that the proved statement rests on; no conditions of its own. -/
import Derived.Test.YtdghfagipheabaaGreatDoorGBw5
-- alias Tryz
namespace Go.Proofs.YtdghfagipheabaaGreatDoor
open Go.RowKit Go.Pw Go.Vc Go.Cs Go.Lib
set_option linter.unusedVariables false
set_option maxRecDepth 100000
section
variable {w : World}
theorem nil_cut {f : Fr} {x : Operand} (w : World) (hx : ev f x = .int .i64 0 := by rfl) : (Instr.sliceAt 22 (.slice none 0 0) ((some x).map (ev f)) none none).run Tryz.prog w = .ok (.slice none 0 0) w := by
  obtain ⟨i, hi, _, hs, _⟩ := info_one boxInfo
  simp [Instr.sliceAt, hx, Instr.slice, Instr.sliceBounds, go_sem, und_ok Tryz.underlying22, size_ok hi]
theorem ov_Box {vb g o n c : Nat} {cells : List Value} {b : Bx} (hvb : VarK w vb 39 (boxCells b)) (hv : VarK w g 39 cells) (hne : vb ≠ g) (h0 : cells.length ≠ 0) :
    (callFunc 56 #[.slice (some ⟨vb, 0, none⟩) 1 1, .slice (some ⟨g, o, none⟩) n c]).run Tryz.prog w = .ok (.value (.bool false)) w := by
  have hsz : ∀ w, (Go.sizeOf 39).run Tryz.prog w = .ok 4 w := fun w => by
    obtain ⟨i, hi, _, hs, _⟩ := info_one boxInfo
    rw [size_ok hi, hs]
  rw [run_callFunc_extern Tryz.func56 (by kernel_rfl) (by kernel_rfl) (by kernel_rfl) (e := Extern.SlicesOverlaps.overlaps #[22, 22] #[4]) (by kernel_rfl),
    Lib.run_overlaps_apart w 22 4 39 Tryz.underlying22 4 hsz ⟨vb, 0, none⟩ ⟨g, o, none⟩ 1 1 n c hne _ _ _ _ hvb.shape hv.shape h0 (hvb.frozen 0) (hvb.frozen _)]
  rfl
set_option maxHeartbeats 4000000 in
theorem ins_Box {v : Value} {B vb : Nat} (l : List Bx) (i : Nat) (b : Bx) (ho : OwnB w B v l) (hB : B ≤ w.heap.size) (hi : i ≤ l.length) (hl : l.length ≤ 1000) (hvb : VarK w vb 39 (boxCells b)) (hne : ∀ g, v.ownBlock = some g → g ≠ vb) :
    Calls Tryz.prog 29 #[v, .int .i64 (i : Nat), .slice (some ⟨vb, 0, none⟩) 1 1] w fun e w' => ∃ v', e = .returned v' ∧ OwnB w' B v' (l.take i ++ b :: l.drop i) ∧ Keeps w w' (fun k => B ≤ k) := by
  have hlenK := flatK_len boxCells 4 boxLen
  have htkK := flatK_take boxCells 4 boxLen
  have hdrK := flatK_drop boxCells 4 boxLen
  have hnews : ∀ j u, (boxCells b)[j]? = some u → w.cell? ((⟨vb, 0, none⟩ : Addr).add j) = some u := hvb.cells w 0 fun j u h => by simpa using h
  by_cases hin : i = l.length
  · subst hin
    have hend : ∀ v' w', w'.ownsRow B 39 4 v' (l.length + 1) (l.flatMap boxCells ++ boxCells b) → w.grownBy w' v.ownBlock → OwnB w' B v' (l.take l.length ++ b :: l.drop l.length) ∧ Keeps w w' (fun k => B ≤ k) := fun v' w' h1 h2 => by
      rw [List.take_length, List.drop_length]
      refine ⟨?_, ⟨h2.os, h2.tape, h2.output, h2.size, fun k hk hn => h2.block k hk fun e => hn (ho.lt k e.symm).1⟩⟩
      unfold OwnB
      rw [List.length_append, List.flatMap_append]
      simpa using h1
    have happ : ∀ {K : Value → World → Prop} {cs : Array Bool}, (∀ v' w', w'.ownsRow B 39 4 v' (l.length + 1) (l.flatMap boxCells ++ boxCells b) → w.grownBy w' v.ownBlock → K v' w') → RunN Tryz.prog (builtin .append #[22, 22] 22 cs [v, .slice (some ⟨vb, 0, none⟩) 1 1].toArray) w K := fun k =>
      RunN.app Tryz.underlying22 boxInfo rfl (by decide) ho hB ⟨vb, 0, none⟩ 1 1 (boxCells b) rfl hnews (boxOne b) (by omega) (by omega) k
    rcases own_blockK ho with ⟨rfl, h0⟩ | ⟨g, cap, cells, rfl, hBg, hv, hnc, hcm, hcl, htk⟩
    · rw [h0] at *
      refine calls_of_vc (args := [.slice none 0 0, .int .i64 (0 : Nat), .slice (some ⟨vb, 0, none⟩) 1 1]) Tryz.func29 rfl (Nat.le_of_ble_eq_true rfl) ?_; refine Sat.go hmix ?_; conv => whnf
      refine RunV.of (v := .slice none 0 0) (w' := w) (nil_cut _) ?_
      refine KGO ?_
      refine happ fun v' w' h1 h2 => ?_
      obtain ⟨q1, q2⟩ := hend v' w' h1 h2
      obtain ⟨a', c', rfl⟩ := own_shape h1
      refine KGO ?_
      exact ⟨_, rfl, q1, q2⟩
    · refine calls_of_vc (args := [.slice (some ⟨g, 0, none⟩) l.length cap, .int .i64 (l.length : Nat), .slice (some ⟨vb, 0, none⟩) 1 1]) Tryz.func29 rfl (Nat.le_of_ble_eq_true rfl) ?_; refine Sat.go hmix ?_; conv => whnf
      refine KGO ?_
      refine happ fun v' w' h1 h2 => ?_
      obtain ⟨q1, q2⟩ := hend v' w' h1 h2
      obtain ⟨a', c', rfl⟩ := own_shape h1
      refine KGO ?_
      exact ⟨_, rfl, q1, q2⟩
  · rcases own_blockK ho with ⟨rfl, h0⟩ | ⟨g, cap, cells, rfl, hBg, hv, hnc, hcm, hcl, htk⟩
    · omega
    have hgvb : g ≠ vb := hne g rfl
    have hcells : cells = (l.take i).flatMap boxCells ++ ((l.drop i).flatMap boxCells ++ cells.drop (l.length * 4)) := by
      conv => lhs; rw [← List.take_append_drop (l.length * 4) cells, htk, ← List.take_append_drop (i * 4) (l.flatMap boxCells), htkK, hdrK]
      rw [List.append_assoc]
    have hA : ((l.take i).flatMap boxCells).length = i * 4 := by rw [hlenK, List.length_take, Nat.min_eq_left hi]
    have hD : ((l.drop i).flatMap boxCells).length = (l.length - i) * 4 := by rw [hlenK, List.length_drop]
    have hres : ((l.take i ++ b :: l.drop i).flatMap boxCells) = (l.take i).flatMap boxCells ++ boxCells b ++ (l.drop i).flatMap boxCells := by
      rw [List.flatMap_append, List.flatMap_cons, List.append_assoc]
    have hresl : (l.take i ++ b :: l.drop i).length = l.length + 1 := by rw [List.length_append, List.length_cons, List.length_take, List.length_drop]; omega
    have hsrcD : ∀ (w' : World), VarK w' g 39 cells → ∀ j u, ((l.drop i).flatMap boxCells)[j]? = some u → w'.cell? ((⟨g, 0 + i * 4, none⟩ : Addr).add j) = some u := fun w' h => h.cells w' _ fun j u hj => by
      rw [hcells, Nat.zero_add, List.getElem?_append_right (by omega), hA, Nat.add_sub_cancel_left, List.getElem?_append_left (by
        have := (List.getElem?_eq_some_iff.1 hj).1; exact this)]
      exact hj
    generalize hAe : (l.take i).flatMap boxCells = A at *
    generalize hDe : (l.drop i).flatMap boxCells = D at *
    refine calls_of_vc (args := [.slice (some ⟨g, 0, none⟩) l.length cap, .int .i64 (i : Nat), .slice (some ⟨vb, 0, none⟩) 1 1]) Tryz.func29 rfl (Nat.le_of_ble_eq_true rfl) ?_; refine Sat.go hmix ?_; conv => whnf
    refine KGO ?_
    refine RunN.capK Tryz.underlying22 ?_
    by_cases hcap : cap < l.length + 1
    · refine KGO ?_
      rw [if_neg (by omega : ¬ 0 = cap), show ((l.length : Nat) : Int) + ((1 : Nat) : Int) - ((i : Nat) : Int) = ((l.length + 1 - i : Nat) : Int) by omega, Nat.sub_zero, Nat.sub_zero]
      refine RunN.zerosK (olds := A) Tryz.underlying22 Tryz.underlying3 boxInfo rfl (by decide) hA (hv.cells w 0 fun j u hj => by rw [hcells, Nat.zero_add, List.getElem?_append_left (List.getElem?_eq_some_iff.1 hj).1]; exact hj) (by omega) (by omega) (by omega) (by omega) fun w1 tail c' v1 hlen hge hcm' k1 => ?_
      rw [show i + (l.length + 1 - i) = l.length + 1 by omega] at hge ⊢
      have hvb1 := hvb.keep0 k1
      have hv1 := hv.keep0 k1
      have hB2 : B ≤ w.heap.size := hB
      have hg2 : g ≠ w.heap.size := by have := hv.lt; omega
      have hvb2 : vb ≠ w.heap.size := by have := hvb.lt; omega
      have hkB : ∀ {x y : World}, Keeps x y (one_ w.heap.size) → Keeps x y (fun k => B ≤ k) := fun k => k.mono fun q _ e => by
        have e : q = _ := e
        omega
      generalize w.heap.size = g2 at *
      refine KGO ?_
      rw [if_neg (by omega : ¬ i = c')]
      refine RunN.copyK Tryz.underlying22 boxInfo v1 (a := ⟨vb, 0, none⟩) (news := boxCells b) (m := 1) (by omega) rfl (hvb1.cells _ 0 fun j u h => by simpa using h) (boxOne b) (by rw [hlen, boxLen]; omega) fun w2 v2 k2 => ?_
      have v2 : VarK w2 g2 39 (patch (A ++ tail) (0 + i * 4) (boxCells b)) := v2
      rw [patch_at A tail (boxCells b) (0 + i * 4) (by rw [hA]; omega), boxLen] at v2
      have hv2 : VarK w2.drew g 39 cells := hv1.keep (k2.drew) fun e => by
        have e : g = g2 := e
        exact hg2 e
      have v2d : VarK w2.drew g2 39 (A ++ boxCells b ++ tail.drop 4) := v2
      have htl : (A ++ tail).length = A.length + tail.length := List.length_append
      have htd : (tail.drop 4).length = tail.length - 4 := List.length_drop
      refine KGO ?_
      rw [if_neg (by omega : ¬ i + 1 = c'), if_neg (by omega : ¬ i = cap)]
      refine RunN.copyK Tryz.underlying22 boxInfo v2d (a := ⟨g, 0 + i * 4, none⟩) (news := D) (m := l.length - i) (by omega) hD (hsrcD _ hv2) (by rw [← hDe]; exact boxesOne _) (by rw [List.length_append, List.length_append, hA, htd, hD, boxLen]; omega) fun w3 v3 k3 => ?_
      have v3 : VarK w3 g2 39 (patch (A ++ boxCells b ++ tail.drop 4) (0 + (i + 1) * 4) D) := v3
      rw [patch_at (A ++ boxCells b) (tail.drop 4) D (0 + (i + 1) * 4) (by rw [List.length_append, hA, boxLen]; omega)] at v3
      refine KGO ?_
      refine ⟨_, rfl, ?_, ((k1.of_none.trans' (hkB k2)).drew).trans' (hkB k3)⟩
      unfold OwnB
      rw [hresl, hres]
      have hrl : (A ++ boxCells b ++ D).length = (l.length + 1) * 4 := by rw [List.length_append, List.length_append, hA, hD, boxLen]; omega
      exact own_ofK (by omega) v3 hge hcm' (by rw [List.length_append, hrl, List.length_drop, htd, hD]; omega) (by rw [← hrl, List.take_left]) hrl
    · refine KGO ?_
      refine CallS.ext (ov_Box hvb hv (fun e => hgvb e.symm) (by rw [hcl]; omega)) ?_
      refine KGO ?_
      rw [if_neg (by omega : ¬ i + 1 = cap - 0), if_neg (by omega : ¬ i = cap - 0), if_neg (by omega : ¬ 0 = cap)]
      have hsrc : ∀ (w' : World), VarK w' g 39 cells → ∀ j u, D[j]? = some u → w'.cell? ((⟨g, 0 + 0 * 4 + i * 4, none⟩ : Addr).add j) = some u := fun w' h j u hj => by
        have := hsrcD w' h j u hj
        rwa [show 0 + 0 * 4 + i * 4 = 0 + i * 4 by omega]
      have hTl : (cells.drop (l.length * 4)).length = (cap - l.length) * 4 := by rw [List.length_drop, hcl]; omega
      generalize cells.drop (l.length * 4) = T at *
      have hvd : VarK w.drew g 39 (A ++ (D ++ T)) := by rw [← hcells]; exact hv
      have hADT : (A ++ (D ++ T)).length = cap * 4 := by rw [← hcells, hcl]
      refine RunN.copyK Tryz.underlying22 boxInfo hvd (a := ⟨g, 0 + 0 * 4 + i * 4, none⟩) (news := D) (m := l.length - i) (by omega) hD (hsrc _ hv) (by rw [← hDe]; exact boxesOne _) (by rw [hADT, hD]; omega) fun w2 v2 k2 => ?_
      have hpl : (patch (A ++ (D ++ T)) (0 + 0 * 4 + (i + 1) * 4) D).length = cap * 4 := by rw [patch_len (by rw [hADT, hD]; omega), hADT]
      have v2 : VarK w2 g 39 (patch (A ++ (D ++ T)) (0 + 0 * 4 + (i + 1) * 4) D) := v2
      obtain ⟨X, hX, hXl⟩ : ∃ X : List Value, A ++ (D ++ T) = A ++ X ++ (D ++ T).drop 4 ∧ X.length = 4 := ⟨(D ++ T).take 4, by rw [List.append_assoc, List.take_append_drop], by rw [List.length_take, List.length_append, hD, hTl]; omega⟩
      rw [hX, patch_at (A ++ X) ((D ++ T).drop 4) D (0 + 0 * 4 + (i + 1) * 4) (by rw [List.length_append, hA, hXl]; omega), show A ++ X ++ D ++ ((D ++ T).drop 4).drop D.length = A ++ (X ++ D ++ ((D ++ T).drop 4).drop D.length) by simp] at v2
      have hlen2 : (A ++ (X ++ D ++ ((D ++ T).drop 4).drop D.length)).length = cap * 4 := by
        rw [← hpl, hX, patch_at (A ++ X) ((D ++ T).drop 4) D (0 + 0 * 4 + (i + 1) * 4) (by rw [List.length_append, hA, hXl]; omega)]
        simp
      have hvbd : VarK w.drew vb 39 (boxCells b) := hvb
      have hvb2 := hvbd.keep k2 fun e => by
        have e : vb = g := e
        exact hgvb e.symm
      refine KGO ?_
      rw [if_neg (by omega : ¬ i = cap - 0)]
      refine RunN.copyK Tryz.underlying22 boxInfo v2 (a := ⟨vb, 0, none⟩) (news := boxCells b) (m := 1) (by omega) rfl (hvb2.cells _ 0 fun j u h => by simpa using h) (boxOne b) (by rw [hlen2, boxLen]; omega) fun w3 v3 k3 => ?_
      have v3 : VarK w3 g 39 (patch (A ++ (X ++ D ++ ((D ++ T).drop 4).drop D.length)) (0 + 0 * 4 + i * 4) (boxCells b)) := v3
      have hl3 := patch_len (cells := A ++ (X ++ D ++ ((D ++ T).drop 4).drop D.length)) (o := 0 + 0 * 4 + i * 4) (news := boxCells b) (by rw [hlen2, boxLen]; omega)
      rw [patch_at A (X ++ D ++ ((D ++ T).drop 4).drop D.length) (boxCells b) (0 + 0 * 4 + i * 4) (by rw [hA]; omega), boxLen, List.append_assoc X, List.drop_append_of_le_length (by omega), List.drop_of_length_le (by omega), List.nil_append] at v3 hl3
      refine KGO ?_
      have hkB : ∀ {x y : World}, Keeps x y (one_ g) → Keeps x y (fun k => B ≤ k) := fun k => k.mono fun q _ e => by
        have e : q = g := e
        omega
      refine ⟨_, rfl, ?_, (((Keeps.refl w _).drew).trans' (hkB k2)).trans' (hkB k3)⟩
      unfold OwnB
      rw [hresl, hres]
      have hrl : (A ++ boxCells b ++ D).length = (l.length + 1) * 4 := by rw [List.length_append, List.length_append, hA, hD, boxLen]; omega
      refine own_ofK hBg v3 (by omega) hcm (by rw [Nat.sub_zero, hl3, ← List.append_assoc X, hlen2]) ?_ hrl
      rw [Nat.sub_zero, ← List.append_assoc, ← hrl, List.take_left]
end
end Go.Proofs.YtdghfagipheabaaGreatDoor

-- alias Tryz
namespace Go.Proofs.YtdghfagipheabaaGreatDoor
open Go.RowKit Go.Pw Go.Vc Go.Cs Go.Lib
set_option linter.unusedVariables false
set_option maxRecDepth 100000
section
variable {w : World}
set_option maxHeartbeats 4000000 in
theorem del_Box {v : Value} {B : Nat} (l : List Bx) (i : Nat) (ho : OwnB w B v l) (hB : B ≤ w.heap.size) (hi : i < l.length) (hl : l.length ≤ 1000) :
    Calls Tryz.prog 33 #[v, .int .i64 (i : Nat), .int .i64 ((i + 1 : Nat) : Int)] w fun e w' => ∃ v', e = .returned v' ∧ OwnB w' B v' (l.take i ++ l.drop (i + 1)) ∧ Keeps w w' (fun k => B ≤ k) := by
  have hlenK := flatK_len boxCells 4 boxLen
  have htkK := flatK_take boxCells 4 boxLen
  have hdrK := flatK_drop boxCells 4 boxLen
  rcases own_blockK ho with ⟨rfl, h0⟩ | ⟨g, cap, cells, rfl, hBg, hv, hnc, hcm, hcl, htk⟩
  · omega
  refine calls_of_vc (args := [.slice (some ⟨g, 0, none⟩) l.length cap, .int .i64 (i : Nat), .int .i64 ((i + 1 : Nat) : Int)]) Tryz.func33 rfl (Nat.le_of_ble_eq_true rfl) ?_; refine Sat.go hmix ?_; conv => whnf
  refine RunV.of (run_cut3 (i := i) (j := i + 1) (m := l.length) Tryz.underlying22 boxInfo (by omega) (by omega) (by omega) rfl rfl rfl) ?_
  have hcells : cells = (l.take i).flatMap boxCells ++ (cells.drop (i * 4)) := by
    conv => lhs; rw [← List.take_append_drop (i * 4) cells]
    rw [show cells.take (i * 4) = (cells.take (l.length * 4)).take (i * 4) by rw [List.take_take, Nat.min_eq_left (by omega)], htk, htkK]
  have hA : ((l.take i).flatMap boxCells).length = i * 4 := by rw [hlenK, List.length_take]; omega
  have hD : ((l.drop (i + 1)).flatMap boxCells).length = (l.length - (i + 1)) * 4 := by rw [hlenK, List.length_drop]
  have hres : (l.take i ++ l.drop (i + 1)).flatMap boxCells = (l.take i).flatMap boxCells ++ (l.drop (i + 1)).flatMap boxCells := List.flatMap_append
  have hresl : (l.take i ++ l.drop (i + 1)).length = l.length - 1 := by rw [List.length_append, List.length_take, List.length_drop]; omega
  have hsrcD : ∀ j u, ((l.drop (i + 1)).flatMap boxCells)[j]? = some u → cells[(i + 1) * 4 + j]? = some u := fun j u hj => by
    rw [← hdrK, List.getElem?_drop, ← htk, List.getElem?_take] at hj
    split at hj
    · exact hj
    · cases hj
  generalize hAe : (l.take i).flatMap boxCells = A at *
  generalize hDe : (l.drop (i + 1)).flatMap boxCells = D at *
  have hD1 : ∀ u ∈ D, u.oneCell' = true := by rw [← hDe]; exact boxesOne _
  refine KGO ?_
  rw [if_neg (by omega : ¬ 0 = cap)]
  obtain ⟨X, hX⟩ : ∃ X, (if i + 1 = cap then 0 else 0 + (i + 1) * 4) = X := ⟨_, rfl⟩
  rw [hX]
  have hvd : VarK w.drew g 39 cells := hv
  have hnews : ∀ j u, D[j]? = some u → w.drew.cell? ((⟨g, X, none⟩ : Addr).add j) = some u := hvd.cells _ _ fun j u hj => by
    have hlt := (List.getElem?_eq_some_iff.1 hj).1
    rw [hD] at hlt
    rw [if_neg (by omega)] at hX
    rw [← hX, Nat.zero_add]
    exact hsrcD j u hj
  refine RunN.roomK (s := 4) (n := i) (c := cap) (m := l.length - (i + 1)) Tryz.underlying22 boxInfo hvd (a := ⟨g, X, none⟩) (news := D) hD hnews hD1 (by omega) (by rw [hcl]; omega) fun w2 v2 k2 => ?_
  rw [show i + (l.length - (i + 1)) = l.length - 1 by omega] at v2 ⊢
  have htA : cells.take (i * 4) = A := by rw [hcells, ← hA, List.take_left]
  rw [htA] at v2
  have hRl : (cells.drop ((l.length - 1) * 4)).length = (cap - (l.length - 1)) * 4 := by rw [List.length_drop, hcl]; omega
  generalize cells.drop ((l.length - 1) * 4) = R at *
  refine KGO ?_
  rw [if_neg (by omega : ¬ l.length - 1 = cap)]
  refine RunN.clearK (s := 4) (n := l.length - (l.length - 1)) Tryz.underlying22 boxInfo rfl (by intro u hu; simp [Value.cells] at hu; rcases hu with rfl | rfl | rfl | rfl <;> rfl) v2 (by rw [List.length_append, List.length_append, hA, hD, hRl]; omega) fun w3 zs hzl v3 k3 => ?_
  refine KGO ?_
  have hkB : ∀ {x y : World}, Keeps x y (one_ g) → Keeps x y (fun k => B ≤ k) := fun k => k.mono fun q _ e => by
    have e : q = g := e
    omega
  refine ⟨_, rfl, ?_, (((Keeps.refl w _).drew).trans' (hkB k2)).trans' (hkB k3)⟩
  unfold OwnB
  rw [hresl, hres]
  have hrl : (A ++ D).length = (l.length - 1) * 4 := by rw [List.length_append, hA, hD]; omega
  have ho3 : 0 + 0 * 4 + (l.length - 1) * 4 = (A ++ D).length := by rw [hrl]; omega
  have ho4 : 0 + (l.length - 1) * 4 = (A ++ D).length := by rw [hrl]; omega
  first | rw [ho3] at v3 | rw [ho4] at v3
  rw [List.take_left] at v3
  refine own_ofK hBg v3 (by omega) hcm (by rw [List.length_append, List.length_append, hrl, List.length_drop, List.length_append, hrl, hRl, hzl]; omega) ?_ hrl
  rw [← hrl, List.append_assoc, List.take_left]
end
end Go.Proofs.YtdghfagipheabaaGreatDoor

-- alias Tryz
namespace Go.Proofs.YtdghfagipheabaaGreatDoor
open Go.RowKit Go.Pw Go.Vc Go.Cs Go.Lib
set_option linter.unusedVariables false
set_option maxRecDepth 100000
structure BEnv (w : World) : Prop where
  F : FoldTab w
  T : Tabs w
  R : RolesTab w
theorem BEnv.keep {w w' : World} (h : BEnv w) (k : Keeps w w' none_) : BEnv w' := ⟨h.F.keep k, h.T.keep k, h.R.keep k⟩
/-- Texts of a size that the walks bear. -/
def SmallB (l : List Bx) : Prop := ∀ b ∈ l, b.name.length ≤ 1000000 ∧ b.role.length ≤ 1000000
section
variable {w w' : World}
theorem fin_err {B : Nat} {R : List Bx × Nat} (c : Nat) (h : R = ([], c)) (k : Keeps w w' none_) : ∃ v', Ending.returned (.tuple #[.slice none 0 0, .int .i64 (c : Nat)]) = .returned (.tuple #[v', .int .i64 (R.2 : Nat)]) ∧ OwnB w' B v' R.1 ∧ Keeps w w' none_ := by
  subst h; exact ⟨_, rfl, World.ownsRow_nil _ _ _ _, k⟩
theorem fin_ok {B : Nat} {R : List Bx × Nat} {v : Value} {m : List Bx} (h : R = (m, 0)) (o : OwnB w' B v m) (k : Keeps w w' none_) : ∃ v', Ending.returned (.tuple #[v, .int .i64 0]) = .returned (.tuple #[v', .int .i64 (R.2 : Nat)]) ∧ OwnB w' B v' R.1 ∧ Keeps w w' none_ := by
  subst h; exact ⟨_, rfl, o, k⟩
theorem build_box (a b : Int) (s t : ByteArray) (w : World) : (Instr.build 39 [(0, .int .i64 a), (1, .int .i64 b), (2, .string s), (3, .string t)].toArray).run Tryz.prog w = .ok (.agg #[.int .i64 a, .int .i64 b, .string s, .string t]) w := by
  simp [Instr.build, Instr.fill, go_sem, Tryz.runUnderlying39]
theorem build_boxes1 (b : Bx) (w : World) : (Instr.buildSlice 22 1 [(0, .agg #[.int .i64 b.id, .int .i64 b.up, .string (str b.name), .string (str b.role)])].toArray).run Tryz.prog w = .ok (.slice (some ⟨w.heap.size, 0, none⟩) 1 1) (w.alloc (.cells (boxCells b).toArray 39)) := by
  simp [Instr.buildSlice, go_sem, Tryz.runUnderlying22, boxCells]
set_option maxHeartbeats 8000000 in
theorem bx_Add {v : Value} (l : List Bx) (up : Int) (nm r : List UInt8) (id : Int) (hv : RowB w v l) (hl : l.length ≤ 1000) (hs : SmallB l) (hn : nm.length ≤ 1000000) (hE : BEnv w) :
    Calls Tryz.prog 9 #[v, .int .i64 up, .string (str nm), .string (str r), .int .i64 id] w fun e w' => ∃ v', e = .returned (.tuple #[v', .int .i64 ((addL l up nm r id).2 : Nat)]) ∧ OwnB w' w.heap.size v' (addL l up nm r id).1 ∧ Keeps w w' none_ := by
  have hv0 := hv
  obtain ⟨a, cap, rfl, hr⟩ := hv
  refine calls_of_vc (args := [.slice a l.length cap, .int .i64 up, .string (str nm), .string (str r), .int .i64 id]) Tryz.func9 rfl (Nat.le_of_ble_eq_true rfl) ?_; refine Sat.go hmix ?_; conv => whnf
  rw [show w.alloc (.cells #[.string (str r)] 9) = w.alloc (.cells (List.toArray [.string (str r)]) 9) from rfl]
  have a_b8 := at_fresh w 9 [.string (str r)]
  have k_w1 : Keeps w (w.alloc (.cells (List.toArray [.string (str r)]) 9)) none_ := (Keeps.refl _ _).alloc _
  have z_w1 : (w.alloc (.cells (List.toArray [.string (str r)]) 9)).heap.size = w.heap.size + 1 := by simp
  generalize w.alloc (.cells (List.toArray [.string (str r)]) 9) = w1 at *
  generalize hs_b8 : w.heap.size = b8 at *
  refine CallS.of (Tryz.call22 _ _) (bx_search (w := w1) l id (hv0.keep k_w1) (by omega)) ?_
  rintro e w2 ⟨k, q, rfl, hkl, hasc, k2⟩
  have K2 := k_w1.trans0 k2
  have j2 := k2
  refine ⟨_, rfl, ?_⟩; (first | refine Then.go hmix ?_ | refine Sat.go hmix ?_ | refine ResK.go ?_ | skip); conv => whnf
  refine KGO ?_
  refine CallS.of (Tryz.call16 _ _) (bx_Right (w := w2) l (hv0.keep K2) hl hs (hE.F.keep K2) (hE.T.keep K2) (hE.R.keep K2)) ?_
  rintro e w3 ⟨rfl, k3⟩
  have K3 := K2.trans0 k3
  have j3 := j2.trans0 k3
  refine ⟨_, rfl, ?_⟩; (first | refine Then.go hmix ?_ | refine Sat.go hmix ?_ | refine ResK.go ?_ | skip); conv => whnf
  by_cases h1 : rightL l = true
  rotate_left
  · rw [show rightL l = false by simpa using h1]
    refine KGO ?_
    exact ⟨fin_err (R := addL l up nm r id) 1 (by unfold addL; rw [if_pos fun h => h1 h.1]) K3⟩
  rw [h1]
  have hR := (rightL_iff l).1 h1
  obtain ⟨rfl, rfl⟩ := hasc hR.asc
  refine KGO ?_
  refine CallS.of (Tryz.call17 _ _) (bx_Named (w := w3) (str nm) (hE.T.keep K3) (by rw [str_size]; omega)) ?_
  rintro e w4 ⟨rfl, k4⟩
  rw [L_str]
  have K4 := K3.trans0 k4
  have j4 := j3.trans0 k4
  refine ⟨_, rfl, ?_⟩; (first | refine Then.go hmix ?_ | refine Sat.go hmix ?_ | refine ResK.go ?_ | skip); conv => whnf
  by_cases h2 : namedB nm = true
  rotate_left
  · rw [show namedB nm = false by simpa using h2]
    refine KGO ?_
    exact ⟨fin_err (R := addL l up nm r id) 1 (by unfold addL; rw [if_pos fun h => h2 h.2.1]) K4⟩
  rw [h2]
  obtain ⟨rb, ro, rc, hr1, hr2, hr3⟩ := hE.R
  refine KGO ?_
  refine CallS.of (Tryz.call23 _ _) (con_texts (w := w4) rolesL r ⟨some ⟨rb, ro, none⟩, rc, rfl, fun _ => ⟨rb, ro, rfl, Nat.lt_of_lt_of_le hr2 K4.size, at_mono hr3 K4⟩⟩ (by decide)) ?_
  rintro e w5 ⟨rfl, k5⟩
  have K5 := K4.trans0 k5
  have j5 := j4.trans0 k5
  refine ⟨_, rfl, ?_⟩; (first | refine Then.go hmix ?_ | refine Sat.go hmix ?_ | refine ResK.go ?_ | skip); conv => whnf
  by_cases h3 : r ∈ rolesL
  rotate_left
  · rw [decide_eq_false h3]
    refine KGO ?_
    exact ⟨fin_err (R := addL l up nm r id) 1 (by unfold addL; rw [if_pos fun h => h3 h.2.2]) K5⟩
  rw [decide_eq_true h3]
  have g1 : ¬ ¬ (rightL l = true ∧ namedB nm = true ∧ r ∈ rolesL) := fun h => h ⟨h1, h2, h3⟩
  by_cases h4 : id < 1
  · refine KGO ?_
    exact ⟨fin_err (R := addL l up nm r id) 6 (by unfold addL; rw [if_neg g1, if_pos (.inl h4)]) K5⟩
  by_cases h5 : 1099511627776 < id
  · refine KGO ?_
    exact ⟨fin_err (R := addL l up nm r id) 6 (by unfold addL; rw [if_neg g1, if_pos (.inr h5)]) K5⟩
  have g2 : ¬ (id < 1 ∨ 1099511627776 < id) := by omega
  by_cases h6 : hasId l id = true
  · rw [h6]
    refine KGO ?_
    exact ⟨fin_err (R := addL l up nm r id) 4 (by unfold addL; rw [if_neg g1, if_neg g2, if_pos (.inl h6)]) K5⟩
  rw [show hasId l id = false by simpa using h6]
  have hcr : w5.cell? ⟨b8, 0, none⟩ = some (.string (str r)) := cell_mono (a_b8 0 _ rfl) j5
  have hu : ∀ (w' : World), Keeps w5 w' none_ → Calls Tryz.prog 24 #[.slice a l.length cap, .func (.func 25) #[] #[.pointer (some ⟨b8, 0, none⟩)]] w' fun e w'' => e = .returned (.bool (l.any fun b => decide (b.role = r))) ∧ Keeps w' w'' none_ := fun w' k =>
    cf1 (w := w') l 25 (.pointer (some ⟨b8, 0, none⟩)) (fun b => decide (b.role = r)) (hv0.keep (K5.trans0 k)) (by omega) Tryz.call25 (fun b _ w'' k' => bx_roleIs b r (cell_mono hcr (k.trans0 k')))
  by_cases h7 : r = []
  · have hrd : decide (str r = (⟨#[]⟩ : ByteArray)) = true := by rw [h7]; rfl
    have g3 : ¬ (hasId l id = true ∨ r ≠ [] ∧ (l.any fun b => decide (b.role = r)) = true) := by
      rintro (h | ⟨h, _⟩)
      · exact h6 h
      · exact h h7
    refine KGO ?_
    · have K6 := K5
      have j6 := j5
      by_cases h8 : 64 ≤ l.length
      · refine KGO ?_
        exact ⟨fin_err (R := addL l up nm r id) 3 (by unfold addL; rw [if_neg g1, if_neg g2, if_neg g3, if_pos h8]) K6⟩
      refine KGO ?_
      refine CallS.of (Tryz.call26 _ _) (bx_has (w := w5) l up (hv0.keep K6) (by omega) hR.asc) ?_
      rintro e w7 ⟨rfl, k7⟩
      have K7 := K6.trans0 k7
      have j7 := j6.trans0 k7
      refine ⟨_, rfl, ?_⟩; (first | refine Then.go hmix ?_ | refine Sat.go hmix ?_ | refine ResK.go ?_ | skip); conv => whnf
      by_cases h9 : up = 0 ∨ hasId l up = true
      rotate_left
      · rw [decide_eq_false h9]
        refine KGO ?_
        exact ⟨fin_err (R := addL l up nm r id) 5 (by unfold addL; rw [if_neg g1, if_neg g2, if_neg g3, if_neg h8, if_pos h9]) K7⟩
      rw [decide_eq_true h9]
      have h9' : up = 0 ∨ ∃ c ∈ l, c.id = up := by rwa [hasId_iff] at h9
      obtain ⟨hd, hd8⟩ := dep_up hR h9'
      refine KGO ?_
      refine CallS.of (Tryz.call27 _ _) (bx_depth (w := w7) l up (hv0.keep K7) hR hd) ?_
      rintro e w8 ⟨rfl, k8⟩
      have K8 := K7.trans0 k8
      have j8 := j7.trans0 k8
      refine ⟨_, rfl, ?_⟩; (first | refine Then.go hmix ?_ | refine Sat.go hmix ?_ | refine ResK.go ?_ | skip); conv => whnf
      by_cases h10 : 8 ≤ dpt l up
      · refine KGO ?_
        exact ⟨fin_err (R := addL l up nm r id) 10 (by unfold addL; rw [if_neg g1, if_neg g2, if_neg g3, if_neg h8, if_neg (fun h => h h9), if_pos h10]) K8⟩
      refine KGO ?_
      refine CallS.of (Tryz.call28 _ _) (bx_taken (w := w8) l up nm 0 (hv0.keep K8) (by omega) (hE.F.keep K8) hn (fun b hb => (hs b hb).1)) ?_
      rintro e w9 ⟨rfl, k9⟩
      have K9 := K8.trans0 k9
      have j9 := j8.trans0 k9
      refine ⟨_, rfl, ?_⟩; (first | refine Then.go hmix ?_ | refine Sat.go hmix ?_ | refine ResK.go ?_ | skip); conv => whnf
      by_cases h11 : takenL l up nm 0 = true
      · rw [h11]
        refine KGO ?_
        exact ⟨fin_err (R := addL l up nm r id) 4 (by unfold addL; rw [if_neg g1, if_neg g2, if_neg g3, if_neg h8, if_neg (fun h => h h9), if_neg h10, if_pos h11]) K9⟩
      rw [show takenL l up nm 0 = false by simpa using h11]
      have hres : addL l up nm r id = (insL l ⟨id, up, nm, r⟩, 0) := by unfold addL; rw [if_neg g1, if_neg g2, if_neg g3, if_neg h8, if_neg (fun h => h h9), if_neg h10, if_neg h11]
      have hcr9 : w9.cell? ⟨b8, 0, none⟩ = some (.string (str r)) := cell_mono (a_b8 0 _ rfl) j9
      have hwB : b8 ≤ w9.heap.size := by have := K9.size; omega
      have hbig : ∀ {x y : World} {B : Nat}, Keeps w9 x none_ → w9.heap.size ≤ B → Keeps x y (fun k => B ≤ k) → Keeps w9 y none_ := fun h hB k => h.trans k fun q hq e => by omega
      refine KGO ?_
      refine Draw.ways (fun u => Keeps w9 u none_) (fun _ => true) [[0, 1, 2, 3, 4, 5, 6, 7, 8, 9, 10, 11], [0, 2, 3, 4, 5, 6, 7, 8, 1, 9, 10, 11]] (by decide +kernel) (Keeps.refl _ _).drew ?_
      intro L' hL'
      simp only [List.mem_cons, List.not_mem_nil, or_false] at hL'
      rcases hL' with rfl | rfl
      · refine KGO ?_
        refine CallS.of (Tryz.call30 _ _) (cl_Box (w := w9.drew) l (hv0.keep K9.drew) (by omega)) ?_
        rintro e w10 ⟨v1, rfl, o1, k10⟩
        obtain ⟨a1, c1, rfl⟩ := own_shape o1
        have J10 : Keeps w9 w10 none_ := (Keeps.refl w9 none_).drew.trans0 k10
        refine ⟨_, rfl, ?_⟩; (first | refine Then.go hmix ?_ | refine Sat.go hmix ?_ | refine ResK.go ?_ | skip); conv => whnf
        refine ⟨J10, ?_⟩
        refine KGO ?_
        refine RunV.of (build_box _ _ _ _ _) ?_
        refine KGO ?_
        refine RunV.of (build_boxes1 ⟨id, up, nm, r⟩ _) ?_
        have vb := VarK.new w10 39 (boxCells ⟨id, up, nm, r⟩)
        have k11 : Keeps w10 (w10.alloc (.cells (boxCells ⟨id, up, nm, r⟩).toArray 39)) none_ := (Keeps.refl _ _).alloc _
        have o1 : OwnB (w10.alloc (.cells (boxCells ⟨id, up, nm, r⟩).toArray 39)) w9.heap.size (.slice a1 l.length c1) l := own_keep0 o1 k11
        have hne : ∀ g, (Value.slice a1 l.length c1).ownBlock = some g → g ≠ w10.heap.size := fun g hg => by
          have := (World.ownsRow.lt (w := w10) (by assumption) g hg).2
          omega
        have J11 := J10.trans0 k11
        have hBs : w9.heap.size ≤ (w10.alloc (.cells (boxCells ⟨id, up, nm, r⟩).toArray 39)).heap.size := J11.size
        generalize w10.alloc (.cells (boxCells ⟨id, up, nm, r⟩).toArray 39) = w11 at *
        generalize w10.heap.size = vbk at *
        refine ⟨J11, ?_⟩
        refine KGO ?_
        refine CallS.of (Tryz.call29 _ _) (ins_Box (w := w11) l (idxL l id) ⟨id, up, nm, r⟩ o1 hBs hkl hl vb hne) ?_
        rintro e w12 ⟨v2, rfl, o2, k12⟩
        obtain ⟨a2, c2, rfl⟩ := own_shape o2
        have J12 := hbig J11 (Nat.le_refl _) k12
        refine ⟨_, rfl, ?_⟩; (first | refine Then.go hmix ?_ | refine Sat.go hmix ?_ | refine ResK.go ?_ | skip); conv => whnf
        refine ⟨J12, ?_⟩
        refine KGO ?_
        exact ⟨fin_ok hres (own_base o2 hwB) (K9.trans0 J12)⟩
      · refine KGO ?_
        refine RunV.of (build_box _ _ _ _ _) ?_
        refine KGO ?_
        refine RunV.of (build_boxes1 ⟨id, up, nm, r⟩ _) ?_
        have vb := VarK.new w9.drew 39 (boxCells ⟨id, up, nm, r⟩)
        have k10 : Keeps w9 (w9.drew.alloc (.cells (boxCells ⟨id, up, nm, r⟩).toArray 39)) none_ := (Keeps.refl _ _).drew.alloc _
        generalize w9.drew.alloc (.cells (boxCells ⟨id, up, nm, r⟩).toArray 39) = w10 at *
        generalize w9.drew.heap.size = vbk at *
        refine ⟨k10, ?_⟩
        refine KGO ?_
        refine CallS.of (Tryz.call30 _ _) (cl_Box (w := w10) l (hv0.keep (K9.trans0 k10)) (by omega)) ?_
        rintro e w11 ⟨v1, rfl, o1, k11⟩
        obtain ⟨a1, c1, rfl⟩ := own_shape o1
        have J11 := k10.trans0 k11
        have hlt := vb.lt
        have vb := vb.keep0 k11
        have hne : ∀ g, (Value.slice a1 l.length c1).ownBlock = some g → g ≠ vbk := fun g hg => by
          have := (o1.lt g hg).1
          omega
        refine ⟨_, rfl, ?_⟩; (first | refine Then.go hmix ?_ | refine Sat.go hmix ?_ | refine ResK.go ?_ | skip); conv => whnf
        refine ⟨J11, ?_⟩
        refine KGO ?_
        refine CallS.of (Tryz.call29 _ _) (ins_Box (w := w11) l (idxL l id) ⟨id, up, nm, r⟩ o1 k11.size hkl hl vb hne) ?_
        rintro e w12 ⟨v2, rfl, o2, k12⟩
        obtain ⟨a2, c2, rfl⟩ := own_shape o2
        have J12 := hbig J11 k10.size k12
        refine ⟨_, rfl, ?_⟩; (first | refine Then.go hmix ?_ | refine Sat.go hmix ?_ | refine ResK.go ?_ | skip); conv => whnf
        refine ⟨J12, ?_⟩
        refine KGO ?_
        exact ⟨fin_ok hres (own_base o2 (Nat.le_trans hwB k10.size)) (K9.trans0 J12)⟩
  · have hrd : decide (str r = (⟨#[]⟩ : ByteArray)) = false := decide_eq_false fun h => h7 (by have := congrArg L h; rwa [L_str] at this)
    refine KGO ?_
    conv => arg 3; simp [ev, upd]
    refine CallS.of (Tryz.call24 _ _) (hu w5 (Keeps.refl _ _)) ?_
    rintro e w6 ⟨rfl, k6⟩
    have K6' := K5.trans0 k6
    have j6' := j5.trans0 k6
    refine ⟨_, rfl, ?_⟩; (first | refine Then.go hmix ?_ | refine Sat.go hmix ?_ | refine ResK.go ?_ | skip); conv => whnf
    by_cases h7b : (l.any fun b => decide (b.role = r)) = true
    · rw [h7b]
      refine KGO ?_
      exact ⟨fin_err (R := addL l up nm r id) 4 (by unfold addL; rw [if_neg g1, if_neg g2, if_pos (.inr ⟨h7, h7b⟩)]) K6'⟩
    rw [show (l.any fun b => decide (b.role = r)) = false by simpa using h7b]
    have g3 : ¬ (hasId l id = true ∨ r ≠ [] ∧ (l.any fun b => decide (b.role = r)) = true) := by
      rintro (h | ⟨_, h⟩)
      · exact h6 h
      · exact h7b h
    refine KGO ?_
    · have K6 := K6'
      have j6 := j6'
      by_cases h8 : 64 ≤ l.length
      · refine KGO ?_
        exact ⟨fin_err (R := addL l up nm r id) 3 (by unfold addL; rw [if_neg g1, if_neg g2, if_neg g3, if_pos h8]) K6⟩
      refine KGO ?_
      refine CallS.of (Tryz.call26 _ _) (bx_has (w := w6) l up (hv0.keep K6) (by omega) hR.asc) ?_
      rintro e w7 ⟨rfl, k7⟩
      have K7 := K6.trans0 k7
      have j7 := j6.trans0 k7
      refine ⟨_, rfl, ?_⟩; (first | refine Then.go hmix ?_ | refine Sat.go hmix ?_ | refine ResK.go ?_ | skip); conv => whnf
      by_cases h9 : up = 0 ∨ hasId l up = true
      rotate_left
      · rw [decide_eq_false h9]
        refine KGO ?_
        exact ⟨fin_err (R := addL l up nm r id) 5 (by unfold addL; rw [if_neg g1, if_neg g2, if_neg g3, if_neg h8, if_pos h9]) K7⟩
      rw [decide_eq_true h9]
      have h9' : up = 0 ∨ ∃ c ∈ l, c.id = up := by rwa [hasId_iff] at h9
      obtain ⟨hd, hd8⟩ := dep_up hR h9'
      refine KGO ?_
      refine CallS.of (Tryz.call27 _ _) (bx_depth (w := w7) l up (hv0.keep K7) hR hd) ?_
      rintro e w8 ⟨rfl, k8⟩
      have K8 := K7.trans0 k8
      have j8 := j7.trans0 k8
      refine ⟨_, rfl, ?_⟩; (first | refine Then.go hmix ?_ | refine Sat.go hmix ?_ | refine ResK.go ?_ | skip); conv => whnf
      by_cases h10 : 8 ≤ dpt l up
      · refine KGO ?_
        exact ⟨fin_err (R := addL l up nm r id) 10 (by unfold addL; rw [if_neg g1, if_neg g2, if_neg g3, if_neg h8, if_neg (fun h => h h9), if_pos h10]) K8⟩
      refine KGO ?_
      refine CallS.of (Tryz.call28 _ _) (bx_taken (w := w8) l up nm 0 (hv0.keep K8) (by omega) (hE.F.keep K8) hn (fun b hb => (hs b hb).1)) ?_
      rintro e w9 ⟨rfl, k9⟩
      have K9 := K8.trans0 k9
      have j9 := j8.trans0 k9
      refine ⟨_, rfl, ?_⟩; (first | refine Then.go hmix ?_ | refine Sat.go hmix ?_ | refine ResK.go ?_ | skip); conv => whnf
      by_cases h11 : takenL l up nm 0 = true
      · rw [h11]
        refine KGO ?_
        exact ⟨fin_err (R := addL l up nm r id) 4 (by unfold addL; rw [if_neg g1, if_neg g2, if_neg g3, if_neg h8, if_neg (fun h => h h9), if_neg h10, if_pos h11]) K9⟩
      rw [show takenL l up nm 0 = false by simpa using h11]
      have hres : addL l up nm r id = (insL l ⟨id, up, nm, r⟩, 0) := by unfold addL; rw [if_neg g1, if_neg g2, if_neg g3, if_neg h8, if_neg (fun h => h h9), if_neg h10, if_neg h11]
      have hcr9 : w9.cell? ⟨b8, 0, none⟩ = some (.string (str r)) := cell_mono (a_b8 0 _ rfl) j9
      have hwB : b8 ≤ w9.heap.size := by have := K9.size; omega
      have hbig : ∀ {x y : World} {B : Nat}, Keeps w9 x none_ → w9.heap.size ≤ B → Keeps x y (fun k => B ≤ k) → Keeps w9 y none_ := fun h hB k => h.trans k fun q hq e => by omega
      refine KGO ?_
      refine Draw.ways (fun u => Keeps w9 u none_) (fun _ => true) [[0, 1, 2, 3, 4, 5, 6, 7, 8, 9, 10, 11], [0, 2, 3, 4, 5, 6, 7, 8, 1, 9, 10, 11]] (by decide +kernel) (Keeps.refl _ _).drew ?_
      intro L' hL'
      simp only [List.mem_cons, List.not_mem_nil, or_false] at hL'
      rcases hL' with rfl | rfl
      · refine KGO ?_
        refine CallS.of (Tryz.call30 _ _) (cl_Box (w := w9.drew) l (hv0.keep K9.drew) (by omega)) ?_
        rintro e w10 ⟨v1, rfl, o1, k10⟩
        obtain ⟨a1, c1, rfl⟩ := own_shape o1
        have J10 : Keeps w9 w10 none_ := (Keeps.refl w9 none_).drew.trans0 k10
        refine ⟨_, rfl, ?_⟩; (first | refine Then.go hmix ?_ | refine Sat.go hmix ?_ | refine ResK.go ?_ | skip); conv => whnf
        refine ⟨J10, ?_⟩
        refine KGO ?_
        refine RunV.of (build_box _ _ _ _ _) ?_
        refine KGO ?_
        refine RunV.of (build_boxes1 ⟨id, up, nm, r⟩ _) ?_
        have vb := VarK.new w10 39 (boxCells ⟨id, up, nm, r⟩)
        have k11 : Keeps w10 (w10.alloc (.cells (boxCells ⟨id, up, nm, r⟩).toArray 39)) none_ := (Keeps.refl _ _).alloc _
        have o1 : OwnB (w10.alloc (.cells (boxCells ⟨id, up, nm, r⟩).toArray 39)) w9.heap.size (.slice a1 l.length c1) l := own_keep0 o1 k11
        have hne : ∀ g, (Value.slice a1 l.length c1).ownBlock = some g → g ≠ w10.heap.size := fun g hg => by
          have := (World.ownsRow.lt (w := w10) (by assumption) g hg).2
          omega
        have J11 := J10.trans0 k11
        have hBs : w9.heap.size ≤ (w10.alloc (.cells (boxCells ⟨id, up, nm, r⟩).toArray 39)).heap.size := J11.size
        generalize w10.alloc (.cells (boxCells ⟨id, up, nm, r⟩).toArray 39) = w11 at *
        generalize w10.heap.size = vbk at *
        refine ⟨J11, ?_⟩
        refine KGO ?_
        refine CallS.of (Tryz.call29 _ _) (ins_Box (w := w11) l (idxL l id) ⟨id, up, nm, r⟩ o1 hBs hkl hl vb hne) ?_
        rintro e w12 ⟨v2, rfl, o2, k12⟩
        obtain ⟨a2, c2, rfl⟩ := own_shape o2
        have J12 := hbig J11 (Nat.le_refl _) k12
        refine ⟨_, rfl, ?_⟩; (first | refine Then.go hmix ?_ | refine Sat.go hmix ?_ | refine ResK.go ?_ | skip); conv => whnf
        refine ⟨J12, ?_⟩
        refine KGO ?_
        exact ⟨fin_ok hres (own_base o2 hwB) (K9.trans0 J12)⟩
      · refine KGO ?_
        refine RunV.of (build_box _ _ _ _ _) ?_
        refine KGO ?_
        refine RunV.of (build_boxes1 ⟨id, up, nm, r⟩ _) ?_
        have vb := VarK.new w9.drew 39 (boxCells ⟨id, up, nm, r⟩)
        have k10 : Keeps w9 (w9.drew.alloc (.cells (boxCells ⟨id, up, nm, r⟩).toArray 39)) none_ := (Keeps.refl _ _).drew.alloc _
        generalize w9.drew.alloc (.cells (boxCells ⟨id, up, nm, r⟩).toArray 39) = w10 at *
        generalize w9.drew.heap.size = vbk at *
        refine ⟨k10, ?_⟩
        refine KGO ?_
        refine CallS.of (Tryz.call30 _ _) (cl_Box (w := w10) l (hv0.keep (K9.trans0 k10)) (by omega)) ?_
        rintro e w11 ⟨v1, rfl, o1, k11⟩
        obtain ⟨a1, c1, rfl⟩ := own_shape o1
        have J11 := k10.trans0 k11
        have hlt := vb.lt
        have vb := vb.keep0 k11
        have hne : ∀ g, (Value.slice a1 l.length c1).ownBlock = some g → g ≠ vbk := fun g hg => by
          have := (o1.lt g hg).1
          omega
        refine ⟨_, rfl, ?_⟩; (first | refine Then.go hmix ?_ | refine Sat.go hmix ?_ | refine ResK.go ?_ | skip); conv => whnf
        refine ⟨J11, ?_⟩
        refine KGO ?_
        refine CallS.of (Tryz.call29 _ _) (ins_Box (w := w11) l (idxL l id) ⟨id, up, nm, r⟩ o1 k11.size hkl hl vb hne) ?_
        rintro e w12 ⟨v2, rfl, o2, k12⟩
        obtain ⟨a2, c2, rfl⟩ := own_shape o2
        have J12 := hbig J11 k10.size k12
        refine ⟨_, rfl, ?_⟩; (first | refine Then.go hmix ?_ | refine Sat.go hmix ?_ | refine ResK.go ?_ | skip); conv => whnf
        refine ⟨J12, ?_⟩
        refine KGO ?_
        exact ⟨fin_ok hres (own_base o2 (Nat.le_trans hwB k10.size)) (K9.trans0 J12)⟩
end
end Go.Proofs.YtdghfagipheabaaGreatDoor
