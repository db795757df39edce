/- Helper text of this claim: Ah0, Ah1, Ad5: lemmas and contracts that the proved statement rests on; no conditions of its own. -/
import Derived.Test.YtohhkegmbgancaaGreatDoorGKit10
import Derived.Test.YtohhkegmbgancaaGreatDoorGBw5
import Derived.Test.YtohhkegmbgancaaGreatDoorGMapG
import Derived.Test.YtohhkegmbgancaaGreatDoorGAx1
import Derived.Test.YtohhkegmbgancaaGreatDoorGShf2
import Derived.Test.YtohhkegmbgancaaGreatDoorGAd2
import Derived.Test.YtohhkegmbgancaaGreatDoorGAd0
-- alias Tryz
namespace Go.Proofs.YtohhkegmbgancaaGreatDoor
open Go.Shelf Go.RowKit Go.Pw Go.Vc Go.Cs Go.Lib
set_option linter.unusedVariables false
set_option maxRecDepth 100000
section
variable {w : World}
theorem nil_cutS {f : Fr} {x : Operand} (w : World) (hx : ev f x = .int .i64 0 := by rfl) : (Instr.sliceAt 33 (.slice none 0 0) ((some x).map (ev f)) none none).run Tryz.prog w = .ok (.slice none 0 0) w := by
  obtain ⟨i, hi, _, hs, _⟩ := info_one infoSrc
  simp [Instr.sliceAt, hx, Instr.slice, Instr.sliceBounds, go_sem, und_ok Tryz.underlying33, size_ok hi]
theorem ov_Src {vb g o n c : Nat} {cells : List Value} {b : Sc} (hvb : VarK w vb 76 (srcC b)) (hv : VarK w g 76 cells) (hne : vb ≠ g) (h0 : cells.length ≠ 0) :
    (callFunc 150 #[.slice (some ⟨vb, 0, none⟩) 1 1, .slice (some ⟨g, o, none⟩) n c]).run Tryz.prog w = .ok (.value (.bool false)) w := by
  have hsz : ∀ w, (Go.sizeOf 76).run Tryz.prog w = .ok 2 w := fun w => by
    obtain ⟨i, hi, _, hs, _⟩ := info_one infoSrc
    rw [size_ok hi, hs]
  rw [run_callFunc_extern Tryz.func150 (by kernel_rfl) (by kernel_rfl) (by kernel_rfl) (e := Extern.SlicesOverlaps.overlaps #[33, 33] #[4]) (by kernel_rfl),
    Lib.run_overlaps_apart w 33 4 76 Tryz.underlying33 2 hsz ⟨vb, 0, none⟩ ⟨g, o, none⟩ 1 1 n c hne _ _ _ _ hvb.shape hv.shape h0 (hvb.frozen 0) (hvb.frozen _)]
  rfl
set_option maxHeartbeats 4000000 in
theorem ins_Src {v : Value} {B vb : Nat} (l : List Sc) (i : Nat) (b : Sc) (ho : OwnSrc w B v l) (hB : B ≤ w.heap.size) (hi : i ≤ l.length) (hl : l.length ≤ 1000) (hvb : VarK w vb 76 (srcC b)) (hne : ∀ g, v.ownBlock = some g → g ≠ vb) :
    Calls Tryz.prog 87 #[v, .int .i64 (i : Nat), .slice (some ⟨vb, 0, none⟩) 1 1] w fun e w' => ∃ v', e = .returned v' ∧ OwnSrc w' B v' (l.take i ++ b :: l.drop i) ∧ Keeps w w' (fun k => w.heap.size ≤ k ∨ own_ v k) := by
  have hlenK := flatK_len srcC 2 lenSrc
  have htkK := flatK_take srcC 2 lenSrc
  have hdrK := flatK_drop srcC 2 lenSrc
  have hnews : ∀ j u, (srcC b)[j]? = some u → w.cell? ((⟨vb, 0, none⟩ : Addr).add j) = some u := hvb.cells w 0 fun j u h => by simpa using h
  by_cases hin : i = l.length
  · subst hin
    have hend : ∀ v' w', w'.ownsRow B 76 2 v' (l.length + 1) (l.flatMap srcC ++ srcC b) → w.grownBy w' v.ownBlock → OwnSrc w' B v' (l.take l.length ++ b :: l.drop l.length) ∧ Keeps w w' (fun k => w.heap.size ≤ k ∨ own_ v k) := fun v' w' h1 h2 => by
      rw [List.take_length, List.drop_length]
      refine ⟨?_, ⟨h2.os, h2.tape, h2.output, h2.size, fun k hk hn => h2.block k hk fun e => hn (.inr e.symm)⟩⟩
      unfold OwnSrc
      rw [List.length_append, List.flatMap_append]
      simpa using h1
    have happ : ∀ {K : Value → World → Prop} {cs : Array Bool}, (∀ v' w', w'.ownsRow B 76 2 v' (l.length + 1) (l.flatMap srcC ++ srcC b) → w.grownBy w' v.ownBlock → K v' w') → RunN Tryz.prog (builtin .append #[33, 33] 33 cs [v, .slice (some ⟨vb, 0, none⟩) 1 1].toArray) w K := fun k =>
      RunN.app Tryz.underlying33 infoSrc rfl (by decide) ho hB ⟨vb, 0, none⟩ 1 1 (srcC b) rfl hnews (by have := oneSrc [b]; simpa using this) (by omega) (by omega) k
    rcases own_blockK ho with ⟨rfl, h0⟩ | ⟨g, cap, cells, rfl, hBg, hv, hnc, hcm, hcl, htk⟩
    · rw [h0] at *
      refine calls_of_vc (args := [.slice none 0 0, .int .i64 (0 : Nat), .slice (some ⟨vb, 0, none⟩) 1 1]) Tryz.func87 rfl (Nat.le_of_ble_eq_true rfl) ?_; refine Sat.go hmix ?_; conv => whnf
      refine RunV.of (v := .slice none 0 0) (w' := w) (nil_cutS _) ?_
      refine KGO ?_
      refine happ fun v' w' h1 h2 => ?_
      obtain ⟨q1, q2⟩ := hend v' w' h1 h2
      obtain ⟨a', c', rfl⟩ := own_shape h1
      refine KGO ?_
      exact ⟨_, rfl, q1, q2⟩
    · refine calls_of_vc (args := [.slice (some ⟨g, 0, none⟩) l.length cap, .int .i64 (l.length : Nat), .slice (some ⟨vb, 0, none⟩) 1 1]) Tryz.func87 rfl (Nat.le_of_ble_eq_true rfl) ?_; refine Sat.go hmix ?_; conv => whnf
      refine KGO ?_
      refine happ fun v' w' h1 h2 => ?_
      obtain ⟨q1, q2⟩ := hend v' w' h1 h2
      obtain ⟨a', c', rfl⟩ := own_shape h1
      refine KGO ?_
      exact ⟨_, rfl, q1, q2⟩
  · rcases own_blockK ho with ⟨rfl, h0⟩ | ⟨g, cap, cells, rfl, hBg, hv, hnc, hcm, hcl, htk⟩
    · omega
    have hgvb : g ≠ vb := hne g rfl
    have hcells : cells = (l.take i).flatMap srcC ++ ((l.drop i).flatMap srcC ++ cells.drop (l.length * 2)) := by
      conv => lhs; rw [← List.take_append_drop (l.length * 2) cells, htk, ← List.take_append_drop (i * 2) (l.flatMap srcC), htkK, hdrK]
      rw [List.append_assoc]
    have hA : ((l.take i).flatMap srcC).length = i * 2 := by rw [hlenK, List.length_take, Nat.min_eq_left hi]
    have hD : ((l.drop i).flatMap srcC).length = (l.length - i) * 2 := by rw [hlenK, List.length_drop]
    have hres : ((l.take i ++ b :: l.drop i).flatMap srcC) = (l.take i).flatMap srcC ++ srcC b ++ (l.drop i).flatMap srcC := by
      rw [List.flatMap_append, List.flatMap_cons, List.append_assoc]
    have hresl : (l.take i ++ b :: l.drop i).length = l.length + 1 := by rw [List.length_append, List.length_cons, List.length_take, List.length_drop]; omega
    have hsrcD : ∀ (w' : World), VarK w' g 76 cells → ∀ j u, ((l.drop i).flatMap srcC)[j]? = some u → w'.cell? ((⟨g, 0 + i * 2, none⟩ : Addr).add j) = some u := fun w' h => h.cells w' _ fun j u hj => by
      rw [hcells, Nat.zero_add, List.getElem?_append_right (by omega), hA, Nat.add_sub_cancel_left, List.getElem?_append_left (by
        have := (List.getElem?_eq_some_iff.1 hj).1; exact this)]
      exact hj
    generalize hAe : (l.take i).flatMap srcC = A at *
    generalize hDe : (l.drop i).flatMap srcC = D at *
    refine calls_of_vc (args := [.slice (some ⟨g, 0, none⟩) l.length cap, .int .i64 (i : Nat), .slice (some ⟨vb, 0, none⟩) 1 1]) Tryz.func87 rfl (Nat.le_of_ble_eq_true rfl) ?_; refine Sat.go hmix ?_; conv => whnf
    refine KGO ?_
    refine RunN.capK Tryz.underlying33 ?_
    by_cases hcap : cap < l.length + 1
    · refine KGO ?_
      rw [if_neg (by omega : ¬ 0 = cap), show ((l.length : Nat) : Int) + ((1 : Nat) : Int) - ((i : Nat) : Int) = ((l.length + 1 - i : Nat) : Int) by omega, Nat.sub_zero, Nat.sub_zero]
      refine RunN.zerosK (olds := A) Tryz.underlying33 Tryz.underlying3 infoSrc rfl (by decide) hA (hv.cells w 0 fun j u hj => by rw [hcells, Nat.zero_add, List.getElem?_append_left (List.getElem?_eq_some_iff.1 hj).1]; exact hj) (by omega) (by omega) (by omega) (by omega) fun w1 tail c' v1 hlen hge hcm' k1 => ?_
      rw [show i + (l.length + 1 - i) = l.length + 1 by omega] at hge ⊢
      have hvb1 := hvb.keep0 k1
      have hv1 := hv.keep0 k1
      have hB2 : B ≤ w.heap.size := hB
      have hg2 : g ≠ w.heap.size := by have := hv.lt; omega
      have hvb2 : vb ≠ w.heap.size := by have := hvb.lt; omega
      have hkB : ∀ {x y : World}, Keeps x y (one_ w.heap.size) → Keeps x y (fun k => w.heap.size ≤ k ∨ own_ (.slice (some ⟨g, 0, none⟩) l.length cap) k) := fun k => k.mono fun q _ e => by
        have e : q = _ := e
        exact .inl (by omega)
      generalize w.heap.size = g2 at *
      refine KGO ?_
      rw [if_neg (by omega : ¬ i = c')]
      refine RunN.copyK Tryz.underlying33 infoSrc v1 (a := ⟨vb, 0, none⟩) (news := srcC b) (m := 1) (by omega) rfl (hvb1.cells _ 0 fun j u h => by simpa using h) (by have := oneSrc [b]; simpa using this) (by rw [hlen, lenSrc]; omega) fun w2 v2 k2 => ?_
      have v2 : VarK w2 g2 76 (patch (A ++ tail) (0 + i * 2) (srcC b)) := v2
      rw [patch_at A tail (srcC b) (0 + i * 2) (by rw [hA]; omega), lenSrc] at v2
      have hv2 : VarK w2.drew g 76 cells := hv1.keep (k2.drew) fun e => by
        have e : g = g2 := e
        exact hg2 e
      have v2d : VarK w2.drew g2 76 (A ++ srcC b ++ tail.drop 2) := v2
      have htl : (A ++ tail).length = A.length + tail.length := List.length_append
      have htd : (tail.drop 2).length = tail.length - 2 := List.length_drop
      refine KGO ?_
      rw [if_neg (by omega : ¬ i + 1 = c'), if_neg (by omega : ¬ i = cap)]
      refine RunN.copyK Tryz.underlying33 infoSrc v2d (a := ⟨g, 0 + i * 2, none⟩) (news := D) (m := l.length - i) (by omega) hD (hsrcD _ hv2) (by rw [← hDe]; exact oneSrc _) (by rw [List.length_append, List.length_append, hA, htd, hD, lenSrc]; omega) fun w3 v3 k3 => ?_
      have v3 : VarK w3 g2 76 (patch (A ++ srcC b ++ tail.drop 2) (0 + (i + 1) * 2) D) := v3
      rw [patch_at (A ++ srcC b) (tail.drop 2) D (0 + (i + 1) * 2) (by rw [List.length_append, hA, lenSrc]; omega)] at v3
      refine KGO ?_
      refine ⟨_, rfl, ?_, ((k1.of_none.trans' (hkB k2)).drew).trans' (hkB k3)⟩
      unfold OwnSrc
      rw [hresl, hres]
      have hrl : (A ++ srcC b ++ D).length = (l.length + 1) * 2 := by rw [List.length_append, List.length_append, hA, hD, lenSrc]; omega
      exact own_ofK (by omega) v3 hge hcm' (by rw [List.length_append, hrl, List.length_drop, htd, hD]; omega) (by rw [← hrl, List.take_left]) hrl
    · refine KGO ?_
      refine CallS.ext (ov_Src hvb hv (fun e => hgvb e.symm) (by rw [hcl]; omega)) ?_
      refine KGO ?_
      rw [if_neg (by omega : ¬ i + 1 = cap - 0), if_neg (by omega : ¬ i = cap - 0), if_neg (by omega : ¬ 0 = cap)]
      have hsrc : ∀ (w' : World), VarK w' g 76 cells → ∀ j u, D[j]? = some u → w'.cell? ((⟨g, 0 + 0 * 2 + i * 2, none⟩ : Addr).add j) = some u := fun w' h j u hj => by
        have := hsrcD w' h j u hj
        rwa [show 0 + 0 * 2 + i * 2 = 0 + i * 2 by omega]
      have hTl : (cells.drop (l.length * 2)).length = (cap - l.length) * 2 := by rw [List.length_drop, hcl]; omega
      generalize cells.drop (l.length * 2) = T at *
      have hvd : VarK w.drew g 76 (A ++ (D ++ T)) := by rw [← hcells]; exact hv
      have hADT : (A ++ (D ++ T)).length = cap * 2 := by rw [← hcells, hcl]
      refine RunN.copyK Tryz.underlying33 infoSrc hvd (a := ⟨g, 0 + 0 * 2 + i * 2, none⟩) (news := D) (m := l.length - i) (by omega) hD (hsrc _ hv) (by rw [← hDe]; exact oneSrc _) (by rw [hADT, hD]; omega) fun w2 v2 k2 => ?_
      have hpl : (patch (A ++ (D ++ T)) (0 + 0 * 2 + (i + 1) * 2) D).length = cap * 2 := by rw [patch_len (by rw [hADT, hD]; omega), hADT]
      have v2 : VarK w2 g 76 (patch (A ++ (D ++ T)) (0 + 0 * 2 + (i + 1) * 2) D) := v2
      obtain ⟨X, hX, hXl⟩ : ∃ X : List Value, A ++ (D ++ T) = A ++ X ++ (D ++ T).drop 2 ∧ X.length = 2 := ⟨(D ++ T).take 2, by rw [List.append_assoc, List.take_append_drop], by rw [List.length_take, List.length_append, hD, hTl]; omega⟩
      rw [hX, patch_at (A ++ X) ((D ++ T).drop 2) D (0 + 0 * 2 + (i + 1) * 2) (by rw [List.length_append, hA, hXl]; omega), show A ++ X ++ D ++ ((D ++ T).drop 2).drop D.length = A ++ (X ++ D ++ ((D ++ T).drop 2).drop D.length) by simp] at v2
      have hlen2 : (A ++ (X ++ D ++ ((D ++ T).drop 2).drop D.length)).length = cap * 2 := by
        rw [← hpl, hX, patch_at (A ++ X) ((D ++ T).drop 2) D (0 + 0 * 2 + (i + 1) * 2) (by rw [List.length_append, hA, hXl]; omega)]
        simp
      have hvbd : VarK w.drew vb 76 (srcC b) := hvb
      have hvb2 := hvbd.keep k2 fun e => by
        have e : vb = g := e
        exact hgvb e.symm
      refine KGO ?_
      rw [if_neg (by omega : ¬ i = cap - 0)]
      refine RunN.copyK Tryz.underlying33 infoSrc v2 (a := ⟨vb, 0, none⟩) (news := srcC b) (m := 1) (by omega) rfl (hvb2.cells _ 0 fun j u h => by simpa using h) (by have := oneSrc [b]; simpa using this) (by rw [hlen2, lenSrc]; omega) fun w3 v3 k3 => ?_
      have v3 : VarK w3 g 76 (patch (A ++ (X ++ D ++ ((D ++ T).drop 2).drop D.length)) (0 + 0 * 2 + i * 2) (srcC b)) := v3
      have hl3 := patch_len (cells := A ++ (X ++ D ++ ((D ++ T).drop 2).drop D.length)) (o := 0 + 0 * 2 + i * 2) (news := srcC b) (by rw [hlen2, lenSrc]; omega)
      rw [patch_at A (X ++ D ++ ((D ++ T).drop 2).drop D.length) (srcC b) (0 + 0 * 2 + i * 2) (by rw [hA]; omega), lenSrc, List.append_assoc X, List.drop_append_of_le_length (by omega), List.drop_of_length_le (by omega), List.nil_append] at v3 hl3
      refine KGO ?_
      have hkB : ∀ {x y : World}, Keeps x y (one_ g) → Keeps x y (fun k => w.heap.size ≤ k ∨ own_ (.slice (some ⟨g, 0, none⟩) l.length cap) k) := fun k => k.mono fun q _ e => by
        have e : q = g := e
        exact .inr (by rw [e]; rfl)
      refine ⟨_, rfl, ?_, (((Keeps.refl w _).drew).trans' (hkB k2)).trans' (hkB k3)⟩
      unfold OwnSrc
      rw [hresl, hres]
      have hrl : (A ++ srcC b ++ D).length = (l.length + 1) * 2 := by rw [List.length_append, List.length_append, hA, hD, lenSrc]; omega
      refine own_ofK hBg v3 (by omega) hcm (by rw [Nat.sub_zero, hl3, ← List.append_assoc X, hlen2]) ?_ hrl
      rw [Nat.sub_zero, ← List.append_assoc, ← hrl, List.take_left]
end
end Go.Proofs.YtohhkegmbgancaaGreatDoor

-- alias Tryz
namespace Go.Proofs.YtohhkegmbgancaaGreatDoor
open Go.Shelf Go.RowKit Go.Pw Go.Vc Go.Cs Go.Lib
set_option linter.unusedVariables false
set_option maxRecDepth 100000
theorem cb_lt (a b : List UInt8) : compareBytes a b < 0 ↔ ltT a b = true := by
  unfold ltT
  rw [decide_eq_true_eq]
  induction a generalizing b with
  | nil => cases b with
    | nil => simp [compareBytes]
    | cons y s => simp [compareBytes]
  | cons x r ih => cases b with
    | nil => simp [compareBytes]
    | cons y s =>
      unfold compareBytes
      rw [List.cons_lt_cons_iff]
      by_cases h1 : x < y
      · simp [h1]
      · rw [if_neg h1]
        by_cases h2 : y < x
        · rw [if_pos h2]
          have : x ≠ y := fun e => by subst e; exact h1 h2
          simp [h1, this]
        · rw [if_neg h2, ih]
          have e : x = y := UInt8.le_antisymm (UInt8.not_lt.1 h2) (UInt8.not_lt.1 h1)
          subst e
          simp [h1]
theorem cb_eq (a b : List UInt8) : compareBytes a b = 0 ↔ a = b := by
  induction a generalizing b with
  | nil => cases b with
    | nil => simp [compareBytes]
    | cons y s => simp [compareBytes]
  | cons x r ih => cases b with
    | nil => simp [compareBytes]
    | cons y s =>
      unfold compareBytes
      by_cases h1 : x < y
      · have : x ≠ y := fun e => by subst e; exact absurd h1 (by simp)
        simp [h1, this]
      · rw [if_neg h1]
        by_cases h2 : y < x
        · have : x ≠ y := fun e => by subst e; exact h1 h2
          simp [h2, this]
        · rw [if_neg h2, ih]
          have e : x = y := UInt8.le_antisymm (UInt8.not_lt.1 h2) (UInt8.not_lt.1 h1)
          subst e
          simp
theorem idxS_of {l : List Sc} {nm : List UInt8} {j : Nat} (hj : j ≤ l.length) (h1 : ∀ m (hm : m < l.length), m < j → ltT l[m].name nm = true) (h2 : ∀ m (hm : m < l.length), j ≤ m → ¬ ltT l[m].name nm = true) : idxS l nm = j := by
  unfold idxS
  induction l generalizing j with
  | nil => simp at hj; simp [hj]
  | cons a r ih =>
    cases j with
    | zero =>
      have := h2 0 (by simp) (Nat.le_refl _)
      rw [List.takeWhile_cons_of_neg (by simpa using this)]
      rfl
    | succ j =>
      have := h1 0 (by simp) (by omega)
      rw [List.takeWhile_cons_of_pos (by simpa using this), List.length_cons, ih (by simpa using hj) (fun m hm hmj => h1 (m + 1) (by simpa using hm) (by omega)) (fun m hm hmj => h2 (m + 1) (by simpa using hm) (by omega))]
theorem hasS_idx {l : List Sc} {nm : List UInt8} (hp : AscS l) : hasS l nm = decide (∃ h : idxS l nm < l.length, l[idxS l nm].name = nm) := by
  rw [Bool.eq_iff_iff, decide_eq_true_eq]
  unfold hasS
  rw [List.any_eq_true]
  constructor
  · rintro ⟨s, hs, he⟩
    have he : s.name = nm := by simpa using he
    obtain ⟨i, hi, rfl⟩ := List.getElem_of_mem hs
    have := idxS_of (l := l) (nm := nm) (j := i) (by omega) (fun m hm hmi => by rw [← he]; exact (List.pairwise_iff_getElem.1 hp) m i hm hi hmi) (fun m hm him => by
      rw [← he]
      by_cases e : i = m
      · subst e; rw [stoT.irr]; simp
      · exact fun q => by have := stoT.tr _ _ _ ((List.pairwise_iff_getElem.1 hp) i m hi hm (by omega)) q; rw [stoT.irr] at this; cases this)
    exact ⟨by omega, by simp only [this]; exact he⟩
  · rintro ⟨h, he⟩
    exact ⟨_, List.getElem_mem h, by simpa using he⟩
section
variable {w : World}
theorem ac_script1 (s : Sc) (nm : List UInt8) : Calls Tryz.prog 148 #[.agg (srcC s).toArray, .string (str nm)] w fun e w' => e = .returned (.int .i64 (compareBytes s.name nm)) ∧ Keeps w w' none_ := by
  refine calls_of_vc (args := [.agg (srcC s).toArray, .string (str nm)]) Tryz.func148 rfl (Nat.le_of_ble_eq_true rfl) ?_; refine Sat.go hmix ?_; conv => whnf
  have a_b1 := at_fresh w 76 (srcC s)
  have v_b1 := VarK.new w 76 (srcC s)
  have k_w1 : Keeps w (w.alloc (.cells (List.toArray (srcC s)) 76)) none_ := (Keeps.refl _ _).alloc _
  have z_w1 : (w.alloc (.cells (List.toArray (srcC s)) 76)).heap.size = w.heap.size + 1 := by simp
  generalize w.alloc (.cells (List.toArray (srcC s)) 76) = w1 at *
  generalize hs_b1 : w.heap.size = b1 at *
  have r_w1 : Keeps w1 w1 none_ := Keeps.refl _ _
  refine KGO ?_
  refine CallS.of (Tryz.call149 _ _) (s_compare (str s.name) (str nm) w1) ?_
  rintro e w2 ⟨rfl, rfl⟩
  refine ⟨_, rfl, ?_⟩; (first | refine Then.go hmix ?_ | refine Sat.go hmix ?_ | refine ResK.go ?_ | skip); conv => whnf
  rw [L_str, L_str]
  exact ⟨rfl, k_w1⟩
set_option maxHeartbeats 1000000 in
theorem bs_src {v : Value} (l : List Sc) (nm : List UInt8) (hv : RowS w v l) (hl : l.length ≤ 1000000) : Calls Tryz.prog 147 #[v, .string (str nm), .func (.func 148) #[] #[]] w fun e w' =>
    ∃ (k : Nat) (b : Bool), e = .returned (.tuple #[.int .i64 (k : Nat), .bool b]) ∧ k ≤ l.length ∧ (AscS l → k = idxS l nm ∧ b = hasS l nm) ∧ Keeps w w' none_ := by
  obtain ⟨a, cap, rfl, hr⟩ := hv
  refine calls_of_vc (args := [.slice a l.length cap, .string (str nm), .func (.func 148) #[] #[]]) Tryz.func147 rfl (Nat.le_of_ble_eq_true rfl) ?_; refine Sat.go hmix ?_; conv => whnf
  refine Loop.intro (ι := Nat × Nat) (fun p => [(0, .slice a l.length cap), (1, .string (str nm)), (2, .func (.func 148) #[] #[]), (8, .int .i64 (l.length : Nat)), (9, .int .i64 p.1), (10, .int .i64 p.2)])
    (fun p wr => Keeps w wr none_ ∧ p.1 ≤ p.2 ∧ p.2 ≤ l.length ∧ (AscS l → (∀ m (hm : m < l.length), m < p.1 → ltT l[m].name nm = true) ∧ ∀ m (hm : m < l.length), p.2 ≤ m → ¬ ltT l[m].name nm = true)) (fun p => p.2 - p.1) (0, l.length) ⟨rfl, rfl, rfl, rfl, rfl, rfl, trivial⟩
    ⟨Keeps.refl _ _, by omega, Nat.le_refl _, fun _ => ⟨fun m _ hm => by omega, fun m h1 h2 => by omega⟩⟩ ?_
  rintro ⟨i, j⟩ g wr ⟨hK, hij, hj, hord⟩
  dsimp only at hij hj hord ⊢
  (first | refine Then.go hmix ?_ | refine Sat.go hmix ?_ | refine ResK.go ?_ | skip); conv => whnf
  by_cases hlt : i < j
  · obtain ⟨gb, o, rfl, hgb, hat⟩ := hr (by omega)
    refine KGO ?_
    rw [half_eq i j (by omega)]
    have hm1 : i ≤ (i + j) / 2 := by omega
    have hm2 : (i + j) / 2 < j := by omega
    generalize (i + j) / 2 = h at *
    have hhl : h < l.length := by omega
    refine KGO ?_
    refine CallS.of (Tryz.call148 _ _) (ac_script1 l[h] nm) ?_
    rintro e w1 ⟨rfl, k1⟩
    refine ⟨_, rfl, ?_⟩; (first | refine Then.go hmix ?_ | refine Sat.go hmix ?_ | refine ResK.go ?_ | skip); conv => whnf
    by_cases hc : compareBytes l[h].name nm < 0
    · refine KGO ?_
      refine ⟨(h + 1, j), ⟨rfl, rfl, rfl, rfl, v_int (by simp), rfl, trivial⟩, ⟨hK.trans0 k1, by dsimp only; omega, hj, fun hp => ⟨fun m hm hmh => ?_, (hord hp).2⟩⟩, by dsimp only; omega⟩
      dsimp only at hmh
      have hlh := (cb_lt _ _).1 hc
      by_cases e : m = h
      · subst e; exact hlh
      · exact stoT.tr _ _ _ ((List.pairwise_iff_getElem.1 hp) m h hm hhl (by omega)) hlh
    · refine KGO ?_
      refine ⟨(i, h), ⟨rfl, rfl, rfl, rfl, rfl, rfl, trivial⟩, ⟨hK.trans0 k1, by dsimp only; omega, by dsimp only; omega, fun hp => ⟨(hord hp).1, fun m hm hmh => ?_⟩⟩, by dsimp only; omega⟩
      dsimp only at hmh
      have hlh : ¬ ltT l[h].name nm = true := fun q => hc ((cb_lt _ _).2 q)
      by_cases e : m = h
      · subst e; exact hlh
      · exact fun q => hlh (stoT.tr _ _ _ ((List.pairwise_iff_getElem.1 hp) h m hhl hm (by omega)) q)
  · have hji : j = i := by omega
    subst hji
    have hidx : ∀ hp : AscS l, idxS l nm = j := fun hp => idxS_of hj (hord hp).1 (hord hp).2
    by_cases h17 : j < l.length
    · obtain ⟨gb, o, rfl, hgb, hat⟩ := hr (by omega)
      refine KGO ?_
      refine CallS.of (Tryz.call148 _ _) (ac_script1 l[j] nm) ?_
      rintro e w1 ⟨rfl, k1⟩
      refine ⟨_, rfl, ?_⟩; (first | refine Then.go hmix ?_ | refine Sat.go hmix ?_ | refine ResK.go ?_ | skip); conv => whnf
      refine KGO ?_
      refine ⟨j, _, rfl, hj, fun hp => ⟨(hidx hp).symm, ?_⟩, hK.trans0 k1⟩
      rw [hasS_idx hp, Bool.eq_iff_iff, beq_iff_eq, decide_eq_true_eq, cb_eq]
      have hidx := hidx hp
      constructor
      · intro he; exact ⟨by omega, by simp only [hidx]; exact he⟩
      · rintro ⟨_, he⟩; simpa only [hidx] using he
    · refine KGO ?_
      refine ⟨j, _, rfl, hj, fun hp => ⟨(hidx hp).symm, ?_⟩, hK⟩
      rw [hasS_idx hp]
      have hidx := hidx hp
      symm
      rw [decide_eq_false_iff_not]
      rintro ⟨h, _⟩
      omega
end
end Go.Proofs.YtohhkegmbgancaaGreatDoor

-- alias Tryz
namespace Go.Proofs.YtohhkegmbgancaaGreatDoor
open Go.Shelf Go.RowKit Go.Pw Go.Vc Go.Cs Go.Lib
set_option linter.unusedVariables false
set_option maxRecDepth 100000
theorem Keeps.fresh {w w' : World} {p : Nat → Prop} (k : Keeps w w' (fun q => w.heap.size ≤ q ∨ p q)) : Keeps w w' p := ⟨k.os, k.tape, k.output, k.size, fun q hq hn => k.block q hq fun h => h.elim (fun h => by omega) hn⟩
theorem build_src1 (s : Sc) (w : World) : (Instr.buildSlice 33 1 [(0, .agg #[.string (str s.name), .string (str s.text)])].toArray).run Tryz.prog w = .ok (.slice (some ⟨w.heap.size, 0, none⟩) 1 1) (w.alloc (.cells (srcC s).toArray 76)) := by
  simp [Instr.buildSlice, go_sem, Tryz.runUnderlying33, srcC]
theorem build_sn1 (s : Sn) (w : World) : (Instr.buildSlice 34 1 [(0, .agg #[.string (str s.key), .int .i64 s.at_])].toArray).run Tryz.prog w = .ok (.slice (some ⟨w.heap.size, 0, none⟩) 1 1) (w.alloc (.cells (snC s).toArray 78)) := by
  simp [Instr.buildSlice, go_sem, Tryz.runUnderlying34, snC]
theorem app_Sn {K : Value → World → Prop} {B vb : Nat} {v : Value} {l : List Sn} {cs : Array Bool} {w : World} (h : OwnSn w B v l) (hB : B ≤ w.heap.size) (z : Sn) (hvb : VarK w vb 78 (snC z)) (hl : l.length ≤ 1000000000)
    (k : ∀ v' w', OwnSn w' B v' (l ++ [z]) → Keeps w w' (own_ v) → K v' w') :
    RunN Tryz.prog (builtin .append #[34, 34] 34 cs [v, .slice (some ⟨vb, 0, none⟩) 1 1].toArray) w K := by
  refine RunN.app Tryz.underlying34 infoSn rfl (by decide) h hB ⟨vb, 0, none⟩ 1 1 (snC z) rfl (hvb.cells w 0 fun j u h => by simpa using h) (by have := oneSn [z]; simpa using this) (by omega) (by omega) fun v' w' h2 h3 => k v' w' ?_ ?_
  · unfold OwnSn
    rw [List.length_append, List.flatMap_append]
    simpa using h2
  · exact ⟨h3.os, h3.tape, h3.output, h3.size, fun i hi hn => h3.block i hi (fun e => hn e.symm)⟩
section
variable {w : World}
theorem ac_answer1 (s : Sn) {v : Ov} {o : Opr} {bp : Nat} (hc : At w bp 0 (opC v o)) : Calls Tryz.prog 90 #[.agg (snC s).toArray, .pointer (some ⟨bp, 0, none⟩)] w fun e w' => e = .returned (.bool (decide (s.key = o.name))) ∧ Keeps w w' none_ := by
  refine calls_of_vc (args := [.agg (snC s).toArray, .pointer (some ⟨bp, 0, none⟩)]) Tryz.func90 rfl (Nat.le_of_ble_eq_true rfl) ?_; refine Sat.go hmix ?_; conv => whnf
  have a_b1 := at_fresh w 78 (snC s)
  have v_b1 := VarK.new w 78 (snC s)
  have k_w1 : Keeps w (w.alloc (.cells (List.toArray (snC s)) 78)) none_ := (Keeps.refl _ _).alloc _
  have z_w1 : (w.alloc (.cells (List.toArray (snC s)) 78)).heap.size = w.heap.size + 1 := by simp
  generalize w.alloc (.cells (List.toArray (snC s)) 78) = w1 at *
  generalize hs_b1 : w.heap.size = b1 at *
  have r_w1 : Keeps w1 w1 none_ := Keeps.refl _ _
  refine KGO ?_
  refine ⟨ret_bool ?_, k_w1⟩
  rw [Bool.eq_iff_iff, decide_eq_true_eq, decide_eq_true_eq]
  exact str_inj
theorem ac_script {B b : Nat} {h : Hd} {lx : List Mr} {A : Acc} (nm : List UInt8) (hd : Drf w B b h lx A) (hl : A.scripts.length ≤ 1000) (ha : AscS A.scripts) : Calls Tryz.prog 86 #[.pointer (some ⟨b, 0, none⟩), .string (str nm)] w fun e w' =>
    e = .returned (.tuple #[.int .i64 (idxS A.scripts nm : Nat), .bool (hasS A.scripts nm)]) ∧ idxS A.scripts nm ≤ A.scripts.length ∧ Keeps w w' none_ := by
  refine calls_of_vc (args := [.pointer (some ⟨b, 0, none⟩), .string (str nm)]) Tryz.func86 rfl (Nat.le_of_ble_eq_true rfl) ?_; refine Sat.go hmix ?_; conv => whnf
  have hdA := hd.v.at
  refine KGO ?_
  refine CallS.of (Tryz.call147 _ _) (bs_src (w := w) A.scripts nm hd.o.read.s (by omega)) ?_
  rintro e w1 ⟨k, bb, rfl, h1, h2, k1⟩
  obtain ⟨rfl, rfl⟩ := h2 ha
  refine ⟨_, rfl, ?_⟩; (first | refine Then.go hmix ?_ | refine Sat.go hmix ?_ | refine ResK.go ?_ | skip); conv => whnf
  refine KGO ?_
  exact ⟨rfl, h1, k1⟩
set_option maxHeartbeats 4000000 in
theorem ac_choose {B b : Nat} {h : Hd} {lx : List Mr} {A : Acc} {v : Ov} {o : Opr} (hd : Drf w B b h lx A) (hf : Fit A) (ha : AscS A.scripts) :
    Calls Tryz.prog 36 #[.pointer (some ⟨b, 0, none⟩), .agg (opC v o).toArray] w fun e w' => Done w' b e (chooseA A o) ∧ Keeps w w' (from_ B) := by
  refine calls_of_vc (args := [.pointer (some ⟨b, 0, none⟩), .agg (opC v o).toArray]) Tryz.func36 rfl (Nat.le_of_ble_eq_true rfl) ?_; refine Sat.go hmix ?_; conv => whnf
  have a_b1 := at_fresh w 28 (opC v o)
  have v_b1 := VarK.new w 28 (opC v o)
  have k_w1 : Keeps w (w.alloc (.cells (List.toArray (opC v o)) 28)) none_ := (Keeps.refl _ _).alloc _
  have z_w1 : (w.alloc (.cells (List.toArray (opC v o)) 28)).heap.size = w.heap.size + 1 := by simp
  generalize w.alloc (.cells (List.toArray (opC v o)) 28) = w1 at *
  generalize hs_b1 : w.heap.size = b1 at *
  have r_w1 : Keeps w1 w1 none_ := Keeps.refl _ _
  refine KGO ?_
  refine CallS.of (Tryz.call86 _ _) (ac_script (w := w1) (A := A) o.name (hd.keep k_w1) hf.sl ha) ?_
  rintro e w2 ⟨rfl, hix, k2⟩
  have K2 := k_w1.trans0 k2
  have a2 := at_mono a_b1 k2
  have kr2 : Keeps w2 w2 none_ := Keeps.refl _ _
  refine ⟨_, rfl, ?_⟩; (first | refine Then.go hmix ?_ | refine Sat.go hmix ?_ | refine ResK.go ?_ | skip); conv => whnf
  have hfin : ∀ w3, VarK w3 b 65 ((accC h A).set 3 (.string (str o.name))) → Keeps w2 w3 (one_ b) → chooseA A o = .ok ({ A with active := o.name }, 0) → Done w3 b (.returned (.tuple #[.int .i64 0, .int .i64 0])) (chooseA A o) ∧ Keeps w w3 (from_ B) := fun w3 v3 k3 hres => by
    rw [hres]
    have P := (hd.keep K2).o.p
    refine ⟨⟨rfl, fin_of (w5 := w2) (ly := lx) (h' := h) (A' := { A with active := o.name }) v3 ⟨P.b, P.s, P.n, P.m, P.ml, P.mb⟩ k3 fun q hq => ?_⟩, from_tr K2 (k3.mono fun q _ hq => ?_)⟩
    · have := hd.lt q hq; omega
    · have e : q = b := hq
      have := hd.B
      show B ≤ q
      omega
  have hemp : ∀ x : List UInt8, str x = (⟨#[]⟩ : ByteArray) ↔ x = [] := fun x => str_inj (b := [])
  by_cases h1 : hasS A.scripts o.name = true
  · have hres : chooseA A o = .ok ({ A with active := o.name }, 0) := by unfold chooseA; rw [if_neg (by rw [h1]; simp)]
    rw [h1]
    refine KGO ?_
    refine Store.cellK (i := 3) (hd.v.keep0 K2) (Nat.le_of_ble_eq_true rfl) (by rfl) ⟨rfl, by simp, by simp⟩ fun w3 v3 k3 => ?_
    refine KGO ?_
    exact ⟨(hfin w3 v3 k3 hres).1, (hfin w3 v3 k3 hres).2⟩
  · have h1 : hasS A.scripts o.name = false := by simpa using h1
    rw [h1]
    by_cases h2 : o.name = []
    · have hres : chooseA A o = .ok ({ A with active := o.name }, 0) := by unfold chooseA; rw [if_neg (by rw [h2]; simp)]
      have h3 : str o.name = (⟨#[]⟩ : ByteArray) := (hemp _).2 h2
      refine KGO ?_
      refine Store.cellK (i := 3) (hd.v.keep0 K2) (Nat.le_of_ble_eq_true rfl) (by rfl) ⟨rfl, by simp, by simp⟩ fun w3 v3 k3 => ?_
      refine KGO ?_
      exact ⟨(hfin w3 v3 k3 hres).1, (hfin w3 v3 k3 hres).2⟩
    · have hres : chooseA A o = .error 5 := by unfold chooseA; rw [if_pos ⟨h1, h2⟩]
      have h3 : ¬ str o.name = (⟨#[]⟩ : ByteArray) := fun e => h2 ((hemp _).1 e)
      refine KGO ?_
      exact ⟨by rw [hres]; rfl, K2.of_none⟩
set_option maxHeartbeats 8000000 in
theorem ac_unset {B b : Nat} {h : Hd} {lx : List Mr} {A : Acc} {v : Ov} {o : Opr} (hd : Drf w B b h lx A) (hf : Fit A) (ha : AscS A.scripts) :
    Calls Tryz.prog 35 #[.pointer (some ⟨b, 0, none⟩), .agg (opC v o).toArray] w fun e w' => Done w' b e (unsetA A o) ∧ Keeps w w' (from_ B) := by
  have hsl := hf.sl
  refine calls_of_vc (args := [.pointer (some ⟨b, 0, none⟩), .agg (opC v o).toArray]) Tryz.func35 rfl (Nat.le_of_ble_eq_true rfl) ?_; refine Sat.go hmix ?_; conv => whnf
  have a_b1 := at_fresh w 28 (opC v o)
  have v_b1 := VarK.new w 28 (opC v o)
  have k_w1 : Keeps w (w.alloc (.cells (List.toArray (opC v o)) 28)) none_ := (Keeps.refl _ _).alloc _
  have z_w1 : (w.alloc (.cells (List.toArray (opC v o)) 28)).heap.size = w.heap.size + 1 := by simp
  generalize w.alloc (.cells (List.toArray (opC v o)) 28) = w1 at *
  generalize hs_b1 : w.heap.size = b1 at *
  have r_w1 : Keeps w1 w1 none_ := Keeps.refl _ _
  refine KGO ?_
  refine CallS.of (Tryz.call86 _ _) (ac_script (w := w1) (A := A) o.name (hd.keep k_w1) hf.sl ha) ?_
  rintro e w2 ⟨rfl, hix, k2⟩
  have K2 := k_w1.trans0 k2
  have a2 := at_mono a_b1 k2
  have kr2 : Keeps w2 w2 none_ := Keeps.refl _ _
  have hdA := at_mono hd.v.at K2
  refine ⟨_, rfl, ?_⟩; (first | refine Then.go hmix ?_ | refine Sat.go hmix ?_ | refine ResK.go ?_ | skip); conv => whnf
  by_cases h1 : hasS A.scripts o.name = true
  rotate_left
  · have h1 : hasS A.scripts o.name = false := by simpa using h1
    have hres : unsetA A o = .error 5 := by unfold unsetA; rw [if_pos h1]
    rw [h1]
    refine KGO ?_
    exact ⟨by rw [hres]; rfl, K2.of_none⟩
  have h1' := h1
  rw [hasS_idx ha, decide_eq_true_eq] at h1'
  obtain ⟨hlt, _⟩ := h1'
  rw [h1]
  by_cases h2 : A.active = o.name
  · have hres : unsetA A o = .error 20 := by unfold unsetA; rw [if_neg (by rw [h1]; simp), if_pos h2]
    have h3 : str A.active = str o.name := by rw [h2]
    refine KGO ?_
    exact ⟨by rw [hres]; rfl, K2.drew.of_none⟩
  have hres : unsetA A o = .ok ({ A with scripts := A.scripts.take (idxS A.scripts o.name) ++ A.scripts.drop (idxS A.scripts o.name + 1) }, 0) := by unfold unsetA; rw [if_neg (by rw [h1]; simp), if_neg h2]
  have h3 : ¬ str A.active = str o.name := fun e => h2 (str_inj.1 e)
  generalize hie : idxS A.scripts o.name = i at *
  refine KGO ?_
  have K3 := K2.drew
  refine CallS.of (Tryz.call88 _ _) (del_Src (w := w2.drew) A.scripts i (own_keep0 hd.o.s K3) hlt (by omega)) ?_
  rintro e w4 ⟨v4, rfl, o4, k4, hb4⟩
  have hd3 := hd.keep K3
  obtain ⟨a4, c4, rfl⟩ := own_shape o4
  have hown : ∀ q, own_ h.S.v q → q < b := fun q hq => hd.lt q (Hd.all_s hq)
  have vA := hd3.v.keep k4 fun e => by have := hown b e; omega
  have P := hd3.o.setS (v := ⟨a4, _, c4⟩) k4 o4
  refine ⟨_, rfl, ?_⟩; (first | refine Then.go hmix ?_ | refine Sat.go hmix ?_ | refine ResK.go ?_ | skip); conv => whnf
  refine KGO ?_
  refine Store.cellK (i := 2) vA (Nat.le_of_ble_eq_true rfl) (by rfl) ⟨rfl, by simp, by simp⟩ fun w5 vA5 k5 => ?_
  refine KGO ?_
  rw [hres]
  refine ⟨⟨rfl, fin_of (ly := lx) (h' := { h with S := ⟨a4, _, c4⟩ }) vA5 P k5 fun q hq => ?_⟩, (K3.of_none.trans' (k4.mono fun q _ hq => ?_)).trans' (k5.mono fun q _ hq => ?_)⟩
  · unfold Hd.all Hd.bs at hq
    simp only [List.mem_append, mem_otl] at hq
    rcases hq with (((hq | hq) | hq) | hq) | hq
    · have := hd.lt q (Hd.all_b hq); omega
    · have hq : (Value.slice a4 (A.scripts.take i ++ A.scripts.drop (i + 1)).length c4).ownBlock = some q := hq
      rw [hb4] at hq; have := hown q hq; omega
    · have := hd.lt q (Hd.all_n hq); omega
    · have := hd.lt q (Hd.all_m hq); omega
    · have := hd.lt q (List.mem_append_right _ hq); omega
  · exact (hd.o.s.lt q hq).1
  · have e : q = b := hq
    have := hd.B
    show B ≤ q
    omega
end
end Go.Proofs.YtohhkegmbgancaaGreatDoor
