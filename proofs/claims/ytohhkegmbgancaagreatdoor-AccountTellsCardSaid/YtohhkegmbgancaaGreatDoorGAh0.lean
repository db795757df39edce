/- Helper text of this claim: lemmas and contracts that the proved statement rests on; no conditions of its own. -/
import Derived.Test.YtohhkegmbgancaaGreatDoorGAg4
namespace Go.Proofs.YtohhkegmbgancaaGreatDoor
set_option maxHeartbeats 8000000
open Go.Shelf Go.RowKit Go.Pw Go.Vc Go.Cs Go.Lib
set_option linter.unusedVariables false
set_option maxRecDepth 100000
section
variable {w : World}
theorem znk {f : Fr} {x : Operand} (w : World) (hx : ev f x = .int .i64 0 := by rfl) : (Instr.sliceAt 33 (.slice none 0 0) ((some x).map (ev f)) none none).run Tryz.prog w = .ok (.slice none 0 0) w := by
 obtain ⟨i, hi, _, hs, _⟩ := zaV infoSrc
 simp [Instr.sliceAt, hx, Instr.slice, Instr.sliceBounds, go_sem, zaG Tryz.underlying33, zbf hi]
theorem zpJ {vb g o n c : Nat} {cells : List Value} {b : Sc} (hvb : VarK w vb 76 (srcC b)) (hv : VarK w g 76 cells) (hne : vb ≠ g) (h0 : cells.length ≠ 0) :
  (callFunc 150 #[.slice (some ⟨vb, 0, none⟩) 1 1, .slice (some ⟨g, o, none⟩) n c]).run Tryz.prog w = .ok (.value (.bool false)) w := by
 have hsz : ∀ w, (Go.sizeOf 76).run Tryz.prog w = .ok 2 w := fun w => by
  obtain ⟨i, hi, _, hs, _⟩ := zaV infoSrc
  rw [zbf hi, hs]
 rw [run_callFunc_extern Tryz.func150 (by kernel_rfl) (by kernel_rfl) (by kernel_rfl) (e := Extern.SlicesOverlaps.overlaps #[33, 33] #[4]) (by kernel_rfl),
  Lib.run_overlaps_apart w 33 4 76 Tryz.underlying33 2 hsz ⟨vb, 0, none⟩ ⟨g, o, none⟩ 1 1 n c hne _ _ _ _ hvb.shape hv.shape h0 (hvb.frozen 0) (hvb.frozen _)]
 rfl
theorem zoM {v : Value} {B vb : Nat} (l : List Sc) (i : Nat) (b : Sc) (ho : OwnSrc w B v l) (hB : B ≤ w.heap.size) (hi : i ≤ l.length) (hl : l.length ≤ 1000) (hvb : VarK w vb 76 (srcC b)) (hne : ∀ g, v.ownBlock = some g → g ≠ vb) :
  Calls Tryz.prog 87 #[v, .int .i64 (i : Nat), .slice (some ⟨vb, 0, none⟩) 1 1] w fun e w' => ∃ v', e = .returned v' ∧ OwnSrc w' B v' (l.take i ++ b :: l.drop i) ∧ Kp w w' (fun k => w.heap.size ≤ k ∨ own_ v k) := by
 have hlenK := zaC srcC 2 lenSrc
 have htkK := zaQ srcC 2 lenSrc
 have hdrK := zaZ srcC 2 lenSrc
 have hnews : ∀ j u, (srcC b)[j]? = some u → w.cell? ((⟨vb, 0, none⟩ : Addr).add j) = some u := hvb.cells w 0 fun j u h => by simpa using h
 by_cases hin : i = l.length
 ·subst hin
  have hend : ∀ v' w', w'.ownsRow B 76 2 v' (l.length + 1) (l.flatMap srcC ++ srcC b) → w.grownBy w' v.ownBlock → OwnSrc w' B v' (l.take l.length ++ b :: l.drop l.length) ∧ Kp w w' (fun k => w.heap.size ≤ k ∨ own_ v k) := fun v' w' h1 h2 => by
   rw [List.take_length, List.drop_length]
   refine ⟨?_, ⟨h2.os, h2.tape, h2.output, h2.size, fun k hk hn => h2.block k hk fun e => hn (.inr e.symm)⟩⟩
   unfold OwnSrc
   rw [List.length_append, List.flatMap_append]
   simpa using h1
  have happ : ∀ {K : Value → World → Prop} {cs : Array Bool}, (∀ v' w', w'.ownsRow B 76 2 v' (l.length + 1) (l.flatMap srcC ++ srcC b) → w.grownBy w' v.ownBlock → K v' w') → RunN Tryz.prog (builtin .append #[33, 33] 33 cs [v, .slice (some ⟨vb, 0, none⟩) 1 1].toArray) w K := fun k =>
   RunN.app Tryz.underlying33 infoSrc rfl (by decide) ho hB ⟨vb, 0, none⟩ 1 1 (srcC b) rfl hnews (by have := oneSrc [b]; simpa using this) (by omega) (by omega) k
  rcases own_blockK ho with ⟨rfl, h0⟩ | ⟨g, cap, cells, rfl, hBg, hv, hnc, hcm, hcl, htk⟩
  ·rw [h0] at *
   refine zaa (args := [.slice none 0 0, .int .i64 (0 : Nat), .slice (some ⟨vb, 0, none⟩) 1 1]) Tryz.func87 rfl NL ?_; refine GW ?_
   refine RunV.of (v := .slice none 0 0) (w' := w) (znk _) ?_
   refine KGO ?_
   refine happ fun v' w' h1 h2 => ?_
   obtain ⟨q1, q2⟩ := hend v' w' h1 h2
   obtain ⟨a', c', rfl⟩ := zab h1
   refine KGO ?_
   exact ⟨_, rfl, q1, q2⟩
  ·refine zaa (args := [.slice (some ⟨g, 0, none⟩) l.length cap, .int .i64 (l.length : Nat), .slice (some ⟨vb, 0, none⟩) 1 1]) Tryz.func87 rfl NL ?_; refine GW ?_
   refine KGO ?_
   refine happ fun v' w' h1 h2 => ?_
   obtain ⟨q1, q2⟩ := hend v' w' h1 h2
   obtain ⟨a', c', rfl⟩ := zab h1
   refine KGO ?_
   exact ⟨_, rfl, q1, q2⟩
 ·rcases own_blockK ho with ⟨rfl, h0⟩ | ⟨g, cap, cells, rfl, hBg, hv, hnc, hcm, hcl, htk⟩
  ·omega
  have hgvb : g ≠ vb := hne g rfl
  have hcells : cells = (l.take i).flatMap srcC ++ ((l.drop i).flatMap srcC ++ cells.drop (l.length * 2)) := by
   conv => lhs; rw [← List.take_append_drop (l.length * 2) cells, htk, ← List.take_append_drop (i * 2) (l.flatMap srcC), htkK, hdrK]
   rw [List.append_assoc]
  have hA : ((l.take i).flatMap srcC).length = i * 2 := by rw [hlenK, List.length_take, Nat.min_eq_left hi]
  have hD : ((l.drop i).flatMap srcC).length = (l.length - i) * 2 := by rw [hlenK, List.length_drop]
  have hres : ((l.take i ++ b :: l.drop i).flatMap srcC) = (l.take i).flatMap srcC ++ srcC b ++ (l.drop i).flatMap srcC := by
   rw [List.flatMap_append, List.flatMap_cons, List.append_assoc]
  have hresl : (l.take i ++ b :: l.drop i).length = l.length + 1 := by rw [List.length_append, List.length_cons, List.length_take, List.length_drop]; omega
  have hsrcD : ∀ (w' : World), VarK w' g 76 cells → ∀ j u, ((l.drop i).flatMap srcC)[j]? = some u → w'.cell? ((⟨g, 0 + i * 2, none⟩ : Addr).add j) = some u := fun w' h => h.cells w' _ fun j u hj => by
   rw [hcells, Nat.zero_add, List.getElem?_append_right (by omega), hA, Nat.add_sub_cancel_left, List.getElem?_append_left (by
    have := (List.getElem?_eq_some_iff.1 hj).1; exact this)]
   exact hj
  generalize hAe : (l.take i).flatMap srcC = A at *
  generalize hDe : (l.drop i).flatMap srcC = D at *
  refine zaa (args := [.slice (some ⟨g, 0, none⟩) l.length cap, .int .i64 (i : Nat), .slice (some ⟨vb, 0, none⟩) 1 1]) Tryz.func87 rfl NL ?_; refine GW ?_
  refine KGO ?_
  refine RunN.capK Tryz.underlying33 ?_
  by_cases hcap : cap < l.length + 1
  ·refine KGO ?_
   rw [if_neg (by omega : ¬ 0 = cap), show ((l.length : Nat) : Int) + ((1 : Nat) : Int) - ((i : Nat) : Int) = ((l.length + 1 - i : Nat) : Int) by omega, Nat.sub_zero, Nat.sub_zero]
   refine RunN.zerosK (olds := A) Tryz.underlying33 Tryz.underlying3 infoSrc rfl (by decide) hA (hv.cells w 0 fun j u hj => by rw [hcells, Nat.zero_add, List.getElem?_append_left (List.getElem?_eq_some_iff.1 hj).1]; exact hj) (by omega) (by omega) (by omega) (by omega) fun w1 tail c' v1 hlen hge hcm' k1 => ?_
   rw [show i + (l.length + 1 - i) = l.length + 1 by omega] at hge ⊢
   have hvb1 := hvb.keep0 k1
   have hv1 := hv.keep0 k1
   have hB2 : B ≤ w.heap.size := hB
   have hg2 : g ≠ w.heap.size := by have := hv.lt; omega
   have hvb2 : vb ≠ w.heap.size := by have := hvb.lt; omega
   have hkB : ∀ {x y : World}, Kp x y (one_ w.heap.size) → Kp x y (fun k => w.heap.size ≤ k ∨ own_ (.slice (some ⟨g, 0, none⟩) l.length cap) k) := fun k => k.mono fun q _ e => by
    have e : q = _ := e
    exact .inl (by omega)
   generalize w.heap.size = g2 at *
   refine KGO ?_
   rw [if_neg (by omega : ¬ i = c')]
   refine RunN.copyK Tryz.underlying33 infoSrc v1 (a := ⟨vb, 0, none⟩) (news := srcC b) (m := 1) (by omega) rfl (hvb1.cells _ 0 fun j u h => by simpa using h) (by have := oneSrc [b]; simpa using this) (by rw [hlen, lenSrc]; omega) fun w2 v2 k2 => ?_
   have v2 : VarK w2 g2 76 (patch (A ++ tail) (0 + i * 2) (srcC b)) := v2
   rw [zbx A tail (srcC b) (0 + i * 2) (by rw [hA]; omega), lenSrc] at v2
   have hv2 : VarK w2.drew g 76 cells := hv1.keep (k2.drew) fun e => by
    have e : g = g2 := e
    exact hg2 e
   have v2d : VarK w2.drew g2 76 (A ++ srcC b ++ tail.drop 2) := v2
   have htl : (A ++ tail).length = A.length + tail.length := List.length_append
   have htd : (tail.drop 2).length = tail.length - 2 := List.length_drop
   refine KGO ?_
   rw [if_neg (by omega : ¬ i + 1 = c'), if_neg (by omega : ¬ i = cap)]
   refine RunN.copyK Tryz.underlying33 infoSrc v2d (a := ⟨g, 0 + i * 2, none⟩) (news := D) (m := l.length - i) (by omega) hD (hsrcD _ hv2) (by rw [← hDe]; exact oneSrc _) (by rw [List.length_append, List.length_append, hA, htd, hD, lenSrc]; omega) fun w3 v3 k3 => ?_
   have v3 : VarK w3 g2 76 (patch (A ++ srcC b ++ tail.drop 2) (0 + (i + 1) * 2) D) := v3
   rw [zbx (A ++ srcC b) (tail.drop 2) D (0 + (i + 1) * 2) (by rw [List.length_append, hA, lenSrc]; omega)] at v3
   refine KGO ?_
   refine ⟨_, rfl, ?_, ((k1.of_none.trans' (hkB k2)).drew).trans' (hkB k3)⟩
   unfold OwnSrc
   rw [hresl, hres]
   have hrl : (A ++ srcC b ++ D).length = (l.length + 1) * 2 := by rw [List.length_append, List.length_append, hA, hD, lenSrc]; omega
   exact zbi (by omega) v3 hge hcm' (by rw [List.length_append, hrl, List.length_drop, htd, hD]; omega) (by rw [← hrl, List.take_left]) hrl
  ·refine KGO ?_
   refine CallS.ext (zpJ hvb hv (fun e => hgvb e.symm) (by rw [hcl]; omega)) ?_
   refine KGO ?_
   rw [if_neg (by omega : ¬ i + 1 = cap - 0), if_neg (by omega : ¬ i = cap - 0), if_neg (by omega : ¬ 0 = cap)]
   have hsrc : ∀ (w' : World), VarK w' g 76 cells → ∀ j u, D[j]? = some u → w'.cell? ((⟨g, 0 + 0 * 2 + i * 2, none⟩ : Addr).add j) = some u := fun w' h j u hj => by
    have := hsrcD w' h j u hj
    rwa [show 0 + 0 * 2 + i * 2 = 0 + i * 2 by omega]
   have hTl : (cells.drop (l.length * 2)).length = (cap - l.length) * 2 := by rw [List.length_drop, hcl]; omega
   generalize cells.drop (l.length * 2) = T at *
   have hvd : VarK w.drew g 76 (A ++ (D ++ T)) := by rw [← hcells]; exact hv
   have hADT : (A ++ (D ++ T)).length = cap * 2 := by rw [← hcells, hcl]
   refine RunN.copyK Tryz.underlying33 infoSrc hvd (a := ⟨g, 0 + 0 * 2 + i * 2, none⟩) (news := D) (m := l.length - i) (by omega) hD (hsrc _ hv) (by rw [← hDe]; exact oneSrc _) (by rw [hADT, hD]; omega) fun w2 v2 k2 => ?_
   have hpl : (patch (A ++ (D ++ T)) (0 + 0 * 2 + (i + 1) * 2) D).length = cap * 2 := by rw [zdK (by rw [hADT, hD]; omega), hADT]
   have v2 : VarK w2 g 76 (patch (A ++ (D ++ T)) (0 + 0 * 2 + (i + 1) * 2) D) := v2
   obtain ⟨X, hX, hXl⟩ : ∃ X : List Value, A ++ (D ++ T) = A ++ X ++ (D ++ T).drop 2 ∧ X.length = 2 := ⟨(D ++ T).take 2, by rw [List.append_assoc, List.take_append_drop], by rw [List.length_take, List.length_append, hD, hTl]; omega⟩
   rw [hX, zbx (A ++ X) ((D ++ T).drop 2) D (0 + 0 * 2 + (i + 1) * 2) (by rw [List.length_append, hA, hXl]; omega), show A ++ X ++ D ++ ((D ++ T).drop 2).drop D.length = A ++ (X ++ D ++ ((D ++ T).drop 2).drop D.length) by simp] at v2
   have hlen2 : (A ++ (X ++ D ++ ((D ++ T).drop 2).drop D.length)).length = cap * 2 := by
    rw [← hpl, hX, zbx (A ++ X) ((D ++ T).drop 2) D (0 + 0 * 2 + (i + 1) * 2) (by rw [List.length_append, hA, hXl]; omega)]
    simp
   have hvbd : VarK w.drew vb 76 (srcC b) := hvb
   have hvb2 := hvbd.keep k2 fun e => by
    have e : vb = g := e
    exact hgvb e.symm
   refine KGO ?_
   rw [if_neg (by omega : ¬ i = cap - 0)]
   refine RunN.copyK Tryz.underlying33 infoSrc v2 (a := ⟨vb, 0, none⟩) (news := srcC b) (m := 1) (by omega) rfl (hvb2.cells _ 0 fun j u h => by simpa using h) (by have := oneSrc [b]; simpa using this) (by rw [hlen2, lenSrc]; omega) fun w3 v3 k3 => ?_
   have v3 : VarK w3 g 76 (patch (A ++ (X ++ D ++ ((D ++ T).drop 2).drop D.length)) (0 + 0 * 2 + i * 2) (srcC b)) := v3
   have hl3 := zdK (cells := A ++ (X ++ D ++ ((D ++ T).drop 2).drop D.length)) (o := 0 + 0 * 2 + i * 2) (news := srcC b) (by rw [hlen2, lenSrc]; omega)
   rw [zbx A (X ++ D ++ ((D ++ T).drop 2).drop D.length) (srcC b) (0 + 0 * 2 + i * 2) (by rw [hA]; omega), lenSrc, List.append_assoc X, List.drop_append_of_le_length (by omega), List.drop_of_length_le (by omega), List.nil_append] at v3 hl3
   refine KGO ?_
   have hkB : ∀ {x y : World}, Kp x y (one_ g) → Kp x y (fun k => w.heap.size ≤ k ∨ own_ (.slice (some ⟨g, 0, none⟩) l.length cap) k) := fun k => k.mono fun q _ e => by
    have e : q = g := e
    exact .inr (by rw [e]; rfl)
   refine ⟨_, rfl, ?_, (((Kp.refl w _).drew).trans' (hkB k2)).trans' (hkB k3)⟩
   unfold OwnSrc
   rw [hresl, hres]
   have hrl : (A ++ srcC b ++ D).length = (l.length + 1) * 2 := by rw [List.length_append, List.length_append, hA, hD, lenSrc]; omega
   refine zbi hBg v3 (by omega) hcm (by rw [Nat.sub_zero, hl3, ← List.append_assoc X, hlen2]) ?_ hrl
   rw [Nat.sub_zero, ← List.append_assoc, ← hrl, List.take_left]
end
theorem cb_lt (a b : List UInt8) : compareBytes a b < 0 ↔ ltT a b = true := by
 unfold ltT
 rw [decide_eq_true_eq]
 induction a generalizing b with
 | nil => cases b with
  | nil => simp [compareBytes]
  | cons y s => simp [compareBytes]
 | cons x r ih => cases b with
  | nil => simp [compareBytes]
  | cons y s =>
   unfold compareBytes
   rw [List.cons_lt_cons_iff]
   by_cases h1 : x < y
   ·simp [h1]
   ·rw [if_neg h1]
    by_cases h2 : y < x
    ·rw [if_pos h2]
     have : x ≠ y := fun e => by subst e; exact h1 h2
     simp [h1, this]
    ·rw [if_neg h2, ih]
     have e : x = y := UInt8.le_antisymm (UInt8.not_lt.1 h2) (UInt8.not_lt.1 h1)
     subst e
     simp [h1]
theorem cb_eq (a b : List UInt8) : compareBytes a b = 0 ↔ a = b := by
 induction a generalizing b with
 | nil => cases b with
  | nil => simp [compareBytes]
  | cons y s => simp [compareBytes]
 | cons x r ih => cases b with
  | nil => simp [compareBytes]
  | cons y s =>
   unfold compareBytes
   by_cases h1 : x < y
   ·have : x ≠ y := fun e => by subst e; exact absurd h1 (by simp)
    simp [h1, this]
   ·rw [if_neg h1]
    by_cases h2 : y < x
    ·have : x ≠ y := fun e => by subst e; exact h1 h2
     simp [h2, this]
    ·rw [if_neg h2, ih]
     have e : x = y := UInt8.le_antisymm (UInt8.not_lt.1 h2) (UInt8.not_lt.1 h1)
     subst e
     simp
theorem zlE {l : List Sc} {nm : List UInt8} {j : Nat} (hj : j ≤ l.length) (h1 : ∀ m (hm : m < l.length), m < j → ltT l[m].name nm = true) (h2 : ∀ m (hm : m < l.length), j ≤ m → ¬ ltT l[m].name nm = true) : idxS l nm = j := by
 unfold idxS
 induction l generalizing j with
 | nil => simp at hj; simp [hj]
 | cons a r ih =>
  cases j with
  | zero =>
   have := h2 0 (by simp) (Nat.le_refl _)
   rw [List.takeWhile_cons_of_neg (by simpa using this)]
   rfl
  | succ j =>
   have := h1 0 (by simp) (by omega)
   rw [List.takeWhile_cons_of_pos (by simpa using this), List.length_cons, ih (by simpa using hj) (fun m hm hmj => h1 (m + 1) (by simpa using hm) (by omega)) (fun m hm hmj => h2 (m + 1) (by simpa using hm) (by omega))]
theorem zel {l : List Sc} {nm : List UInt8} (hp : AscS l) : hasS l nm = decide (∃ h : idxS l nm < l.length, l[idxS l nm].name = nm) := by
 rw [Bool.eq_iff_iff, decide_eq_true_eq]
 unfold hasS
 rw [List.any_eq_true]
 constructor
 ·rintro ⟨s, hs, he⟩
  have he : s.name = nm := by simpa using he
  obtain ⟨i, hi, rfl⟩ := List.getElem_of_mem hs
  have := zlE (l := l) (nm := nm) (j := i) (by omega) (fun m hm hmi => by rw [← he]; exact (List.pairwise_iff_getElem.1 hp) m i hm hi hmi) (fun m hm him => by
   rw [← he]
   by_cases e : i = m
   ·subst e; rw [stoT.irr]; simp
   ·exact fun q => by have := stoT.tr _ _ _ ((List.pairwise_iff_getElem.1 hp) i m hi hm (by omega)) q; rw [stoT.irr] at this; cases this)
  exact ⟨by omega, by simp only [this]; exact he⟩
 ·rintro ⟨h, he⟩
  exact ⟨_, List.getElem_mem h, by simpa using he⟩
section
variable {w : World}
theorem zgg (s : Sc) (nm : List UInt8) : Calls Tryz.prog 148 #[.agg (srcC s).toArray, .string (str nm)] w fun e w' => e = .returned (.int .i64 (compareBytes s.name nm)) ∧ Kp w w' n_ := by
 refine zaa (args := [.agg (srcC s).toArray, .string (str nm)]) Tryz.func148 rfl NL ?_; refine GW ?_
 obtain ⟨a_b1, v_b1, k_w1, z_w1, r_w1⟩ := new5 w 76 (srcC s)
 generalize w.alloc (.cells (List.toArray (srcC s)) 76) = w1 at *
 generalize hs_b1 : w.heap.size = b1 at *
 refine KGO ?_
 refine CallS.of (Tryz.call149 _ _) (zkx (str s.name) (str nm) w1) ?_
 rintro e w2 ⟨rfl, rfl⟩
 refine RT ?_
 rw [L_str, L_str]
 exact ⟨rfl, k_w1⟩
theorem zpI {v : Value} (l : List Sc) (nm : List UInt8) (hv : RowS w v l) (hl : l.length ≤ 1000000) : Calls Tryz.prog 147 #[v, .string (str nm), .func (.func 148) #[] #[]] w fun e w' =>
  ∃ (k : Nat) (b : Bool), e = .returned (.tuple #[.int .i64 (k : Nat), .bool b]) ∧ k ≤ l.length ∧ (AscS l → k = idxS l nm ∧ b = hasS l nm) ∧ Kp w w' n_ := by
 obtain ⟨a, cap, rfl, hr⟩ := hv
 refine zaa (args := [.slice a l.length cap, .string (str nm), .func (.func 148) #[] #[]]) Tryz.func147 rfl NL ?_; refine GW ?_
 refine Loop.intro (ι := Nat × Nat) (fun p => [(0, .slice a l.length cap), (1, .string (str nm)), (2, .func (.func 148) #[] #[]), (8, .int .i64 (l.length : Nat)), (9, .int .i64 p.1), (10, .int .i64 p.2)])
  (fun p wr => Kp w wr n_ ∧ p.1 ≤ p.2 ∧ p.2 ≤ l.length ∧ (AscS l → (∀ m (hm : m < l.length), m < p.1 → ltT l[m].name nm = true) ∧ ∀ m (hm : m < l.length), p.2 ≤ m → ¬ ltT l[m].name nm = true)) (fun p => p.2 - p.1) (0, l.length) ⟨rfl, rfl, rfl, rfl, rfl, rfl, trivial⟩
  ⟨Kp.refl _ _, by omega, Nat.le_refl _, fun _ => ⟨fun m _ hm => by omega, fun m h1 h2 => by omega⟩⟩ ?_
 rintro ⟨i, j⟩ g wr ⟨hK, hij, hj, hord⟩
 dsimp only at hij hj hord ⊢
 refine GW ?_
 by_cases hlt : i < j
 ·obtain ⟨gb, o, rfl, hgb, hat⟩ := hr (by omega)
  refine KGO ?_
  rw [zio i j (by omega)]
  have hm1 : i ≤ (i + j) / 2 := by omega
  have hm2 : (i + j) / 2 < j := by omega
  generalize (i + j) / 2 = h at *
  have hhl : h < l.length := by omega
  refine KGO ?_
  refine CallS.of (Tryz.call148 _ _) (zgg l[h] nm) ?_
  rintro e w1 ⟨rfl, k1⟩
  refine RT ?_
  by_cases hc : compareBytes l[h].name nm < 0
  ·refine KGO ?_
   refine ⟨(h + 1, j), ⟨rfl, rfl, rfl, rfl, v_int (by simp), rfl, trivial⟩, ⟨hK.trans0 k1, by dsimp only; omega, hj, fun hp => ⟨fun m hm hmh => ?_, (hord hp).2⟩⟩, by dsimp only; omega⟩
   dsimp only at hmh
   have hlh := (cb_lt _ _).1 hc
   by_cases e : m = h
   ·subst e; exact hlh
   ·exact stoT.tr _ _ _ ((List.pairwise_iff_getElem.1 hp) m h hm hhl (by omega)) hlh
  ·refine KGO ?_
   refine ⟨(i, h), ⟨rfl, rfl, rfl, rfl, rfl, rfl, trivial⟩, ⟨hK.trans0 k1, by dsimp only; omega, by dsimp only; omega, fun hp => ⟨(hord hp).1, fun m hm hmh => ?_⟩⟩, by dsimp only; omega⟩
   dsimp only at hmh
   have hlh : ¬ ltT l[h].name nm = true := fun q => hc ((cb_lt _ _).2 q)
   by_cases e : m = h
   ·subst e; exact hlh
   ·exact fun q => hlh (stoT.tr _ _ _ ((List.pairwise_iff_getElem.1 hp) h m hhl hm (by omega)) q)
 ·have hji : j = i := by omega
  subst hji
  have hidx : ∀ hp : AscS l, idxS l nm = j := fun hp => zlE hj (hord hp).1 (hord hp).2
  by_cases h17 : j < l.length
  ·obtain ⟨gb, o, rfl, hgb, hat⟩ := hr (by omega)
   refine KGO ?_
   refine CallS.of (Tryz.call148 _ _) (zgg l[j] nm) ?_
   rintro e w1 ⟨rfl, k1⟩
   refine RT ?_
   refine KGO ?_
   refine ⟨j, _, rfl, hj, fun hp => ⟨(hidx hp).symm, ?_⟩, hK.trans0 k1⟩
   rw [zel hp, Bool.eq_iff_iff, beq_iff_eq, decide_eq_true_eq, cb_eq]
   have hidx := hidx hp
   constructor
   ·intro he; exact ⟨by omega, by simp only [hidx]; exact he⟩
   ·rintro ⟨_, he⟩; simpa only [hidx] using he
  ·refine KGO ?_
   refine ⟨j, _, rfl, hj, fun hp => ⟨(hidx hp).symm, ?_⟩, hK⟩
   rw [zel hp]
   have hidx := hidx hp
   symm
   rw [decide_eq_false_iff_not]
   rintro ⟨h, _⟩
   omega
end
theorem Kp.fresh {w w' : World} {p : Nat → Prop} (k : Kp w w' (fun q => w.heap.size ≤ q ∨ p q)) : Kp w w' p := ⟨k.os, k.tape, k.output, k.size, fun q hq hn => k.block q hq fun h => h.elim (fun h => by omega) hn⟩
theorem zbo (s : Sc) (w : World) : (Instr.buildSlice 33 1 [(0, .agg #[.string (str s.name), .string (str s.text)])].toArray).run Tryz.prog w = .ok (.slice (some ⟨w.heap.size, 0, none⟩) 1 1) (w.alloc (.cells (srcC s).toArray 76)) := by
 simp [Instr.buildSlice, go_sem, Tryz.runUnderlying33, srcC]
theorem zeH (s : Sn) (w : World) : (Instr.buildSlice 34 1 [(0, .agg #[.string (str s.key), .int .i64 s.at_])].toArray).run Tryz.prog w = .ok (.slice (some ⟨w.heap.size, 0, none⟩) 1 1) (w.alloc (.cells (snC s).toArray 78)) := by
 simp [Instr.buildSlice, go_sem, Tryz.runUnderlying34, snC]
theorem zpq {K : Value → World → Prop} {B vb : Nat} {v : Value} {l : List Sn} {cs : Array Bool} {w : World} (h : OwnSn w B v l) (hB : B ≤ w.heap.size) (z : Sn) (hvb : VarK w vb 78 (snC z)) (hl : l.length ≤ 1000000000)
  (k : ∀ v' w', OwnSn w' B v' (l ++ [z]) → Kp w w' (own_ v) → K v' w') :
  RunN Tryz.prog (builtin .append #[34, 34] 34 cs [v, .slice (some ⟨vb, 0, none⟩) 1 1].toArray) w K := by
 refine RunN.app Tryz.underlying34 infoSn rfl (by decide) h hB ⟨vb, 0, none⟩ 1 1 (snC z) rfl (hvb.cells w 0 fun j u h => by simpa using h) (by have := oneSn [z]; simpa using this) (by omega) (by omega) fun v' w' h2 h3 => k v' w' ?_ ?_
 ·unfold OwnSn
  rw [List.length_append, List.flatMap_append]
  simpa using h2
 ·exact ⟨h3.os, h3.tape, h3.output, h3.size, fun i hi hn => h3.block i hi (fun e => hn e.symm)⟩
section
variable {w : World}
theorem zjM (s : Sn) {v : Ov} {o : Opr} {bp : Nat} (hc : At w bp 0 (opC v o)) : Calls Tryz.prog 90 #[.agg (snC s).toArray, .pointer (some ⟨bp, 0, none⟩)] w fun e w' => e = .returned (.bool (decide (s.key = o.name))) ∧ Kp w w' n_ := by
 refine zaa (args := [.agg (snC s).toArray, .pointer (some ⟨bp, 0, none⟩)]) Tryz.func90 rfl NL ?_; refine GW ?_
 obtain ⟨a_b1, v_b1, k_w1, z_w1, r_w1⟩ := new5 w 78 (snC s)
 generalize w.alloc (.cells (List.toArray (snC s)) 78) = w1 at *
 generalize hs_b1 : w.heap.size = b1 at *
 refine KGO ?_
 refine ⟨zad ?_, k_w1⟩
 rw [Bool.eq_iff_iff, decide_eq_true_eq, decide_eq_true_eq]
 exact zbm
theorem zfs {B b : Nat} {h : Hd} {lx : List Mr} {A : Acc} (nm : List UInt8) (hd : Drf w B b h lx A) (hl : A.scripts.length ≤ 1000) (ha : AscS A.scripts) : Calls Tryz.prog 86 #[.pointer (some ⟨b, 0, none⟩), .string (str nm)] w fun e w' =>
  e = .returned (.tuple #[.int .i64 (idxS A.scripts nm : Nat), .bool (hasS A.scripts nm)]) ∧ idxS A.scripts nm ≤ A.scripts.length ∧ Kp w w' n_ := by
 refine zaa (args := [.pointer (some ⟨b, 0, none⟩), .string (str nm)]) Tryz.func86 rfl NL ?_; refine GW ?_
 have hdA := hd.v.at
 refine KGO ?_
 refine CallS.of (Tryz.call147 _ _) (zpI (w := w) A.scripts nm hd.o.read.s (by omega)) ?_
 rintro e w1 ⟨k, bb, rfl, h1, h2, k1⟩
 obtain ⟨rfl, rfl⟩ := h2 ha
 refine RT ?_
 refine KGO ?_
 exact ⟨rfl, h1, k1⟩
theorem zlO {B b : Nat} {h : Hd} {lx : List Mr} {A : Acc} {v : Ov} {o : Opr} (hd : Drf w B b h lx A) (hf : Fit A) (ha : AscS A.scripts) :
  Calls Tryz.prog 36 #[.pointer (some ⟨b, 0, none⟩), .agg (opC v o).toArray] w fun e w' => Done w' b e (chooseA A o) ∧ Kp w w' (from_ B) := by
 refine zaa (args := [.pointer (some ⟨b, 0, none⟩), .agg (opC v o).toArray]) Tryz.func36 rfl NL ?_; refine GW ?_
 obtain ⟨a_b1, v_b1, k_w1, z_w1, r_w1⟩ := new5 w 28 (opC v o)
 generalize w.alloc (.cells (List.toArray (opC v o)) 28) = w1 at *
 generalize hs_b1 : w.heap.size = b1 at *
 refine KGO ?_
 refine CallS.of (Tryz.call86 _ _) (zfs (w := w1) (A := A) o.name (hd.keep k_w1) hf.sl ha) ?_
 rintro e w2 ⟨rfl, hix, k2⟩
 have K2 := k_w1.trans0 k2
 have a2 := zac a_b1 k2
 have kr2 := Kp.refl w2 n_
 refine RT ?_
 have hfin : ∀ w3, VarK w3 b 65 ((accC h A).set 3 (.string (str o.name))) → Kp w2 w3 (one_ b) → chooseA A o = .ok ({ A with active := o.name }, 0) → Done w3 b (.returned (.tuple #[.int .i64 0, .int .i64 0])) (chooseA A o) ∧ Kp w w3 (from_ B) := fun w3 v3 k3 hres => by
  rw [hres]
  have P := (hd.keep K2).o.p
  refine ⟨⟨rfl, zeb (w5 := w2) (ly := lx) (h' := h) (A' := { A with active := o.name }) v3 ⟨P.b, P.s, P.n, P.m, P.ml, P.mb⟩ k3 fun q hq => ?_⟩, zdY K2 (k3.mono fun q _ hq => ?_)⟩
  ·have := hd.lt q hq; omega
  ·have e : q = b := hq
   have := hd.B
   show B ≤ q
   omega
 have hemp : ∀ x : List UInt8, str x = (⟨#[]⟩ : ByteArray) ↔ x = [] := fun x => zbm (b := [])
 by_cases h1 : hasS A.scripts o.name = true
 ·have hres : chooseA A o = .ok ({ A with active := o.name }, 0) := by unfold chooseA; rw [if_neg (by rw [h1]; simp)]
  rw [h1]
  refine KGO ?_
  refine Store.cellK (i := 3) (hd.v.keep0 K2) NL (by rfl) ⟨rfl, by simp, by simp⟩ fun w3 v3 k3 => ?_
  refine KGO ?_
  exact ⟨(hfin w3 v3 k3 hres).1, (hfin w3 v3 k3 hres).2⟩
 ·have h1 : hasS A.scripts o.name = false := by simpa using h1
  rw [h1]
  by_cases h2 : o.name = []
  ·have hres : chooseA A o = .ok ({ A with active := o.name }, 0) := by unfold chooseA; rw [if_neg (by rw [h2]; simp)]
   have h3 : str o.name = (⟨#[]⟩ : ByteArray) := (hemp _).2 h2
   refine KGO ?_
   refine Store.cellK (i := 3) (hd.v.keep0 K2) NL (by rfl) ⟨rfl, by simp, by simp⟩ fun w3 v3 k3 => ?_
   refine KGO ?_
   exact ⟨(hfin w3 v3 k3 hres).1, (hfin w3 v3 k3 hres).2⟩
  ·have hres : chooseA A o = .error 5 := by unfold chooseA; rw [if_pos ⟨h1, h2⟩]
   have h3 : ¬ str o.name = (⟨#[]⟩ : ByteArray) := fun e => h2 ((hemp _).1 e)
   refine KGO ?_
   exact ⟨by rw [hres]; rfl, K2.of_none⟩
theorem zmJ {B b : Nat} {h : Hd} {lx : List Mr} {A : Acc} {v : Ov} {o : Opr} (hd : Drf w B b h lx A) (hf : Fit A) (ha : AscS A.scripts) :
  Calls Tryz.prog 35 #[.pointer (some ⟨b, 0, none⟩), .agg (opC v o).toArray] w fun e w' => Done w' b e (unsetA A o) ∧ Kp w w' (from_ B) := by
 have hsl := hf.sl
 refine zaa (args := [.pointer (some ⟨b, 0, none⟩), .agg (opC v o).toArray]) Tryz.func35 rfl NL ?_; refine GW ?_
 obtain ⟨a_b1, v_b1, k_w1, z_w1, r_w1⟩ := new5 w 28 (opC v o)
 generalize w.alloc (.cells (List.toArray (opC v o)) 28) = w1 at *
 generalize hs_b1 : w.heap.size = b1 at *
 refine KGO ?_
 refine CallS.of (Tryz.call86 _ _) (zfs (w := w1) (A := A) o.name (hd.keep k_w1) hf.sl ha) ?_
 rintro e w2 ⟨rfl, hix, k2⟩
 have K2 := k_w1.trans0 k2
 have a2 := zac a_b1 k2
 have kr2 := Kp.refl w2 n_
 have hdA := zac hd.v.at K2
 refine RT ?_
 by_cases h1 : hasS A.scripts o.name = true
 rotate_left
 ·have h1 : hasS A.scripts o.name = false := by simpa using h1
  have hres : unsetA A o = .error 5 := by unfold unsetA; rw [if_pos h1]
  rw [h1]
  refine KGO ?_
  exact ⟨by rw [hres]; rfl, K2.of_none⟩
 have h1' := h1
 rw [zel ha, decide_eq_true_eq] at h1'
 obtain ⟨hlt, _⟩ := h1'
 rw [h1]
 by_cases h2 : A.active = o.name
 ·have hres : unsetA A o = .error 20 := by unfold unsetA; rw [if_neg (by rw [h1]; simp), if_pos h2]
  have h3 : str A.active = str o.name := by rw [h2]
  refine KGO ?_
  exact ⟨by rw [hres]; rfl, K2.drew.of_none⟩
 have hres : unsetA A o = .ok ({ A with scripts := A.scripts.take (idxS A.scripts o.name) ++ A.scripts.drop (idxS A.scripts o.name + 1) }, 0) := by unfold unsetA; rw [if_neg (by rw [h1]; simp), if_neg h2]
 have h3 : ¬ str A.active = str o.name := fun e => h2 (zbm.1 e)
 generalize hie : idxS A.scripts o.name = i at *
 refine KGO ?_
 have K3 := K2.drew
 refine CallS.of (Tryz.call88 _ _) (zpg (w := w2.drew) A.scripts i (zaf hd.o.s K3) hlt (by omega)) ?_
 rintro e w4 ⟨v4, rfl, o4, k4, hb4⟩
 have hd3 := hd.keep K3
 obtain ⟨a4, c4, rfl⟩ := zab o4
 have hown : ∀ q, own_ h.S.v q → q < b := fun q hq => hd.lt q (Hd.all_s hq)
 have vA := hd3.v.keep k4 fun e => by have := hown b e; omega
 have P := hd3.o.setS (v := ⟨a4, _, c4⟩) k4 o4
 refine RT ?_
 refine KGO ?_
 refine SCK 2 vA fun w5 vA5 k5 => ?_
 refine KGO ?_
 rw [hres]
 refine ⟨⟨rfl, zeb (ly := lx) (h' := { h with S := ⟨a4, _, c4⟩ }) vA5 P k5 fun q hq => ?_⟩, (K3.of_none.trans' (k4.mono fun q _ hq => ?_)).trans' (k5.mono fun q _ hq => ?_)⟩
 ·unfold Hd.all Hd.bs at hq
  simp only [List.mem_append, zaz] at hq
  rcases hq with (((hq | hq) | hq) | hq) | hq
  ·have := hd.lt q (Hd.all_b hq); omega
  ·have hq : (Value.slice a4 (A.scripts.take i ++ A.scripts.drop (i + 1)).length c4).ownBlock = some q := hq
   rw [hb4] at hq; have := hown q hq; omega
  ·have := hd.lt q (Hd.all_n hq); omega
  ·have := hd.lt q (Hd.all_m hq); omega
  ·have := hd.lt q (List.mem_append_right _ hq); omega
 ·exact (hd.o.s.lt q hq).1
 ·have e : q = b := hq
  have := hd.B
  show B ≤ q
  omega
end
theorem zjy (a : ByteArray) (b : Int) (w : World) : (Instr.build 78 [(0, .string a), (1, .int .i64 b)].toArray).run Tryz.prog w = .ok (.agg #[.string a, .int .i64 b]) w := by
 simp [Instr.build, Instr.fill, go_sem, Tryz.runUnderlying78]
theorem zbN (a b : ByteArray) (w : World) : (Instr.build 76 [(0, .string a), (1, .string b)].toArray).run Tryz.prog w = .ok (.agg #[.string a, .string b]) w := by
 simp [Instr.build, Instr.fill, go_sem, Tryz.runUnderlying76]
section
variable {w : World}
theorem zkX {B b : Nat} {h : Hd} {lx : List Mr} {A : Acc} {v : Ov} {o : Opr} (hd : Drf w B b h lx A) (hf : Fit A) (fo : FitO o) :
  Calls Tryz.prog 37 #[.pointer (some ⟨b, 0, none⟩), .agg (opC v o).toArray] w fun e w' => Done w' b e (answerA A o) ∧ Kp w w' (from_ B) := by
 have hnl := hf.nl
 have hz : (str o.name).size = o.name.length := zav o.name
 have hnm := fo.nm
 refine zaa (args := [.pointer (some ⟨b, 0, none⟩), .agg (opC v o).toArray]) Tryz.func37 rfl NL ?_; refine GW ?_
 obtain ⟨a_b1, v_b1, k_w1, z_w1, r_w1⟩ := new5 w 28 (opC v o)
 generalize w.alloc (.cells (List.toArray (opC v o)) 28) = w1 at *
 generalize hs_b1 : w.heap.size = b1 at *
 have kr1 := Kp.refl w1 n_
 by_cases h1 : 1000 < o.name.length
 ·have hres : answerA A o = .error 1 := by unfold answerA; rw [if_pos (.inl h1)]
  refine KGO ?_
  exact ⟨by rw [hres]; rfl, k_w1.of_none⟩
 refine KGO ?_
 refine CallS.of (Tryz.call38 _ _) (zbR (w := w1) o.at_ 0 1099511627776) ?_
 rintro e w2 ⟨rfl, rfl⟩
 have K2 : Kp w w1 n_ := k_w1
 refine RT ?_
 by_cases h2 : 0 ≤ o.at_ ∧ o.at_ ≤ 1099511627776
 rotate_left
 ·have hres : answerA A o = .error 1 := by unfold answerA; rw [if_pos (.inr h2)]
  rw [show decide (0 ≤ o.at_ ∧ o.at_ ≤ 1099511627776) = false from decide_eq_false h2]
  refine KGO ?_
  exact ⟨by rw [hres]; rfl, K2.of_none⟩
 have hres : answerA A o = .ok ({ A with seen := (seenA A.seen o).drop ((seenA A.seen o).length - 256) }, 0) := by unfold answerA; rw [if_neg (fun q => q.elim h1 fun q => q h2)]
 have hdA := zac hd.v.at K2
 rw [show decide (0 ≤ o.at_ ∧ o.at_ ≤ 1099511627776) = true from decide_eq_true h2]
 refine KGO ?_
 conv => arg 3; simp [ev, upd]
 have K3 := K2
 refine CallS.of (Tryz.call89 _ _) (zpx (w := w1) A.seen 90 (.pointer (some ⟨b1, 0, none⟩)) (fun s => decide (s.key = o.name)) (zaf hd.o.n K3) (by omega) Tryz.call90 (fun s _ w' k => zjM s (v := v) (o := o) (zaM a_b1 k (fun e => by have := hd.lt b1 (Hd.all_n e); have := hd.v.lt; omega)))) ?_
 rintro e w3 ⟨v3, rfl, o3, k3, hb3⟩
 have hbw : b < w.heap.size := hd.v.lt
 have hb1 : ∀ q, own_ h.N.v q → q < b := fun q hq => hd.lt q (Hd.all_n hq)
 have a3 : At w3 b1 0 (opC v o) := zaM a_b1 k3 fun e => by have := hb1 b1 e; omega
 obtain ⟨a3', c3, rfl⟩ := zab o3
 generalize hl1 : (A.seen.filter fun s => !decide (s.key = o.name)) = l1 at *
 have hl1n : l1.length ≤ 100000 := by rw [← hl1]; exact Nat.le_trans (List.length_filter_le _ _) hnl
 refine RT ?_
 refine KGO ?_
 refine RunV.of (zjy _ _ _) ?_
 refine KGO ?_
 refine RunV.of (zeH ⟨o.name, o.at_⟩ _) ?_
 have vb := VarK.new w3 78 (snC ⟨o.name, o.at_⟩)
 have k4 : Kp w3 (w3.alloc (.cells (snC ⟨o.name, o.at_⟩).toArray 78)) n_ := (Kp.refl _ _).alloc _
 generalize w3.alloc (.cells (snC ⟨o.name, o.at_⟩).toArray 78) = w4 at *
 generalize w3.heap.size = vbk at *
 refine KGO ?_
 refine zpq (zaf o3 k4) (by have := hd.B; have := K2.size; have := k3.size; have := k4.size; omega) ⟨o.name, o.at_⟩ vb (by omega) fun v5 w5 o5 k5 => ?_
 have hl2 : l1 ++ [⟨o.name, o.at_⟩] = seenA A.seen o := by rw [← hl1]; rfl
 rw [hl2] at o5
 have hl2n : (seenA A.seen o).length ≤ 100001 := by rw [← hl2, List.length_append]; simp; omega
 have hl2p : 0 < (seenA A.seen o).length := by rw [← hl2, List.length_append]; simp
 generalize seenA A.seen o = l2 at *
 have k45 : Kp w1 w5 (own_ h.N.v) := k3.trans' (k4.of_none.trans' (k5.mono fun q _ hq => by
  have e : (Value.slice a3' l1.length c3).ownBlock = some q := hq
  rw [hb3] at e; exact e))
 have hd1 := hd.keep K2
 have vA := hd1.v.keep k45 fun e => by have := hb1 b e; omega
 rcases own_blockK o5 with ⟨hq, h0⟩ | ⟨g, cap, cells, rfl, hBg, hv, hnc, hcm, hcl, htk⟩
 ·omega
 have hz5 : w.heap.size ≤ w5.heap.size := Nat.le_trans K2.size k45.size
 have hgb : g ≠ b := fun e => by
  subst e
  have s1 := hv.shape
  rw [vA.shape] at s1
  injection s1 with s1
  injection s1 with s1
  exact absurd s1 (by decide)
 refine KGO ?_
 rw [show max ((l2.length : Nat) - 256 : Int) 0 = ((l2.length - 256 : Nat) : Int) by omega]
 refine Cut.from (by omega) hnc ?_
 refine KGO ?_
 rw [if_neg (by omega : ¬ l2.length - 256 = cap)]
 refine SCK 4 vA fun w6 v6 k6 => ?_
 refine KGO ?_
 have hg6 : VarK w6 g 78 cells := hv.keep k6 hgb
 have P := hd1.o.setN (v := ⟨some ⟨g, 0, none⟩, l2.length, cap⟩) (l := l2) k45 o5
 have P6 := P.keep k6 fun q hq e => by
  have e : q = b := e
  subst e
  unfold Hd.all Hd.bs at hq
  simp only [List.mem_append, zaz] at hq
  rcases hq with (((hq | hq) | hq) | hq) | hq
  ·have := hd.lt q (Hd.all_b hq); omega
  ·have := hd.lt q (Hd.all_s hq); omega
  ·have hq : (Value.slice (some ⟨g, 0, none⟩) l2.length cap).ownBlock = some q := hq
   injection hq with hq
   exact hgb hq
  ·have := hd.lt q (Hd.all_m hq); omega
  ·have := hd.lt q (List.mem_append_right _ hq); omega
 have R := P6.read
 have hdl : (l2.drop (l2.length - 256)).length = l2.length - (l2.length - 256) := List.length_drop
 rw [← hdl] at v6
 have hrn : ∀ u, VarK u g 78 cells → RowN u (.slice (some ⟨g, 0 + (l2.length - 256) * 2, none⟩) (l2.drop (l2.length - 256)).length (cap - (l2.length - 256))) (l2.drop (l2.length - 256)) := fun u hu => ⟨_, _, rfl, fun _ => ⟨g, _, rfl, hu.lt, fun i u' hi => by
  rw [← zaZ snC 2 lenSn, List.getElem?_drop, ← htk, List.getElem?_take] at hi
  split at hi
  ·rw [Nat.add_assoc]
   exact hu.at _ _ hi
  ·cases hi⟩⟩
 rw [hres]
 refine ⟨⟨rfl, ⟨h.B, h.M, h.S, ⟨some ⟨g, 0 + (l2.length - 256) * 2, none⟩, (l2.drop (l2.length - 256)).length, cap - (l2.length - 256)⟩⟩, v6, ⟨R.b, R.m, R.s, hrn _ hg6⟩, fun u ku => ?_⟩, (zdY K2 (k45.mono fun q _ hq => (hd.o.n.lt q hq).1)).trans' (k6.mono fun q _ hq => ?_)⟩
 ·have Q := P6.stab u ku
  exact ⟨Q.b, Q.m, Q.s, hrn u (hg6.keep ku fun e => by
   obtain ⟨cs, hb'⟩ := e
   have s1 := hg6.shape
   rcases hb' with hb' | hb'
   ·rw [hb'.shape] at s1
    injection s1 with s1
    injection s1 with s1
    exact absurd s1 (by decide)
   ·rw [hb'.shape] at s1
    injection s1 with s1
    injection s1 with s1
    exact absurd s1 (by decide))⟩
 ·have e : q = b := hq
  have := hd.B
  show B ≤ q
  omega
end
section
variable {w : World}
theorem zpQ {B b : Nat} {h : Hd} {lx : List Mr} {A : Acc} {v : Ov} {o : Opr} (hd : Drf w B b h lx A) (hf : Fit A) (fo : FitO o) (ha : AscS A.scripts) :
  Calls Tryz.prog 34 #[.pointer (some ⟨b, 0, none⟩), .agg (opC v o).toArray] w fun e w' => Done w' b e (setA A o) ∧ Kp w w' (from_ B) := by
 have hsl := hf.sl
 have hz : (str o.text).size = o.text.length := zav o.text
 have hnm := fo.nm
 have htx := fo.tx
 refine zaa (args := [.pointer (some ⟨b, 0, none⟩), .agg (opC v o).toArray]) Tryz.func34 rfl NL ?_; refine GW ?_
 obtain ⟨a_b1, v_b1, k_w1, z_w1, r_w1⟩ := new5 w 28 (opC v o)
 generalize w.alloc (.cells (List.toArray (opC v o)) 28) = w1 at *
 generalize hs_b1 : w.heap.size = b1 at *
 refine KGO ?_
 refine CallS.of (Tryz.call86 _ _) (zfs (w := w1) (A := A) o.name (hd.keep k_w1) hf.sl ha) ?_
 rintro e w2 ⟨rfl, hix, k2⟩
 have K2 := k_w1.trans0 k2
 have a2 := zac a_b1 k2
 have kr2 := Kp.refl w2 n_
 have hd2 := hd.keep K2
 have hdA := hd2.v.at
 refine RT ?_
 refine KGO ?_
 refine CallS.of (Tryz.call61 _ _) (zgI (w := w2) o.name (by omega)) ?_
 rintro e w2' ⟨rfl, rfl⟩
 refine RT ?_
 by_cases h1 : scB o.name = true
 rotate_left
 ·have h1 : scB o.name = false := by simpa using h1
  have hres : setA A o = .error 1 := by unfold setA; rw [if_pos h1]
  rw [h1]
  refine KGO ?_
  exact ⟨by rw [hres]; rfl, K2.of_none⟩
 rw [h1]
 by_cases h2 : 32768 < o.text.length
 ·have hres : setA A o = .error 16 := by unfold setA; rw [if_neg (by rw [h1]; simp), if_pos h2]
  refine KGO ?_
  exact ⟨by rw [hres]; rfl, K2.of_none⟩
 have hown : ∀ q, own_ h.S.v q → q < b := fun q hq => hd.lt q (Hd.all_s hq)
 have hbw : b < w.heap.size := hd.v.lt
 by_cases h3 : hasS A.scripts o.name = true
 ·have hres : setA A o = .ok ({ A with scripts := A.scripts.set (idxS A.scripts o.name) ⟨o.name, o.text⟩ }, 0) := by unfold setA; rw [if_neg (by rw [h1]; simp), if_neg h2, if_pos h3]
  have h3' := h3
  rw [zel ha, decide_eq_true_eq] at h3'
  obtain ⟨hlt, hne⟩ := h3'
  rw [h3]
  generalize hie : idxS A.scripts o.name = i at *
  rcases own_blockK hd2.o.s with ⟨_, h0⟩ | ⟨g, cap, cells, heS, hBg, hvS, hnc, hcm, hcl, htk⟩
  ·omega
  have heS' := heS
  injection heS with heS1 heS2 heS3
  have hdB := hdA
  unfold accC at hdB
  rw [heS1, heS2] at hdB
  refine KGO ?_
  refine Store.atK (i := 0 + i * 2 + 1) hvS (by rw [hcl]; omega) (by rfl) ⟨rfl, by simp, by simp⟩ fun wA vA kA => ?_
  rw [show 0 + i * 2 + 1 = i * 2 + 1 by omega] at vA
  have oA := zbp (w := w2.drew) lenSrc (l := A.scripts) (k := i) (j := 1) (x := ⟨o.name, o.text⟩) hlt (by decide) (by rw [← hne]; rfl) hBg hnc hcm hcl htk vA
  have hg : h.S.v.ownBlock = some g := by rw [heS']; rfl
  have kA' : Kp w2 wA (own_ h.S.v) := ((Kp.refl w2 n_).drew.of_none).trans' (kA.mono fun q _ e => by have e : q = g := e; rw [e]; exact hg)
  have P := hd2.o.setS (v := h.S) (B' := B) kA' (l := A.scripts.set i ⟨o.name, o.text⟩) (by rw [heS']; unfold OwnSrc; rw [List.length_set]; exact oA)
  have vb := hd2.v.keep kA' fun e => by have := hown b e; omega
  refine KGO ?_
  rw [hres]
  exact ⟨⟨rfl, h, vb, P.read, P.stab⟩, zdY K2 (kA'.mono fun q _ hq => (hd.o.s.lt q hq).1)⟩
 have h3 : hasS A.scripts o.name = false := by simpa using h3
 rw [h3]
 have hSn : h.S.n = A.scripts.length := by
  obtain ⟨a, c, e⟩ := zab hd.o.s
  injection e
 by_cases h4 : 16 ≤ A.scripts.length
 ·have hres : setA A o = .error 3 := by unfold setA; rw [if_neg (by rw [h1]; simp), if_neg h2, if_neg (by rw [h3]; simp), if_pos h4]
  refine KGO ?_
  exact ⟨by rw [hres]; rfl, K2.of_none⟩
 have hres : setA A o = .ok ({ A with scripts := A.scripts.take (idxS A.scripts o.name) ++ ⟨o.name, o.text⟩ :: A.scripts.drop (idxS A.scripts o.name) }, 0) := by unfold setA; rw [if_neg (by rw [h1]; simp), if_neg h2, if_neg (by rw [h3]; simp), if_neg h4]
 generalize hie : idxS A.scripts o.name = i at *
 refine KGO ?_
 have hS1 : ∀ u, Kp w2 u (own_ h.S.v) → At u b1 0 (opC v o) := fun u hu => zaM a2 hu fun e => by have := hown b1 e; omega
 have hS2 : ∀ u, Kp w2 u (own_ h.S.v) → At u b 0 (accC h A) := fun u hu => zaM hdA hu fun e => by have := hown b e; omega
 refine Draw.heldEnd (fun u => Kp w2 u (own_ h.S.v)) (fun _ => true) (by simp) (by decide +kernel) (by decide +kernel) (Kp.refl _ _).drew ?_
 refine KGO ?_
 refine Held.one (by rfl) (fun u hu => hS2 u hu 2 _ rfl) ?_
 refine KGO ?_
 refine Held.one (by rfl) (fun u hu => hS1 u hu 4 _ rfl) ?_
 refine KGO ?_
 refine Held.one (by rfl) (fun u hu => hS1 u hu 6 _ rfl) ?_
 refine KGO ?_
 refine RunV.of (zbN _ _ _) ?_
 refine KGO ?_
 refine RunV.of (zbo ⟨o.name, o.text⟩ _) ?_
 have vb := VarK.new w2.drew 76 (srcC ⟨o.name, o.text⟩)
 have k4 : Kp w2 (w2.drew.alloc (.cells (srcC ⟨o.name, o.text⟩).toArray 76)) n_ := (Kp.refl w2 n_).drew.alloc _
 have hvk : w2.drew.heap.size = w2.heap.size := rfl
 generalize w2.drew.alloc (.cells (srcC ⟨o.name, o.text⟩).toArray 76) = w4 at *
 generalize w2.drew.heap.size = vbk at *
 have K4 := K2.trans0 k4
 have hd4 := hd.keep K4
 have hne : ∀ g, h.S.v.ownBlock = some g → g ≠ vbk := fun g hg => by
  have := hown g hg
  have := K2.size
  omega
 refine ⟨k4.of_none, ?_⟩
 refine KGO ?_
 refine CallS.of (Tryz.call87 _ _) (zoM (w := w4) A.scripts i ⟨o.name, o.text⟩ hd4.o.s (by have := hd4.B; have := hd4.v.lt; omega) hix hsl vb hne) ?_
 rintro e w5 ⟨v5, rfl, o5, k5⟩
 have k5 := Kp.fresh k5
 obtain ⟨a5, c5, rfl⟩ := zab o5
 have vA := hd4.v.keep k5 fun e => by have := hown b e; omega
 have P := hd4.o.setS (v := ⟨a5, _, c5⟩) k5 o5
 have hnb := zau o5 vA (by decide)
 refine RT ?_
 refine ⟨k4.of_none.trans' k5, ?_⟩
 refine KGO ?_
 refine SCK 2 vA fun w6 vA6 k6 => ?_
 refine KGO ?_
 rw [hres]
 refine ⟨⟨rfl, zeb (ly := lx) (h' := { h with S := ⟨a5, _, c5⟩ }) vA6 P k6 fun q hq => ?_⟩, (K4.of_none.trans' (k5.mono fun q _ hq => ?_)).trans' (k6.mono fun q _ hq => ?_)⟩
 ·unfold Hd.all Hd.bs at hq
  simp only [List.mem_append, zaz] at hq
  rcases hq with (((hq | hq) | hq) | hq) | hq
  ·have := hd.lt q (Hd.all_b hq); omega
  ·exact hnb q hq
  ·have := hd.lt q (Hd.all_n hq); omega
  ·have := hd.lt q (Hd.all_m hq); omega
  ·have := hd.lt q (List.mem_append_right _ hq); omega
 ·exact (hd.o.s.lt q hq).1
 ·have e : q = b := hq
  have := hd.B
  show B ≤ q
  omega
end
end Go.Proofs.YtohhkegmbgancaaGreatDoor
