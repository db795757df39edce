/- Helper lemmas that the proved statement rests on; no conditions of their own. -/
import Derived.Test.YtennokckmjcefaaGreatDoorGMg7
set_option linter.unusedVariables false
set_option maxHeartbeats 8000000
set_option maxRecDepth 100000
namespace Go.Proofs.YtennokckmjcefaaGreatDoor
open Go.Shelf Go.RowKit Go.Pw Go.Vc Go.Cs Go.Lib Go.Cd Go.Mg
abbrev OwnPr (w : World) (B : Nat) (v : Value) (l : List Pr) : Prop := w.ownsRow B 44 2 v l.length (l.flatMap prC)
theorem zsl {w : World} {v : Value} (l : List Pr) (g : Nat) (c0 : Value) (p : Pr → Bool) (hv : RowO w v prC l) (hl : l.length ≤ 1000000000) (hg : ∀ (args : Array Value) (w : World), (callFunc g args).run Tryz.prog w = .ok (.enter g args) w)
  (hp : ∀ x ∈ l, ∀ w', Kp w w' n_ → Calls Tryz.prog g #[.agg (prC x).toArray, c0] w' fun e w'' => e = .returned (.bool (p x)) ∧ Kp w' w'' n_) :
  Calls Tryz.prog 178 #[v, .func (.func g) #[] #[c0]] w fun e w' => e = .returned (.int .i64 (idxP p l)) ∧ Kp w w' n_ := by
 obtain ⟨a, cap, rfl, hr⟩ := hv
 refine zaa (args := [.slice a l.length cap, .func (.func g) #[] #[c0]]) Tryz.func178 rfl NL ?_; refine GW ?_
 refine Loop.intro (ι := Nat) (fun i => [(0, .slice a l.length cap), (1, .func (.func g) #[] #[c0]), (7, .int .i64 (l.length : Nat)), (8, .int .i64 (i : Nat))])
  (fun i wr => Kp w wr n_ ∧ i ≤ l.length ∧ ∀ j (h : j < l.length), j < i → p l[j] = false) (fun i => l.length - i) 0 ⟨rfl, rfl, rfl, rfl, trivial⟩ ⟨Kp.refl _ _, Nat.zero_le _, fun _ _ h => by omega⟩ ?_
 rintro i gg wr ⟨hK, hi, he⟩
 refine GW ?_
 by_cases hlt : i < l.length
 ·obtain ⟨gb, o, rfl, hgb, hat⟩ := hr (by omega)
  have hpc := hp l[i] (List.getElem_mem hlt) wr hK
  obtain ⟨q, hq⟩ : ∃ q, p l[i] = q := ⟨_, rfl⟩
  rw [hq] at hpc
  refine KGO ?_
  refine CallS.of (hg _ _) hpc ?_
  rintro e w1 ⟨rfl, k1⟩
  refine RT ?_
  cases q with
  | true =>
   refine KGO ?_
   exact ⟨by rw [zdx hlt hq he], hK.trans0 k1⟩
  | false =>
   refine KGO ?_
   exact ⟨i + 1, ⟨rfl, rfl, rfl, v_int (by simp), trivial⟩, ⟨hK.trans0 k1, by omega, fun j h hj => by
    rcases Nat.lt_or_ge j i with h' | h'
    ·exact he j h h'
    ·obtain rfl : j = i := by omega
     exact hq⟩, by dsimp only; omega⟩
 ·refine KGO ?_
  exact ⟨by rw [zdQ fun j h => he j h (by omega)], hK⟩
theorem zqQ {w : World} {v : Value} {B : Nat} (l : List Pr) (g : Nat) (c0 : Value) (p : Pr → Bool) (ho : OwnPr w B v l) (hl : l.length ≤ 1000000000) (hg : ∀ (args : Array Value) (w : World), (callFunc g args).run Tryz.prog w = .ok (.enter g args) w)
  (hp : ∀ x ∈ l, ∀ w', Kp w w' (own_ v) → Calls Tryz.prog g #[.agg (prC x).toArray, c0] w' fun e w'' => e = .returned (.bool (p x)) ∧ Kp w' w'' n_) :
  Calls Tryz.prog 126 #[v, .func (.func g) #[] #[c0]] w fun e w' => ∃ v', e = .returned v' ∧ OwnPr w' B v' (l.filter fun x => !p x) ∧ Kp w w' (own_ v) ∧ (v'.ownBlock = v.ownBlock) := by
 obtain ⟨a, cap0, rfl⟩ := zab ho
 refine zaa (args := [.slice a l.length cap0, .func (.func g) #[] #[c0]]) Tryz.func126 rfl NL ?_; refine GW ?_
 refine CallS.of (Tryz.call178 _ _) (zsl l g c0 p (zao ho) hl hg (fun x hx w' k => hp x hx w' k.of_none)) ?_
 rintro e w1 ⟨rfl, k1⟩
 refine RT ?_
 rcases idxP_lt p l with hi | ⟨i0, hi0, he0, hp0, hb0⟩
 ·rw [hi]
  refine KGO ?_
  refine ⟨_, rfl, ?_, k1.of_none, rfl⟩
  have hf : (l.filter fun x => !p x) = l := List.filter_eq_self.2 fun x hx => by
   have h : ¬ l.any p = true := fun h => by have := (zeS p l).2 h; omega
   have := List.any_eq_false.1 (by simpa using h) x hx
   simpa using this
  rw [hf]
  exact zac ho k1
 rw [he0]
 rcases own_blockK ho with ⟨hnil, h0⟩ | ⟨gb, cap, cells0, hev, hBg, hv0, hnc, hcm, hcl0, htk0⟩
 ·omega
 injection hev with hev _ hcc
 subst hev; subst hcc
 have hgk : gb < w1.heap.size := Nat.lt_of_lt_of_le hv0.lt k1.size
 have ho1 := zac ho k1
 have hfl0 : ((l.take (i0 + 1)).filter fun x => !p x) = l.take i0 := by
  rw [zcx hi0, hp0]
  have : (l.take i0).filter (fun x => !p x) = l.take i0 := List.filter_eq_self.2 fun x hx => by
   obtain ⟨j, hj, rfl⟩ := List.mem_take_iff_getElem.1 hx
   rw [hb0 j (by omega)]; rfl
  rw [this]; simp
 refine KGO ?_
 refine Loop.intro (ι := Nat × Nat × List Pr) (fun q => [(0, .slice (some ⟨gb, 0, none⟩) l.length cap0), (1, .func (.func g) #[] #[c0]), (5, .int .i64 (q.1 : Nat)), (6, .int .i64 (q.2.1 : Nat))])
  (fun q wr => Kp w wr (one_ gb) ∧ q.2.1 ≤ l.length ∧ q.1 < q.2.1 ∧ q.2.2.length = l.length ∧ q.2.2.take q.1 = ((l.take q.2.1).filter fun x => !p x) ∧ q.2.2.drop q.2.1 = l.drop q.2.1 ∧ OwnPr wr B (.slice (some ⟨gb, 0, none⟩) q.2.2.length cap0) q.2.2)
  (fun q => l.length - q.2.1) (i0, i0 + 1, l) ⟨rfl, rfl, rfl, v_int (by simp), trivial⟩ ⟨k1.of_none, by dsimp only; omega, by dsimp only; omega, rfl, by dsimp only; rw [hfl0], rfl, ho1⟩ ?_
 clear ho1 hfl0 hb0 hp0 he0 hi0 i0
 rintro ⟨i, j, cur⟩ gg wr ⟨hK, hj, hij, hcl2, htk2, hdr2, ho2⟩
 dsimp only at hj hij hcl2 htk2 hdr2 ho2 ⊢
 rcases own_blockK ho2 with ⟨h, h0⟩ | ⟨g2, cap, cells, hev, hBg2, hv, hnc2, hcm2, hcl, htk⟩
 ·cases h
 injection hev with hev _ hcc
 injection hev with hev
 injection hev with hev
 subst hev; subst hcc
 have hrow := zdD ho2
 have kr := Kp.refl wr n_
 refine GW ?_
 by_cases hlt : j < l.length
 ·have hcj : cur[j]'(by omega) = l[j] := by
   have h1 : (cur.drop j)[0]? = (l.drop j)[0]? := by rw [hdr2]
   rw [List.getElem?_drop, List.getElem?_drop, Nat.add_zero, List.getElem?_eq_getElem (by omega), List.getElem?_eq_getElem hlt] at h1
   exact Option.some.inj h1
  have hfs := zcx (p := fun x => !p x) hlt
  have hjc : j < cur.length := by omega
  obtain ⟨q, hq⟩ : ∃ q, p l[j] = q := ⟨_, rfl⟩
  have hmx := List.getElem_mem hlt
  rw [hq] at hfs
  refine KGO ?_
  rw [hcj]
  generalize hxj : l[j] = x at *
  refine Store.fresh (vs := prC x) (by rfl) rfl (zar (by rfl)) ?_
  obtain ⟨a_b7, k_wv, z_wv⟩ := new3 wr 44 (prC x)
  generalize wr.alloc (.cells (List.toArray (prC x)) 44) = wv at *
  generalize hs_b7 : wr.heap.size = b7 at *
  refine KGO ?_
  have hpc := hp x hmx wv ((hK.trans0 k_wv).mono fun q _ hq => by have hq : q = gb := hq; rw [hq]; rfl)
  rw [hq] at hpc
  refine CallS.of (hg _ _) hpc ?_
  rintro e w1 ⟨rfl, k1⟩
  refine RT ?_
  cases q with
  | true =>
   refine KGO ?_
   refine ⟨(i, j + 1, cur), ⟨rfl, rfl, rfl, v_int (by simp), trivial⟩, ⟨(hK.trans0 k_wv).trans0 k1, by dsimp only; omega, by dsimp only; omega, hcl2, ?_, ?_, zac (zac ho2 k_wv) k1⟩, by dsimp only; omega⟩
   ·dsimp only
    rw [hfs, htk2]; simp
   ·dsimp only
    rw [← List.drop_drop, hdr2, List.drop_drop]
  | false =>
   refine KGO ?_
   have hv := (hv.keep0 k_wv).keep0 k1
   refine Store.elemK (l := cur) (k := i) (B := B) (cap := cap0) x lenPr (by rfl) (zar (by rfl)) hv hBg (by omega) hcm hcl htk (by omega) fun w2 o2 v2 k2 => ?_
   refine KGO ?_
   have hil : i < cur.length := by omega
   refine ⟨(i + 1, j + 1, cur.set i x), ⟨rfl, rfl, v_int (by simp), v_int (by simp), trivial⟩, ⟨(hK.trans0 k_wv).trans' (k1.of_none.trans' k2), by dsimp only; omega, by dsimp only; omega, by dsimp only; rw [List.length_set]; exact hcl2, ?_, ?_, ?_⟩, by dsimp only; omega⟩
   ·dsimp only
    rw [hfs, ← htk2, List.take_succ_eq_append_getElem (by rw [List.length_set]; exact hil), List.getElem_set_self, List.take_set_of_le (Nat.le_refl _)]
    simp
   ·dsimp only
    rw [List.drop_set_of_lt (by omega), ← List.drop_drop, hdr2, List.drop_drop]
   ·dsimp only
    unfold OwnPr
    rw [List.length_set]
    exact o2
 ·have hjl : j = l.length := by omega
  subst hjl
  rw [List.take_length] at htk2
  have hil : i < cur.length := by omega
  refine KGO ?_
  rw [if_neg (by omega : ¬ i = cap0)]
  refine RunN.clearK (s := 2) (n := l.length - i) Tryz.underlying37 infoPr rfl (by intro u hu; simp [Value.cells] at hu; first | (subst hu; rfl) | (rcases hu with rfl | rfl <;> rfl)) hv (by first | (rw [hcl]; omega) | omega) fun w3 zs hzl v3 k3 => ?_
  refine KGO ?_
  have hle : (l.filter fun x => !p x).length = i := by rw [← htk2, List.length_take]; omega
  rw [if_neg (by omega : ¬ 0 = cap0), Nat.sub_zero, Nat.sub_zero]
  refine ⟨_, rfl, ?_, ((hK.trans' k3).mono fun q _ hq => by have hq : q = gb := hq; rw [hq]; rfl), rfl⟩
  have htA : cells.take (0 + i * 2) = (l.filter fun x => !p x).flatMap prC := by
   rw [Nat.zero_add, ← htk2, ← zbw prC 2 lenPr, ← htk, List.take_take, Nat.min_eq_left (by omega)]
  have hlA : ((l.filter fun x => !p x).flatMap prC).length = i * 2 := by rw [zaU prC 2 lenPr, hle]
  first | rw [htA] at v3 | (rw [show 0 + i * 2 = 0 + i by omega] at htA; rw [htA] at v3)
  unfold OwnPr
  rw [hle]
  refine zbJ hBg v3 (by omega) hcm2 ?_ ?_ hlA
  ·rw [List.length_append, List.length_append, hlA, hzl, List.length_drop]; omega
  ·rw [List.append_assoc, ← hlA, List.take_left]
section
variable {w : World}
theorem zrT {f : Fr} {y : Operand} (w : World) (hy : ev f y = .int .i64 ((0 : Nat) : Int) := by rfl) : (Instr.sliceAt 40 (.slice none 0 0) none ((some y).map (ev f)) none).run Tryz.prog w = .ok (.slice none 0 0) w := by
 obtain ⟨i, hi, _, hs, _⟩ := zbN infoI
 simp [Instr.sliceAt, hy, Instr.slice, Instr.sliceBounds, go_sem, zaJ Tryz.underlying40, zbX hi]
theorem gr_I (n : Nat) (hn : n ≤ 8796093022208) : Calls Tryz.prog 232 #[.slice none 0 0, .int .i64 (n : Nat)] w fun e w' => ∃ v, e = .returned v ∧ OwnI w' w.heap.size v [] ∧ Kp w w' n_ := by
 refine zaa (args := [.slice none 0 0, .int .i64 (n : Nat)]) Tryz.func232 rfl NL ?_; refine GW ?_
 refine KGO ?_
 refine RunN.capK Tryz.underlying40 ?_
 rcases Nat.eq_zero_or_pos n with h0 | h0
 ·subst h0
  refine KGO ?_
  exact ⟨_, rfl, World.ownsRow_nil _ _ _ _, Kp.refl _ _⟩
 ·refine KGO ?_
  refine RunN.capK Tryz.underlying40 ?_
  refine KGO ?_
  refine RunV.of (v := .slice none 0 0) (w' := w) (zrT _) ?_
  refine KGO ?_
  rw [show ((n : Nat) : Int) - (((0 : Nat) : Int) - ((0 : Nat) : Int)) = ((n : Nat) : Int) by omega]
  refine RunN.zeros0 Tryz.underlying40 Tryz.underlying3 infoI rfl (by decide) h0 (by omega) (by omega) fun w1 cells c1 v1 hl1 hc1 hm1 k1 => ?_
  refine KGO ?_
  rw [if_neg (by omega : ¬ 0 = c1), Nat.sub_zero, Nat.sub_zero]
  exact ⟨_, rfl, zbJ (xs := []) (Nat.le_refl _) v1 (Nat.zero_le _) hm1 hl1 (by simp) rfl, k1⟩
abbrev slCI (p : Sl × List Int) : List Value := [.slice p.1.a p.1.n p.1.c]
theorem zqU {g o i : Nat} {l : List (Sl × List Int)} (h : At w g o (l.flatMap slCI)) (hi : i < l.length) : w.cell? ⟨g, o + i, none⟩ = some (.slice l[i].1.a l[i].1.n l[i].1.c) := znF (fun p : Sl × List Int => Value.slice p.1.a p.1.n p.1.c) h hi
theorem cat_I {v : Value} (ps : List (Sl × List Int)) (hv : RowO w v slCI ps) (hp : ∀ p ∈ ps, RowI w p.1.v p.2) (hl : ps.length ≤ 1000) (hn : (ps.flatMap (·.2)).length ≤ 8796093022208) : Calls Tryz.prog 196 #[v] w fun e w' => ∃ v', e = .returned v' ∧ OwnI w' w.heap.size v' (ps.flatMap (·.2)) ∧ Kp w w' n_ := by
 obtain ⟨a, cap, rfl, hr⟩ := hv
 have hstep : ∀ i (h : i < ps.length), (ps.take (i + 1)).flatMap (·.2) = (ps.take i).flatMap (·.2) ++ ps[i].2 := fun i h => by
  rw [List.take_succ_eq_append_getElem h, List.flatMap_append]; simp
 have hle : ∀ i, ((ps.take i).flatMap (·.2)).length ≤ (ps.flatMap (·.2)).length := fun i => by
  conv => rhs; rw [← List.take_append_drop i ps, List.flatMap_append, List.length_append]
  omega
 refine zaa (args := [.slice a ps.length cap]) Tryz.func196 rfl NL ?_; refine GW ?_
 refine Loop.intro (ι := Nat) (fun i => [(0, .slice a ps.length cap), (3, .int .i64 (((ps.take i).flatMap (·.2)).length : Nat)), (9, .slice a ps.length cap), (10, .int .i64 (ps.length : Nat)), (11, .int .i64 (i : Nat))])
  (fun i wr => w = wr ∧ i ≤ ps.length) (fun i => ps.length - i) 0 ⟨rfl, rfl, rfl, rfl, rfl, trivial⟩ ⟨rfl, Nat.zero_le _⟩ ?_
 rintro i gg wr ⟨rfl, hi⟩
 have kr := Kp.refl w n_
 refine GW ?_
 by_cases hlt : i < ps.length
 ·obtain ⟨gb, o, rfl, hgb, hat⟩ := hr (by omega)
  have hc := zqU hat hlt
  have hst := hstep i hlt
  have h1 := hle i
  have h2 := hle (i + 1)
  have hln := RowO.len (hp ps[i] (List.getElem_mem hlt))
  rw [hst, List.length_append] at h2
  refine KGO ?_
  rw [hln]
  refine KGO ?_
  refine ⟨i + 1, ⟨rfl, v_int (by rw [hst, List.length_append]; omega), rfl, rfl, v_int (by simp), trivial⟩, ⟨rfl, by omega⟩, by dsimp only; omega⟩
 ·have hil : ps.take i = ps := List.take_of_length_le (by omega)
  rw [hil]
  generalize hN : (ps.flatMap (·.2)).length = N at *
  refine KGO ?_
  refine CallS.of (Tryz.call232 _ _) (gr_I (w := w) N (by omega)) ?_
  rintro e w1 ⟨v1, rfl, o1, k1⟩
  obtain ⟨a1, c1, rfl⟩ := zab o1
  refine RT ?_
  refine KGO ?_
  refine Loop.intro (ι := Nat × Value) (fun q => [(6, q.2), (25, .slice a ps.length cap), (26, .int .i64 (ps.length : Nat)), (27, .int .i64 (q.1 : Nat))])
   (fun q wr => Kp w wr n_ ∧ q.1 ≤ ps.length ∧ OwnI wr w.heap.size q.2 ((ps.take q.1).flatMap (·.2))) (fun q => ps.length - q.1) (0, _) ⟨rfl, rfl, rfl, rfl, trivial⟩ ⟨k1, Nat.zero_le _, o1⟩ ?_
  rintro ⟨j, u⟩ gg2 wz ⟨hK, hj, ho⟩
  dsimp only at hj ho ⊢
  obtain ⟨au, cu, rfl⟩ := zab ho
  refine GW ?_
  by_cases hlt2 : j < ps.length
  ·obtain ⟨gb, o, rfl, hgb, hat⟩ := hr (by omega)
   have hc := zqU hat hlt2
   have hst := hstep j hlt2
   have h1 := hle j
   have h2 := hle (j + 1)
   have hrow := (hp ps[j] (List.getElem_mem hlt2)).keep hK
   have hln := RowO.len hrow
   rw [hst, List.length_append] at h2
   obtain ⟨sa, sc, he, hrr⟩ := hrow
   have hea : ps[j].1.a = sa := by injection he
   refine KGO ?_
   rw [hln, hea]
   have fin : ∀ v' w', w'.ownsRow w.heap.size 3 1 v' (((ps.take j).flatMap (·.2)).length + ps[j].2.length) ((ps.take j).flatMap (·.2) |>.flatMap inC |>.append (ps[j].2.flatMap inC)) → OwnI w' w.heap.size v' ((ps.take (j + 1)).flatMap (·.2)) := fun v' w' h => by
    unfold OwnI
    rw [hst, List.length_append, List.flatMap_append]
    exact h
   rcases sa with _ | ad
   ·have h0 : ps[j].2.length = 0 := by
     rcases Nat.eq_zero_or_pos ps[j].2.length with h | h
     ·exact h
     ·obtain ⟨g, o, h1, _⟩ := hrr h; cases h1
    rw [h0]
    refine RunN.appNone Tryz.underlying40 infoI ho ?_
    refine KGO ?_
    exact ⟨(j + 1, _), ⟨rfl, rfl, rfl, v_int (by simp), trivial⟩, ⟨hK, by dsimp only; omega, by dsimp only; rw [hst, List.eq_nil_of_length_eq_zero h0, List.append_nil]; exact ho⟩, by dsimp only; omega⟩
   ·refine RunN.app Tryz.underlying40 infoI rfl (by decide) ho hK.size ad ps[j].2.length _ (ps[j].2.flatMap inC) (zaU inC 1 lenI _) (fun m x hm => ?_) (oneI _) (by omega) (by omega) fun v' w' h2 h3 => ?_
    ·rcases Nat.eq_zero_or_pos ps[j].2.length with h | h
     ·rw [List.eq_nil_of_length_eq_zero h] at hm; simp at hm
     ·obtain ⟨g', o', h1, _, h3⟩ := hrr h
      injection h1 with h1
      subst h1
      rw [add_none]
      exact h3 m x hm
    ·obtain ⟨a', c', rfl⟩ := zab h2
     refine KGO ?_
     exact ⟨(j + 1, _), ⟨rfl, rfl, rfl, v_int (by simp), trivial⟩, ⟨hK.own ho (Nat.le_refl _) h3, by dsimp only; omega, fin _ _ h2⟩, by dsimp only; omega⟩
  ·have hjl : ps.take j = ps := List.take_of_length_le (by omega)
   rw [hjl] at ho ⊢
   refine KGO ?_
   exact ⟨_, rfl, ho, hK⟩
end
end Go.Proofs.YtennokckmjcefaaGreatDoor
namespace Go.Vc
open Go Go.Pw Go.RowKit
def SameB (c : Nat → Prop) (w w' : World) : Prop := ∀ b, c b → w'.heap[b]? = w.heap[b]?
section
variable {P : Program} {n : Nat} {K : Exit → Fr → World → Prop} {ps : Array Tmp} {assign body : Code} {t : List It} {g : Operand} {fg : Nat → Value} {dl : DL} {w : World} {gf : Nat} {lb : Array Value} {α : Type}
theorem Range.introW (enc : α → List Value) (hg : ev ⟨fg, dl⟩ g = .func (.func gf) #[] lb) (hgf : ∀ args w, (callFunc gf args).run P w = .ok (.enter gf args) w)
  (hpa : plainC assign = true) (hpb : plainC body = true) (hps : (ps.toList.all fun p => Nat.ble (p + 1) n) = true) (hen : ∀ x, (enc x).length = ps.size)
  (cI : Nat → Prop) (hcI : ∀ b, cI b → b < w.heap.size) (I : List α → World → Prop) (Ix : Code → List α → World → Prop) (S : List α → Prop) (Nx : List α → α → World → Prop)
  (hI : ∀ pre W W', I pre W → w.heap.size + 2 ≤ W.heap.size → Kp W W' (fun b => cI b ∨ b = w.heap.size + 1) → I pre W')
  (hIx : ∀ c pre W W', Ix c pre W → w.heap.size + 2 ≤ W.heap.size → Kp W W' (fun b => cI b ∨ b = w.heap.size + 1) → Ix c pre W')
  (h0 : ∀ W, Kp w W n_ → W.heap.size = w.heap.size + 2 → I [] W)
  (iter : ∀ J Jx : List α → World → Prop, (∀ pre W, J pre W → I pre W ∧ w.heap.size + 2 ≤ W.heap.size) → (∀ pre W W', J pre W → Kp W W' cI → J pre W') → (∀ pre W W', Jx pre W → Kp W W' cI → Jx pre W') →
   (∀ pre x W, J pre W → Nx pre x W → YieldS P (w.heap.size + 1) (enc x) W fun v W' => (v = .bool true ∧ J (pre ++ [x]) W' ∧ SameB cI W W') ∨ (v = .bool false ∧ Jx (pre ++ [x]) W')) →
   ∀ W, Kp w W n_ → J [] W → Calls P gf (#[.func (.yield (w.heap.size + 1)) #[] #[]] ++ lb) W fun e W' => (∃ v, e = .returned v) ∧ ((∃ xs, S xs ∧ J xs W') ∨ ∃ pre, Jx pre W'))
  (round : ∀ pre x W, I pre W → Nx pre x W → w.heap.size + 2 ≤ W.heap.size → Sat P n (asgK P n w.heap.size (fun p W' => I p W' ∧ SameB cI W W') Ix (pre ++ [x]) W body) .normal [.code assign] (putPs ps.toList (enc x) ⟨fg, .nil⟩) W)
  (done : ∀ xs W, S xs → I xs W → w.heap.size + 2 ≤ W.heap.size → W.heap[w.heap.size]? = some (.deferred (some [])) → Sat P n K .normal t ⟨fg, .of (w.heap.size :: dl.toL)⟩ W)
  (stop : ∀ c pre W, Ix c pre W → w.heap.size + 2 ≤ W.heap.size → W.heap[w.heap.size]? = some (.deferred (some [])) → Sat P n K .normal (.code c :: t) ⟨fg, .of (w.heap.size :: dl.toL)⟩ W) :
  Range P n K g ps assign body t ⟨fg, dl⟩ w := by
 refine ⟨fun hf r hr => ?_⟩
 obtain rfl : r = none := by
  rcases hr with h | h
  ·exact h
  ·cases h
 refine wpIn_rangeFunc ?_
 intro fn _
 generalize hD : w.heap.size = D at *
 obtain ⟨rec, hrec⟩ : ∃ rec : Go.Loop, rec = { state := .ready, pending := none, fn := fn, tmps := frArr n ⟨fg, dl⟩, params := ps, assign := assign, body := body, defers := D } := ⟨_, rfl⟩
 obtain ⟨W1, hW1⟩ : ∃ W1, (w.alloc (.deferred (some []))).alloc (.loop rec) = W1 := ⟨_, rfl⟩
 have hs1 : W1.heap.size = D + 2 := by rw [← hW1]; simp [hD]
 have hk1 : Kp w W1 n_ := by rw [← hW1]; exact ((Kp.refl w n_).alloc _).alloc _
 have hL1 : W1.heap[D + 1]? = some (.loop rec) := by
  rw [← hW1, ← hD]; have := World.alloc_heap_new (w.alloc (.deferred (some []))) (.loop rec); rwa [World.size_alloc] at this
 have hD1 : W1.heap[D]? = some (.deferred (some [])) := by
  rw [← hW1, ← hD]; exact (Below.heap_alloc _ _ _ (by simp)).trans (World.alloc_heap_new w _)
 refine ⟨D + 1, [{ target := .collected D, args := #[] }], W1, { target := .fn (.func gf) lb, args := #[.func (.yield (D + 1)) #[] #[]] }, W1, gf,
  #[.func (.yield (D + 1)) #[] #[]] ++ lb, W1, ?_, ?_, fun _ _ => trivial, ?_, fun h => by simp [RW, Fence.wide] at h, ?_⟩
 ·have := run_enterLoop_outer (P := P) (w := w) fn (frArr n ⟨fg, dl⟩) ps assign body
  rw [hD, ← hrec, hW1] at this
  exact this
 ·have he : (act n ⟨fg, dl⟩).eval g = .func (.func gf) #[] lb := by rw [zbM hf]; exact hg
  simp only [resolve, he]
  simp [go_sem]
 ·simp [invoke, go_sem, hgf]
 ·refine zfa ?_
  have keepL : ∀ {W W' : World} {k : Nat} {o : Obj}, Kp W W' cI → W.heap[k]? = some o → D ≤ k → W'.heap[k]? = some o := fun {W W' k o} hk ho hle =>
   (hk.block k (Array.getElem?_eq_some_iff.1 ho).1 (fun h => by have := hcI _ h; omega)).trans ho
  have hlt : ∀ {W : World} {k : Nat} {o : Obj}, W.heap[k]? = some o → k < W.heap.size := fun ho => (Array.getElem?_eq_some_iff.1 ho).1
  refine (iter (fun pre W => I pre W ∧ W.heap[D + 1]? = some (.loop rec) ∧ W.heap[D]? = some (.deferred (some [])))
   (fun pre W => ∃ c, Ix c pre W ∧ W.heap[D + 1]? = some (.loop { rec with state := .done, pending := some c }) ∧ W.heap[D]? = some (.deferred (some [])))
   (fun pre W h => ⟨h.1, by have := hlt h.2.1; omega⟩)
   (fun pre W W' h k => ⟨hI pre W W' h.1 (by have := hlt h.2.1; omega) (k.mono fun _ _ h => .inl h), keepL k h.2.1 (by omega), keepL k h.2.2 (Nat.le_refl _)⟩)
   (fun pre W W' h k => by
    obtain ⟨c, h1, h2, h3⟩ := h
    exact ⟨c, hIx c pre W W' h1 (by have := hlt h2; omega) (k.mono fun _ _ h => .inl h), keepL k h2 (by omega), keepL k h3 (Nat.le_refl _)⟩)
   ?_ W1 hk1 ⟨h0 W1 hk1 hs1, hL1, hD1⟩).mono ?_
  ·rintro pre x W ⟨hi, hl, hd⟩ hnx
   have hsz : D + 2 ≤ W.heap.size := by have := hlt hl; omega
   refine zhg hf hrec hl (hen x) hps hpa hpb (round pre x W hi hnx hsz) ?_ ?_
   ·rintro W3 W4 h3 h4 h5 rfl
    have hs3 := hlt h3
    refine .inl ⟨rfl, ⟨hI _ _ _ h5.1 (by omega) ((zaz _ _ _).mono fun b _ h => .inr h), World.putObj_heap_same hs3, (World.putObj_heap_other (by omega)).trans (h4.trans hd)⟩, fun b hb => ?_⟩
    have := hcI b hb
    exact (World.putObj_heap_other (by omega)).trans (h5.2 b hb)
   ·rintro c W3 W4 h3 h4 h5 rfl
    have hs3 := hlt h3
    refine .inr ⟨rfl, c, hIx _ _ _ _ h5 (by omega) ((zaz _ _ _).mono fun b _ h => .inr h), World.putObj_heap_same hs3, ?_⟩
    exact (World.putObj_heap_other (by omega)).trans (h4.trans hd)
  ·rintro e W2 ⟨⟨v, rfl⟩, (⟨xs, hS, hi, hl, hd⟩ | ⟨pre, c, hi, hl, hd⟩)⟩
   ·have hsz := hlt hl
    refine ⟨none, _, by have := run_endLoop (P := P) hl (by rw [hrec]; simp); rw [show rec.pending = none from by rw [hrec]] at this; exact this, ?_⟩
    have h1 := done xs (W2.putObj (D + 1) (.loop { rec with state := .exhausted, pending := none })) hS (hI _ _ _ hi (by omega) ((zaz _ _ _).mono fun b _ h => .inr h)) (by rw [zbc]; omega) ((World.putObj_heap_other (by omega)).trans hd)
    exact ⟨⟨fg, .of (D :: dl.toL)⟩, hf, rfl, h1.h hf⟩
   ·have hsz := hlt hl
    refine ⟨some c, _, run_endLoop (P := P) hl (by simp), ?_⟩
    have h1 := stop c pre (W2.putObj (D + 1) (.loop { rec with state := .exhausted, pending := some c })) (hIx _ _ _ _ hi (by omega) ((zaz _ _ _).mono fun b _ h => .inr h)) (by rw [zbc]; omega) ((World.putObj_heap_other (by omega)).trans hd)
    exact (h1.h hf : c.wpX P (LiftE n (after P n t K)) (act n ⟨fg, .of (D :: dl.toL)⟩) _) none (.inl rfl)
end
end Go.Vc
