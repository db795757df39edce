/- Helper lemmas; no conditions of their own. -/
import Derived.Test.YtennokckmjcefaaGreatDoorGMg7
set_option linter.unusedVariables false
set_option maxHeartbeats 8000000
set_option maxRecDepth 100000
namespace Go.Proofs.YtennokckmjcefaaGreatDoor
open Go.Shelf Go.RowKit Go.Pw Go.Vc Go.Cs Go.Lib Go.Cd Go.Mg
abbrev OwnPr (w : World) (B : Nat) (v : Value) (l : List Pr) : Prop := w.ownsRow B 44 2 v l.length (l.flatMap prC)
theorem zsZ {w : World} {v : Value} (l : List Pr) (g : Nat) (c0 : Value) (p : Pr → Bool) (hv : RowO w v prC l) (hl : l.length ≤ 1000000000) (hg : ∀ (args : Array Value) (w : World), (callFunc g args).run Tryz.prog w = .ok (.enter g args) w)
  (hp : ∀ x ∈ l, ∀ w', Kp w w' n_ → Calls Tryz.prog g #[.agg (prC x).toArray, c0] w' fun e w'' => e = .returned (.bool (p x)) ∧ Kp w' w'' n_) :
  Calls Tryz.prog 178 #[v, .func (.func g) #[] #[c0]] w fun e w' => e = .returned (.int .i64 (idxP p l)) ∧ Kp w w' n_ := by
 obtain ⟨a, cap, rfl, hr⟩ := hv
 refine zaa (args := [.slice a l.length cap, .func (.func g) #[] #[c0]]) Tryz.func178 rfl NL ?_; refine GW ?_
 refine Yc (ι := Nat) (fun i => [(0, .slice a l.length cap), (1, .func (.func g) #[] #[c0]), (7, .int .i64 (l.length : Nat)), (8, .int .i64 (i : Nat))])
  (fun i wr => Kp w wr n_ ∧ i ≤ l.length ∧ ∀ j (h : j < l.length), j < i → p l[j] = false) (fun i => l.length - i) 0 FR ⟨Yb _ _, yal _, fun _ _ h => OM⟩ ?_
 rintro i gg wr ⟨hK, hi, he⟩
 refine GW ?_
 by_cases hlt : i < l.length
 ·obtain ⟨gb, o, rfl, hgb, hat⟩ := hr OM
  have hpc := hp l[i] (yak hlt) wr hK
  obtain ⟨q, hq⟩ : ∃ q, p l[i] = q := ⟨_, rfl⟩
  rw [hq] at hpc
  refine KGO ?_
  refine Ya (hg _ _) hpc ?_
  rintro e w1 ⟨rfl, k1⟩
  refine RT ?_
  cases q with
  | true =>
   refine KGO ?_
   exact ⟨by rw [zdH hlt hq he], hK.trans0 k1⟩
  | false =>
   refine KGO ?_
   exact ⟨i + 1, FR, ⟨hK.trans0 k1, OM, fun j h hj => by
    rcases yby j i with h' | h'
    ·exact he j h h'
    obtain rfl : j = i := OM
    exact hq⟩, DO⟩
 refine KGO ?_
 exact ⟨by rw [zef fun j h => he j h OM], hK⟩
theorem zrt {w : World} {v : Value} {B : Nat} (l : List Pr) (g : Nat) (c0 : Value) (p : Pr → Bool) (ho : OwnPr w B v l) (hl : l.length ≤ 1000000000) (hg : ∀ (args : Array Value) (w : World), (callFunc g args).run Tryz.prog w = .ok (.enter g args) w)
  (hp : ∀ x ∈ l, ∀ w', Kp w w' (own_ v) → Calls Tryz.prog g #[.agg (prC x).toArray, c0] w' fun e w'' => e = .returned (.bool (p x)) ∧ Kp w' w'' n_) :
  Calls Tryz.prog 126 #[v, .func (.func g) #[] #[c0]] w fun e w' => ∃ v', e = .returned v' ∧ OwnPr w' B v' (l.filter fun x => !p x) ∧ Kp w w' (own_ v) ∧ (v'.ownBlock = v.ownBlock) := by
 obtain ⟨a, cap0, rfl⟩ := zab ho
 refine zaa (args := [.slice a l.length cap0, .func (.func g) #[] #[c0]]) Tryz.func126 rfl NL ?_; refine GW ?_
 refine Ya (Tryz.call178 _ _) (zsZ l g c0 p (own_rowO ho) hl hg (fun x hx w' k => hp x hx w' k.of_none)) ?_
 rintro e w1 ⟨rfl, k1⟩
 refine RT ?_
 rcases idxP_lt p l with hi | ⟨i0, hi0, he0, hp0, hb0⟩
 ·rw [hi]
  refine KGO ?_
  refine ⟨_, rfl, ?_, k1.of_none, rfl⟩
  have hf : (l.filter fun x => !p x) = l := yaQ.2 fun x hx => by
   have h : ¬ l.any p = true := fun h => by have := (zfb p l).2 h; omega
   have := List.any_eq_false.1 (by simpa using h) x hx
   simpa using this
  rw [hf]
  exact own_keep0 ho k1
 rw [he0]
 rcases own_blockK ho with ⟨hnil, h0⟩ | ⟨gb, cap, cells0, hev, hBg, hv0, hnc, hcm, hcl0, htk0⟩
 ·omega
 injection hev with hev _ hcc
 subst hev; subst hcc
 have hgk : gb < w1.heap.size := ybv hv0.lt k1.size
 have ho1 := own_keep0 ho k1
 have hfl0 : ((l.take (i0 + 1)).filter fun x => !p x) = l.take i0 := by
  rw [zcK hi0, hp0]
  have : (l.take i0).filter (fun x => !p x) = l.take i0 := yaQ.2 fun x hx => by
   obtain ⟨j, hj, rfl⟩ := ybd.1 hx
   rw [hb0 j OM]; rfl
  rw [this]; simp
 refine KGO ?_
 refine Yc (ι := Nat × Nat × List Pr) (fun q => [(0, .slice (some ⟨gb, 0, none⟩) l.length cap0), (1, .func (.func g) #[] #[c0]), (5, .int .i64 (q.1 : Nat)), (6, .int .i64 (q.2.1 : Nat))])
  (fun q wr => Kp w wr (one_ gb) ∧ q.2.1 ≤ l.length ∧ q.1 < q.2.1 ∧ q.2.2.length = l.length ∧ q.2.2.take q.1 = ((l.take q.2.1).filter fun x => !p x) ∧ q.2.2.drop q.2.1 = l.drop q.2.1 ∧ OwnPr wr B (.slice (some ⟨gb, 0, none⟩) q.2.2.length cap0) q.2.2)
  (fun q => l.length - q.2.1) (i0, i0 + 1, l) FR ⟨k1.of_none, DO, DO, rfl, by dsimp only; rw [hfl0], rfl, ho1⟩ ?_
 clear ho1 hfl0 hb0 hp0 he0 hi0 i0
 rintro ⟨i, j, cur⟩ gg wr ⟨hK, hj, hij, hcl2, htk2, hdr2, ho2⟩
 dsimp only at hj hij hcl2 htk2 hdr2 ho2 ⊢
 rcases own_blockK ho2 with ⟨h, h0⟩ | ⟨g2, cap, cells, hev, hBg2, hv, hnc2, hcm2, hcl, htk⟩
 ·cases h
 injection hev with hev _ hcc
 injection hev with hev
 injection hev with hev
 subst hev; subst hcc
 have hrow := zdN ho2
 have kr := Yb wr n_
 refine GW ?_
 by_cases hlt : j < l.length
 ·have hcj : cur[j]'OM = l[j] := by
   have h1 : (cur.drop j)[0]? = (l.drop j)[0]? := by rw [hdr2]
   rw [List.getElem?_drop, List.getElem?_drop, ybJ, List.getElem?_eq_getElem OM, List.getElem?_eq_getElem hlt] at h1
   exact Option.some.inj h1
  have hfs := zcK (p := fun x => !p x) hlt
  have hjc : j < cur.length := OM
  obtain ⟨q, hq⟩ : ∃ q, p l[j] = q := ⟨_, rfl⟩
  have hmx := yak hlt
  rw [hq] at hfs
  refine KGO ?_
  rw [hcj]
  generalize hxj : l[j] = x at *
  refine Yg (vs := prC x) (by rfl) rfl (zak (by rfl)) ?_
  obtain ⟨a_b7, k_wv, z_wv⟩ := new3 wr 44 (prC x)
  generalize wr.alloc (.cells (List.toArray (prC x)) 44) = wv at *
  generalize hs_b7 : wr.heap.size = b7 at *
  refine KGO ?_
  have hpc := hp x hmx wv ((hK.trans0 k_wv).mono fun q _ hq => by have hq : q = gb := hq; rw [hq]; rfl)
  rw [hq] at hpc
  refine Ya (hg _ _) hpc ?_
  rintro e w1 ⟨rfl, k1⟩
  refine RT ?_
  cases q with
  | true =>
   refine KGO ?_
   refine ⟨(i, j + 1, cur), FR, ⟨(hK.trans0 k_wv).trans0 k1, DO, DO, hcl2, ?_, ?_, own_keep0 (own_keep0 ho2 k_wv) k1⟩, DO⟩
   ·dsimp only
    rw [hfs, htk2]; simp
   dsimp only
   rw [← yaM, hdr2, yaM]
  | false =>
   refine KGO ?_
   have hv := (hv.keep0 k_wv).keep0 k1
   refine Store.elemK (l := cur) (k := i) (B := B) (cap := cap0) x lenPr (by rfl) (zak (by rfl)) hv hBg OM hcm hcl htk OM fun w2 o2 v2 k2 => ?_
   refine KGO ?_
   have hil : i < cur.length := OM
   refine ⟨(i + 1, j + 1, cur.set i x), FR, ⟨(hK.trans0 k_wv).trans' (k1.of_none.trans' k2), DO, DO, by dsimp only; rw [List.length_set]; exact hcl2, ?_, ?_, ?_⟩, DO⟩
   ·dsimp only
    rw [hfs, ← htk2, yad (by rw [ybm]; exact hil), List.getElem_set_self, List.take_set_of_le (yag _)]
    simp
   ·dsimp only
    rw [List.drop_set_of_lt OM, ← yaM, hdr2, yaM]
   dsimp only
   unfold OwnPr
   rw [ybm]
   exact o2
 have hjl : j = l.length := OM
 subst hjl
 rw [yaD] at htk2
 have hil : i < cur.length := OM
 refine KGO ?_
 rw [if_neg (by omega : ¬ i = cap0)]
 refine RunN.clearK (s := 2) (n := l.length - i) Tryz.underlying37 zrO rfl (by intro u hu; simp [Value.cells] at hu; first | (subst hu; rfl) | (rcases hu with rfl | rfl <;> rfl)) hv (by first | (rw [hcl]; omega) | omega) fun w3 zs hzl v3 k3 => ?_
 refine KGO ?_
 have hle : (l.filter fun x => !p x).length = i := by rw [← htk2, yar]; omega
 rw [if_neg (by omega : ¬ 0 = cap0), ybb, ybb]
 refine ⟨_, rfl, ?_, ((hK.trans' k3).mono fun q _ hq => by have hq : q = gb := hq; rw [hq]; rfl), rfl⟩
 have htA : cells.take (0 + i * 2) = (l.filter fun x => !p x).flatMap prC := by
  rw [yaU, ← htk2, ← flatK_take prC 2 lenPr, ← htk, ybz, yaJ OM]
 have hlA : ((l.filter fun x => !p x).flatMap prC).length = i * 2 := by rw [flatK_len prC 2 lenPr, hle]
 first | rw [htA] at v3 | (rw [show 0 + i * 2 = 0 + i by omega] at htA; rw [htA] at v3)
 unfold OwnPr
 rw [hle]
 refine zbY hBg v3 OM hcm2 ?_ ?_ hlA
 ·rw [yaa, yaa, hlA, hzl, yau]; omega
 rw [yap, ← hlA, yaZ]
section
variable {w : World}
theorem zsH {f : Fr} {y : Operand} (w : World) (hy : ev f y = .int .i64 ((0 : Nat) : Int) := by rfl) : (Instr.sliceAt 40 (.slice none 0 0) none ((some y).map (ev f)) none).run Tryz.prog w = .ok (.slice none 0 0) w := by
 obtain ⟨i, hi, _, hs, _⟩ := zcc infoI
 simp [Instr.sliceAt, hy, Instr.slice, Instr.sliceBounds, go_sem, und_ok Tryz.underlying40, size_ok hi]
theorem gr_I (n : Nat) (hn : n ≤ 8796093022208) : Calls Tryz.prog 232 #[.slice none 0 0, .int .i64 (n : Nat)] w fun e w' => ∃ v, e = .returned v ∧ OwnI w' w.heap.size v [] ∧ Kp w w' n_ := by
 refine zaa (args := [.slice none 0 0, .int .i64 (n : Nat)]) Tryz.func232 rfl NL ?_; refine GW ?_
 refine KGO ?_
 refine RunN.capK Tryz.underlying40 ?_
 rcases ybj n with h0 | h0
 ·subst h0
  refine KGO ?_
  exact ⟨_, rfl, World.ownsRow_nil _ _ _ _, Yb _ _⟩
 refine KGO ?_
 refine RunN.capK Tryz.underlying40 ?_
 refine KGO ?_
 refine Ye (v := .slice none 0 0) (w' := w) (zsH _) ?_
 refine KGO ?_
 rw [show ((n : Nat) : Int) - (((0 : Nat) : Int) - ((0 : Nat) : Int)) = ((n : Nat) : Int) by omega]
 refine RunN.zeros0 Tryz.underlying40 Tryz.underlying3 infoI rfl (by decide) h0 OM OM fun w1 cells c1 v1 hl1 hc1 hm1 k1 => ?_
 refine KGO ?_
 rw [if_neg (by omega : ¬ 0 = c1), ybb, ybb]
 exact ⟨_, rfl, zbY (xs := []) (yag _) v1 (yal _) hm1 hl1 (by simp) rfl, k1⟩
abbrev slCI (p : Sl × List Int) : List Value := [.slice p.1.a p.1.n p.1.c]
theorem zry {g o i : Nat} {l : List (Sl × List Int)} (h : At w g o (l.flatMap slCI)) (hi : i < l.length) : w.cell? ⟨g, o + i, none⟩ = some (.slice l[i].1.a l[i].1.n l[i].1.c) := zoj (fun p : Sl × List Int => Value.slice p.1.a p.1.n p.1.c) h hi
theorem cat_I {v : Value} (ps : List (Sl × List Int)) (hv : RowO w v slCI ps) (hp : ∀ p ∈ ps, RowI w p.1.v p.2) (hl : ps.length ≤ 1000) (hn : (ps.flatMap (·.2)).length ≤ 8796093022208) : Calls Tryz.prog 196 #[v] w fun e w' => ∃ v', e = .returned v' ∧ OwnI w' w.heap.size v' (ps.flatMap (·.2)) ∧ Kp w w' n_ := by
 obtain ⟨a, cap, rfl, hr⟩ := hv
 have hstep : ∀ i (h : i < ps.length), (ps.take (i + 1)).flatMap (·.2) = (ps.take i).flatMap (·.2) ++ ps[i].2 := fun i h => by
  rw [yad h, yaC]; simp
 have hle : ∀ i, ((ps.take i).flatMap (·.2)).length ≤ (ps.flatMap (·.2)).length := fun i => by
  conv => rhs; rw [← yaB i ps, yaC, yaa]
  omega
 refine zaa (args := [.slice a ps.length cap]) Tryz.func196 rfl NL ?_; refine GW ?_
 refine Yc (ι := Nat) (fun i => [(0, .slice a ps.length cap), (3, .int .i64 (((ps.take i).flatMap (·.2)).length : Nat)), (9, .slice a ps.length cap), (10, .int .i64 (ps.length : Nat)), (11, .int .i64 (i : Nat))])
  (fun i wr => w = wr ∧ i ≤ ps.length) (fun i => ps.length - i) 0 FR ⟨rfl, yal _⟩ ?_
 rintro i gg wr ⟨rfl, hi⟩
 have kr := Yb w n_
 refine GW ?_
 by_cases hlt : i < ps.length
 ·obtain ⟨gb, o, rfl, hgb, hat⟩ := hr OM
  have hc := zry hat hlt
  have hst := hstep i hlt
  have h1 := hle i
  have h2 := hle (i + 1)
  have hln := Yl (hp ps[i] (yak hlt))
  rw [hst, yaa] at h2
  refine KGO ?_
  rw [hln]
  refine KGO ?_
  refine ⟨i + 1, ⟨rfl, v_int (by rw [hst, yaa]; omega), rfl, rfl, VS, trivial⟩, ⟨rfl, OM⟩, DO⟩
 have hil : ps.take i = ps := yaz OM
 rw [hil]
 generalize hN : (ps.flatMap (·.2)).length = N at *
 refine KGO ?_
 refine Ya (Tryz.call232 _ _) (gr_I (w := w) N OM) ?_
 rintro e w1 ⟨v1, rfl, o1, k1⟩
 obtain ⟨a1, c1, rfl⟩ := zab o1
 refine RT ?_
 refine KGO ?_
 refine Yc (ι := Nat × Value) (fun q => [(6, q.2), (25, .slice a ps.length cap), (26, .int .i64 (ps.length : Nat)), (27, .int .i64 (q.1 : Nat))])
  (fun q wr => Kp w wr n_ ∧ q.1 ≤ ps.length ∧ OwnI wr w.heap.size q.2 ((ps.take q.1).flatMap (·.2))) (fun q => ps.length - q.1) (0, _) FR ⟨k1, yal _, o1⟩ ?_
 rintro ⟨j, u⟩ gg2 wz ⟨hK, hj, ho⟩
 dsimp only at hj ho ⊢
 obtain ⟨au, cu, rfl⟩ := zab ho
 refine GW ?_
 by_cases hlt2 : j < ps.length
 ·obtain ⟨gb, o, rfl, hgb, hat⟩ := hr OM
  have hc := zry hat hlt2
  have hst := hstep j hlt2
  have h1 := hle j
  have h2 := hle (j + 1)
  have hrow := (hp ps[j] (yak hlt2)).keep hK
  have hln := Yl hrow
  rw [hst, yaa] at h2
  obtain ⟨sa, sc, he, hrr⟩ := hrow
  have hea : ps[j].1.a = sa := by injection he
  refine KGO ?_
  rw [hln, hea]
  have fin : ∀ v' w', w'.ownsRow w.heap.size 3 1 v' (((ps.take j).flatMap (·.2)).length + ps[j].2.length) ((ps.take j).flatMap (·.2) |>.flatMap inC |>.append (ps[j].2.flatMap inC)) → OwnI w' w.heap.size v' ((ps.take (j + 1)).flatMap (·.2)) := fun v' w' h => by
   unfold OwnI
   rw [hst, yaa, yaC]
   exact h
  rcases sa with _ | ad
  ·have h0 : ps[j].2.length = 0 := by
    rcases ybj ps[j].2.length with h | h
    ·exact h
    obtain ⟨g, o, h1, _⟩ := hrr h; cases h1
   rw [h0]
   refine RunN.appNone Tryz.underlying40 infoI ho ?_
   refine KGO ?_
   exact ⟨(j + 1, _), FR, ⟨hK, DO, by dsimp only; rw [hst, List.eq_nil_of_length_eq_zero h0, List.append_nil]; exact ho⟩, DO⟩
  refine RunN.app Tryz.underlying40 infoI rfl (by decide) ho hK.size ad ps[j].2.length _ (ps[j].2.flatMap inC) (flatK_len inC 1 lenI _) (fun m x hm => ?_) (oneI _) OM OM fun v' w' h2 h3 => ?_
  ·rcases ybj ps[j].2.length with h | h
   ·rw [yan h] at hm; simp at hm
   obtain ⟨g', o', h1, _, h3⟩ := hrr h
   injection h1 with h1
   subst h1
   rw [add_none]
   exact h3 m x hm
  obtain ⟨a', c', rfl⟩ := zab h2
  refine KGO ?_
  exact ⟨(j + 1, _), FR, ⟨hK.own ho (yag _) h3, DO, fin _ _ h2⟩, DO⟩
 have hjl : ps.take j = ps := yaz OM
 rw [hjl] at ho ⊢
 refine KGO ?_
 exact ⟨_, rfl, ho, hK⟩
end
end Go.Proofs.YtennokckmjcefaaGreatDoor
namespace Go.Vc
open Go Go.Pw Go.RowKit
def SameB (c : Nat → Prop) (w w' : World) : Prop := ∀ b, c b → w'.heap[b]? = w.heap[b]?
section
variable {P : Program} {n : Nat} {K : Exit → Fr → World → Prop} {ps : Array Tmp} {assign body : Code} {t : List It} {g : Operand} {fg : Nat → Value} {dl : DL} {w : World} {gf : Nat} {lb : Array Value} {α : Type}
theorem Range.introW (enc : α → List Value) (hg : ev ⟨fg, dl⟩ g = .func (.func gf) #[] lb) (hgf : ∀ args w, (callFunc gf args).run P w = .ok (.enter gf args) w)
  (hpa : zbp assign = true) (hpb : zbp body = true) (hps : (ps.toList.all fun p => Nat.ble (p + 1) n) = true) (hen : ∀ x, (enc x).length = ps.size)
  (cI : Nat → Prop) (hcI : ∀ b, cI b → b < w.heap.size) (I : List α → World → Prop) (Ix : Code → List α → World → Prop) (S : List α → Prop) (Nx : List α → α → World → Prop)
  (hI : ∀ pre W W', I pre W → w.heap.size + 2 ≤ W.heap.size → Kp W W' (fun b => cI b ∨ b = w.heap.size + 1) → I pre W')
  (hIx : ∀ c pre W W', Ix c pre W → w.heap.size + 2 ≤ W.heap.size → Kp W W' (fun b => cI b ∨ b = w.heap.size + 1) → Ix c pre W')
  (h0 : ∀ W, Kp w W n_ → W.heap.size = w.heap.size + 2 → I [] W)
  (iter : ∀ J Jx : List α → World → Prop, (∀ pre W, J pre W → I pre W ∧ w.heap.size + 2 ≤ W.heap.size) → (∀ pre W W', J pre W → Kp W W' cI → J pre W') → (∀ pre W W', Jx pre W → Kp W W' cI → Jx pre W') →
   (∀ pre x W, J pre W → Nx pre x W → YieldS P (w.heap.size + 1) (enc x) W fun v W' => (v = .bool true ∧ J (pre ++ [x]) W' ∧ SameB cI W W') ∨ (v = .bool false ∧ Jx (pre ++ [x]) W')) →
   ∀ W, Kp w W n_ → J [] W → Calls P gf (#[.func (.yield (w.heap.size + 1)) #[] #[]] ++ lb) W fun e W' => (∃ v, e = .returned v) ∧ ((∃ xs, S xs ∧ J xs W') ∨ ∃ pre, Jx pre W'))
  (round : ∀ pre x W, I pre W → Nx pre x W → w.heap.size + 2 ≤ W.heap.size → Sat P n (asgK P n w.heap.size (fun p W' => I p W' ∧ SameB cI W W') Ix (pre ++ [x]) W body) .normal [.code assign] (putPs ps.toList (enc x) ⟨fg, .nil⟩) W)
  (done : ∀ xs W, S xs → I xs W → w.heap.size + 2 ≤ W.heap.size → W.heap[w.heap.size]? = some (.deferred (some [])) → Sat P n K .normal t ⟨fg, .of (w.heap.size :: dl.toL)⟩ W)
  (stop : ∀ c pre W, Ix c pre W → w.heap.size + 2 ≤ W.heap.size → W.heap[w.heap.size]? = some (.deferred (some [])) → Sat P n K .normal (.code c :: t) ⟨fg, .of (w.heap.size :: dl.toL)⟩ W) :
  Range P n K g ps assign body t ⟨fg, dl⟩ w := by
 refine ⟨fun hf r hr => ?_⟩
 obtain rfl : r = none := by
  rcases hr with h | h
  ·exact h
  cases h
 refine wpIn_rangeFunc ?_
 intro fn _
 generalize hD : w.heap.size = D at *
 obtain ⟨rec, hrec⟩ : ∃ rec : Go.Loop, rec = { state := .ready, pending := none, fn := fn, tmps := frArr n ⟨fg, dl⟩, params := ps, assign := assign, body := body, defers := D } := ⟨_, rfl⟩
 obtain ⟨W1, hW1⟩ : ∃ W1, (w.alloc (.deferred (some []))).alloc (.loop rec) = W1 := ⟨_, rfl⟩
 have hs1 : W1.heap.size = D + 2 := by rw [← hW1]; simp [hD]
 have hk1 : Kp w W1 n_ := by rw [← hW1]; exact ((Yb w n_).alloc _).alloc _
 have hL1 : W1.heap[D + 1]? = some (.loop rec) := by
  rw [← hW1, ← hD]; have := World.alloc_heap_new (w.alloc (.deferred (some []))) (.loop rec); rwa [World.size_alloc] at this
 have hD1 : W1.heap[D]? = some (.deferred (some [])) := by
  rw [← hW1, ← hD]; exact (Below.heap_alloc _ _ _ (by simp)).trans (World.alloc_heap_new w _)
 refine ⟨D + 1, [{ target := .collected D, args := #[] }], W1, { target := .fn (.func gf) lb, args := #[.func (.yield (D + 1)) #[] #[]] }, W1, gf,
  #[.func (.yield (D + 1)) #[] #[]] ++ lb, W1, ?_, ?_, fun _ _ => trivial, ?_, fun h => by simp [RW, Fence.wide] at h, ?_⟩
 ·have := run_enterLoop_outer (P := P) (w := w) fn (frArr n ⟨fg, dl⟩) ps assign body
  rw [hD, ← hrec, hW1] at this
  exact this
 ·have he : (act n ⟨fg, dl⟩).eval g = .func (.func gf) #[] lb := by rw [zcp hf]; exact hg
  simp only [resolve, he]
  simp [go_sem]
 ·simp [invoke, go_sem, hgf]
 refine zhI ?_
 have keepL : ∀ {W W' : World} {k : Nat} {o : Obj}, Kp W W' cI → W.heap[k]? = some o → D ≤ k → W'.heap[k]? = some o := fun {W W' k o} hk ho hle =>
  (hk.block k (Array.getElem?_eq_some_iff.1 ho).1 (fun h => by have := hcI _ h; omega)).trans ho
 have hlt : ∀ {W : World} {k : Nat} {o : Obj}, W.heap[k]? = some o → k < W.heap.size := fun ho => (Array.getElem?_eq_some_iff.1 ho).1
 refine (iter (fun pre W => I pre W ∧ W.heap[D + 1]? = some (.loop rec) ∧ W.heap[D]? = some (.deferred (some [])))
  (fun pre W => ∃ c, Ix c pre W ∧ W.heap[D + 1]? = some (.loop { rec with state := .done, pending := some c }) ∧ W.heap[D]? = some (.deferred (some [])))
  (fun pre W h => ⟨h.1, by have := hlt h.2.1; omega⟩)
  (fun pre W W' h k => ⟨hI pre W W' h.1 (by have := hlt h.2.1; omega) (k.mono fun _ _ h => .inl h), keepL k h.2.1 OM, keepL k h.2.2 (yag _)⟩)
  (fun pre W W' h k => by
   obtain ⟨c, h1, h2, h3⟩ := h
   exact ⟨c, hIx c pre W W' h1 (by have := hlt h2; omega) (k.mono fun _ _ h => .inl h), keepL k h2 OM, keepL k h3 (yag _)⟩)
  ?_ W1 hk1 ⟨h0 W1 hk1 hs1, hL1, hD1⟩).mono ?_
 ·rintro pre x W ⟨hi, hl, hd⟩ hnx
  have hsz : D + 2 ≤ W.heap.size := by have := hlt hl; omega
  refine zkE hf hrec hl (hen x) hps hpa hpb (round pre x W hi hnx hsz) ?_ ?_
  ·rintro W3 W4 h3 h4 h5 rfl
   have hs3 := hlt h3
   refine .inl ⟨rfl, ⟨hI _ _ _ h5.1 OM ((zaT _ _ _).mono fun b _ h => .inr h), World.putObj_heap_same hs3, (World.putObj_heap_other OM).trans (h4.trans hd)⟩, fun b hb => ?_⟩
   have := hcI b hb
   exact (World.putObj_heap_other OM).trans (h5.2 b hb)
  rintro c W3 W4 h3 h4 h5 rfl
  have hs3 := hlt h3
  refine .inr ⟨rfl, c, hIx _ _ _ _ h5 OM ((zaT _ _ _).mono fun b _ h => .inr h), World.putObj_heap_same hs3, ?_⟩
  exact (World.putObj_heap_other OM).trans (h4.trans hd)
 rintro e W2 ⟨⟨v, rfl⟩, (⟨xs, hS, hi, hl, hd⟩ | ⟨pre, c, hi, hl, hd⟩)⟩
 ·have hsz := hlt hl
  refine ⟨none, _, by have := run_endLoop (P := P) hl (by rw [hrec]; simp); rw [show rec.pending = none from by rw [hrec]] at this; exact this, ?_⟩
  have h1 := done xs (W2.putObj (D + 1) (.loop { rec with state := .exhausted, pending := none })) hS (hI _ _ _ hi OM ((zaT _ _ _).mono fun b _ h => .inr h)) (by rw [zbI]; omega) ((World.putObj_heap_other OM).trans hd)
  exact ⟨⟨fg, .of (D :: dl.toL)⟩, hf, rfl, h1.h hf⟩
 have hsz := hlt hl
 refine ⟨some c, _, run_endLoop (P := P) hl (by simp), ?_⟩
 have h1 := stop c pre (W2.putObj (D + 1) (.loop { rec with state := .exhausted, pending := some c })) (hIx _ _ _ _ hi OM ((zaT _ _ _).mono fun b _ h => .inr h)) (by rw [zbI]; omega) ((World.putObj_heap_other OM).trans hd)
 exact (h1.h hf : c.wpX P (LiftE n (after P n t K)) (act n ⟨fg, .of (D :: dl.toL)⟩) _) none (.inl rfl)
end
end Go.Vc
