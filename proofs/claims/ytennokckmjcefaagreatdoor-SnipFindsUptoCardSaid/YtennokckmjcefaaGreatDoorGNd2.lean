/- Helper lemmas that the proved statement rests on; no conditions of their own. -/
import Derived.Test.YtennokckmjcefaaGreatDoorGNi8
set_option linter.unusedVariables false
set_option maxHeartbeats 8000000
set_option maxRecDepth 100000
namespace Go.Proofs.YtennokckmjcefaaGreatDoor
open Go.Shelf Go.RowKit Go.Pw Go.Vc Go.Cs Go.Lib Go.Cd Go.Mg
section
end
theorem zrv {w : World} {v : Value} {B : Nat} (l : List Int) (g : Nat) (c0 : Value) (p : Int → Bool) (ho : OwnI w B v l) (hl : l.length ≤ 8796093022208) (hg : ∀ (args : Array Value) (w : World), (callFunc g args).run Tryz.prog w = .ok (.enter g args) w)
  (hp : ∀ x ∈ l, ∀ w', Kp w w' (own_ v) → Calls Tryz.prog g #[.int .i64 x, c0] w' fun e w'' => e = .returned (.bool (p x)) ∧ Kp w' w'' n_) :
  Calls Tryz.prog 201 #[v, .func (.func g) #[] #[c0]] w fun e w' => ∃ v', e = .returned v' ∧ OwnI w' B v' (l.filter fun x => !p x) ∧ Kp w w' (own_ v) ∧ (v'.ownBlock = v.ownBlock) := by
 obtain ⟨a, cap0, rfl⟩ := zab ho
 refine zaa (args := [.slice a l.length cap0, .func (.func g) #[] #[c0]]) Tryz.func201 rfl NL ?_; refine GW ?_
 refine CallS.of (Tryz.call236 _ _) (zqZ l g c0 p (zaw ho) (by omega) hg (fun x hx w' k => hp x hx w' k.of_none)) ?_
 rintro e w1 ⟨rfl, k1⟩
 refine RT ?_
 rcases idxP_lt p l with hi | ⟨i0, hi0, he0, hp0, hb0⟩
 ·rw [hi]
  refine KGO ?_
  refine ⟨_, rfl, ?_, k1.of_none, rfl⟩
  have hf : (l.filter fun x => !p x) = l := List.filter_eq_self.2 fun x hx => by
   have h : ¬ l.any p = true := fun h => by have := (zew p l).2 h; omega
   have := List.any_eq_false.1 (by simpa using h) x hx
   simpa using this
  rw [hf]
  exact zac ho k1
 rw [he0]
 rcases own_blockK ho with ⟨hnil, h0⟩ | ⟨gb, cap, cells0, hev, hBg, hv0, hnc, hcm, hcl0, htk0⟩
 ·omega
 injection hev with hev _ hcc
 subst hev; subst hcc
 have hgk : gb < w1.heap.size := Nat.lt_of_lt_of_le hv0.lt k1.size
 have ho1 := zac ho k1
 have hfl0 : ((l.take (i0 + 1)).filter fun x => !p x) = l.take i0 := by
  rw [zcr hi0, hp0]
  have : (l.take i0).filter (fun x => !p x) = l.take i0 := List.filter_eq_self.2 fun x hx => by
   obtain ⟨j, hj, rfl⟩ := List.mem_take_iff_getElem.1 hx
   rw [hb0 j (by omega)]; rfl
  rw [this]; simp
 refine KGO ?_
 refine Loop.intro (ι := Nat × Nat × List Int) (fun q => [(0, .slice (some ⟨gb, 0, none⟩) l.length cap0), (1, .func (.func g) #[] #[c0]), (5, .int .i64 (q.1 : Nat)), (6, .int .i64 (q.2.1 : Nat))])
  (fun q wr => Kp w wr (one_ gb) ∧ q.2.1 ≤ l.length ∧ q.1 < q.2.1 ∧ q.2.2.length = l.length ∧ q.2.2.take q.1 = ((l.take q.2.1).filter fun x => !p x) ∧ q.2.2.drop q.2.1 = l.drop q.2.1 ∧ OwnI wr B (.slice (some ⟨gb, 0, none⟩) q.2.2.length cap0) q.2.2)
  (fun q => l.length - q.2.1) (i0, i0 + 1, l) ⟨rfl, rfl, rfl, v_int (by simp), trivial⟩ ⟨k1.of_none, by dsimp only; omega, by dsimp only; omega, rfl, by dsimp only; rw [hfl0], rfl, ho1⟩ ?_
 clear ho1 hfl0 hb0 hp0 he0 hi0 i0
 rintro ⟨i, j, cur⟩ gg wr ⟨hK, hj, hij, hcl2, htk2, hdr2, ho2⟩
 dsimp only at hj hij hcl2 htk2 hdr2 ho2 ⊢
 rcases own_blockK ho2 with ⟨h, h0⟩ | ⟨g2, cap, cells, hev, hBg2, hv, hnc2, hcm2, hcl, htk⟩
 ·cases h
 injection hev with hev _ hcc
 injection hev with hev
 injection hev with hev
 subst hev; subst hcc
 have hrow := zds ho2
 have kr := Kp.refl wr n_
 refine GW ?_
 by_cases hlt : j < l.length
 ·have hcj : cur[j]'(by omega) = l[j] := by
   have h1 : (cur.drop j)[0]? = (l.drop j)[0]? := by rw [hdr2]
   rw [List.getElem?_drop, List.getElem?_drop, Nat.add_zero, List.getElem?_eq_getElem (by omega), List.getElem?_eq_getElem hlt] at h1
   exact Option.some.inj h1
  have hfs := zcr (p := fun x => !p x) hlt
  have hjc : j < cur.length := by omega
  obtain ⟨q, hq⟩ : ∃ q, p l[j] = q := ⟨_, rfl⟩
  have hmx := List.getElem_mem hlt
  rw [hq] at hfs
  have hcx := zcI hrow (i := j) (by omega)
  refine KGO ?_
  rw [hcj]
  generalize hxj : l[j] = x at *
  have hpc := hp x hmx wr (hK.mono fun q _ hq => by have hq : q = gb := hq; rw [hq]; rfl)
  rw [hq] at hpc
  refine CallS.of (hg _ _) hpc ?_
  rintro e w1 ⟨rfl, k1⟩
  refine RT ?_
  cases q with
  | true =>
   refine KGO ?_
   refine ⟨(i, j + 1, cur), ⟨rfl, rfl, rfl, v_int (by simp), trivial⟩, ⟨hK.trans0 k1, by dsimp only; omega, by dsimp only; omega, hcl2, ?_, ?_, zac ho2 k1⟩, by dsimp only; omega⟩
   ·dsimp only
    rw [hfs, htk2]; simp
   ·dsimp only
    rw [← List.drop_drop, hdr2, List.drop_drop]
  | false =>
   refine KGO ?_
   have hv := hv.keep0 k1
   refine Store.atK hv (i := 0 + i) (by omega) (by rfl) ⟨rfl, by simp, by simp⟩ fun w2 v2 k2 => ?_
   rw [Nat.zero_add] at v2
   have o2 := znF (w := w1) lenI (l := cur) (k := i) (j := 0) (x := x) (by omega) (by decide) rfl hBg (by omega) hcm hcl htk (by rw [Nat.mul_one, Nat.add_zero]; exact v2)
   refine KGO ?_
   have hil : i < cur.length := by omega
   refine ⟨(i + 1, j + 1, cur.set i x), ⟨rfl, rfl, v_int (by simp), v_int (by simp), trivial⟩, ⟨hK.trans' (k1.of_none.trans' k2), by dsimp only; omega, by dsimp only; omega, by dsimp only; rw [List.length_set]; exact hcl2, ?_, ?_, ?_⟩, by dsimp only; omega⟩
   ·dsimp only
    rw [hfs, ← htk2, List.take_succ_eq_append_getElem (by rw [List.length_set]; exact hil), List.getElem_set_self, List.take_set_of_le (Nat.le_refl _)]
    simp
   ·dsimp only
    rw [List.drop_set_of_lt (by omega), ← List.drop_drop, hdr2, List.drop_drop]
   ·dsimp only
    unfold OwnI
    rw [List.length_set]
    exact o2
 ·have hjl : j = l.length := by omega
  subst hjl
  rw [List.take_length] at htk2
  have hil : i < cur.length := by omega
  refine KGO ?_
  rw [if_neg (by omega : ¬ i = cap0)]
  refine RunN.clearK (s := 1) (n := l.length - i) Tryz.underlying40 infoI rfl (by intro u hu; simp [Value.cells] at hu; first | (subst hu; rfl) | (rcases hu with rfl | rfl <;> rfl)) hv (by first | (rw [hcl]; omega) | omega) fun w3 zs hzl v3 k3 => ?_
  refine KGO ?_
  have hle : (l.filter fun x => !p x).length = i := by rw [← htk2, List.length_take]; omega
  rw [if_neg (by omega : ¬ 0 = cap0), Nat.sub_zero, Nat.sub_zero]
  refine ⟨_, rfl, ?_, ((hK.trans' k3).mono fun q _ hq => by have hq : q = gb := hq; rw [hq]; rfl), rfl⟩
  have htA : cells.take (0 + i * 1) = (l.filter fun x => !p x).flatMap inC := by
   rw [Nat.zero_add, ← htk2, ← zbK inC 1 lenI, ← htk, List.take_take, Nat.min_eq_left (by omega)]
  have hlA : ((l.filter fun x => !p x).flatMap inC).length = i * 1 := by rw [zaW inC 1 lenI, hle]
  first | rw [htA] at v3 | (rw [show 0 + i * 1 = 0 + i by omega] at htA; rw [htA] at v3)
  unfold OwnI
  rw [hle]
  refine zbZ hBg v3 (by omega) hcm2 ?_ ?_ hlA
  ·rw [List.length_append, List.length_append, hlA, hzl, List.length_drop]; omega
  ·rw [List.append_assoc, ← hlA, List.take_left]
structure IxM (w : World) (b : Nat) (sv dv : Sl) (l : List (Sv × Sgm)) (x : Ix) : Prop where
 var : VarK w b 84 [.slice sv.a sv.n sv.c, .slice dv.a dv.n dv.c]
 sg : OwnSg w (b + 1) sv.v l
 dd : OwnI w (b + 1) dv.v x.dead
 el : ∀ p ∈ l, OwS w (b + 1) p.1 p.2
 eq : l.map (·.2) = x.segs
 ap : ∀ p ∈ l, Apart p.1.d.v dv.v
def fpX (b : Nat) (sv dv : Sl) (l : List (Sv × Sgm)) (k : Nat) : Prop := k = b ∨ sv.v.ownBlock = some k ∨ dv.v.ownBlock = some k ∨ ∃ p ∈ l, p.1.t.v.ownBlock = some k ∨ p.1.d.v.ownBlock = some k
theorem IxM.keepF {w w' : World} {b : Nat} {sv dv : Sl} {l : List (Sv × Sgm)} {x : Ix} {c : Nat → Prop} (h : IxM w b sv dv l x) (k : Kp w w' c) (hc : ∀ q, fpX b sv dv l q → ¬ c q) : IxM w' b sv dv l x :=
  ⟨h.var.keep k (hc b (.inl rfl)), zaj h.sg k fun q e => hc q (.inr (.inl e)), zaj h.dd k fun q e => hc q (.inr (.inr (.inl e))),
   fun p hp => ⟨zaj (h.el p hp).t k fun q e => hc q (.inr (.inr (.inr ⟨p, hp, .inl e⟩))), zaj (h.el p hp).d k fun q e => hc q (.inr (.inr (.inr ⟨p, hp, .inr e⟩)))⟩, h.eq, h.ap⟩
theorem IxM.keep0 {w w' : World} {b : Nat} {sv dv : Sl} {l : List (Sv × Sgm)} {x : Ix} (h : IxM w b sv dv l x) (k : Kp w w' n_) : IxM w' b sv dv l x := h.keepF k fun _ _ => id
theorem IxM.rd {w : World} {b : Nat} {sv dv : Sl} {l : List (Sv × Sgm)} {x : Ix} (h : IxM w b sv dv l x) {p : Sv × Sgm} (hp : p ∈ l) : RdS w p.1 p.2 := (h.el p hp).rd
structure IxV (w : World) (b : Nat) (sv dv : Sl) (l : List (Sv × Sgm)) : Prop where
 var : VarK w b 84 [.slice sv.a sv.n sv.c, .slice dv.a dv.n dv.c]
 sg : RowO w sv.v sgP l
 el : ∀ p ∈ l, RdS w p.1 p.2
theorem IxV.keep0 {w w' : World} {b : Nat} {sv dv : Sl} {l : List (Sv × Sgm)} (h : IxV w b sv dv l) (k : Kp w w' n_) : IxV w' b sv dv l := ⟨h.var.keep0 k, h.sg.keep k, fun p hp => (h.el p hp).keep k⟩
theorem IxM.v {w : World} {b : Nat} {sv dv : Sl} {l : List (Sv × Sgm)} {x : Ix} (h : IxM w b sv dv l x) : IxV w b sv dv l := ⟨h.var, zaw h.sg, fun p hp => h.rd hp⟩
structure IxB (x : Ix) : Prop where
 ok : IxOk x
 n : x.segs.length ≤ 1000
 d : x.dead.length ≤ 1000
 b : ∀ s ∈ x.segs, Bd s 1000 20000 20000
structure IxC (x : Ix) : Prop where
 asc : ∀ s ∈ x.segs, AscB ltI s.docs
 n : x.segs.length ≤ 1000
 dl : ∀ s ∈ x.segs, s.docs.length ≤ 1000000
theorem IxB.c {x : Ix} (h : IxB x) : IxC x := ⟨fun s hs => (zao.1 (h.ok.rt s hs)).1.1, h.n, fun s hs => by have := (h.b s hs).d; omega⟩
section
variable {w : World} {b : Nat} {sv dv : Sl} {l : List (Sv × Sgm)} {x : Ix}
theorem ziK (h : Sv) (s : Sgm) (d : Int) (hr : RdS w h s) (hs : AscB ltI s.docs) (hl : s.docs.length ≤ 1000000) : Calls Tryz.prog 135 #[.agg (sgC h).toArray, .int .i64 d] w fun e w' => e = .returned (.bool (decide (d ∈ s.docs))) ∧ Kp w w' n_ := by
 refine zaa (args := [.agg (sgC h).toArray, .int .i64 d]) Tryz.func135 rfl NL ?_; refine GW ?_
 obtain ⟨a_b3, v_b3, k_w1, z_w1, r_w1⟩ := new5 w 65 (sgC h)
 generalize w.alloc (.cells (List.toArray (sgC h)) 65) = w1 at *
 generalize hs_b3 : w.heap.size = b3 at *
 refine KGO ?_
 refine CallS.of (Tryz.call81 _ _) (bs_I (w := w1) s.docs d (hr.d.keep k_w1) (by omega)) ?_
 rintro e w2 ⟨k, q, rfl, hq, k2⟩
 refine RT ?_
 refine KGO ?_
 exact ⟨by rw [hq hs], k_w1.trans0 k2⟩
theorem znw (hv : VarK w b 84 [.slice sv.a sv.n sv.c, .slice dv.a dv.n dv.c]) {dead : List Int} (hd : RowI w dv.v dead) (ha : AscB ltI dead) (hl : dead.length ≤ 1000000) (d : Int) : Calls Tryz.prog 78 #[.pointer (some ⟨b, 0, none⟩), .int .i64 d] w fun e w' => e = .returned (.bool (decide (d ∈ dead))) ∧ Kp w w' n_ := by
 have hat := hv.at
 refine zaa (args := [.pointer (some ⟨b, 0, none⟩), .int .i64 d]) Tryz.func78 rfl NL ?_; refine GW ?_
 refine KGO ?_
 refine CallS.of (Tryz.call81 _ _) (bs_I (w := w) dead d hd (by omega)) ?_
 rintro e w2 ⟨k, q, rfl, hq, k2⟩
 refine RT ?_
 refine KGO ?_
 exact ⟨by rw [hq ha], k2⟩
theorem zoS {bd : Nat} (q : Sv × Sgm) (d : Int) (hr : RdS w q.1 q.2) (hs : AscB ltI q.2.docs) (hl : q.2.docs.length ≤ 1000000) (hd : VarK w bd 3 [.int .i64 d]) : Calls Tryz.prog 134 #[.agg (sgP q).toArray, .pointer (some ⟨bd, 0, none⟩)] w fun e w' => e = .returned (.bool (decide (d ∈ q.2.docs))) ∧ Kp w w' n_ := by
 have hda := hd.at
 refine zaa (args := [.agg (sgP q).toArray, .pointer (some ⟨bd, 0, none⟩)]) Tryz.func134 rfl NL ?_; refine GW ?_
 obtain ⟨a_b3, v_b3, k_w1, z_w1, r_w1⟩ := new5 w 65 (sgC q.1)
 generalize w.alloc (.cells (List.toArray (sgC q.1)) 65) = w1 at *
 generalize hs_b3 : w.heap.size = b3 at *
 have hd1 := (hd.keep0 k_w1).at
 refine KGO ?_
 refine CallS.of (Tryz.call135 _ _) (ziK (w := w1) q.1 q.2 d (hr.keep k_w1) hs hl) ?_
 rintro e w2 ⟨rfl, k2⟩
 refine RT ?_
 refine KGO ?_
 exact ⟨rfl, k_w1.trans0 k2⟩
def findI (x : Ix) (d : Int) : Int := idxP (fun s => decide (d ∈ s.docs)) x.segs
theorem ziO (h : IxV w b sv dv l) (he : l.map (·.2) = x.segs) (hb : IxC x) (d : Int) : Calls Tryz.prog 83 #[.pointer (some ⟨b, 0, none⟩), .int .i64 d] w fun e w' => e = .returned (.int .i64 (findI x d)) ∧ Kp w w' n_ := by
 refine zaa (args := [.pointer (some ⟨b, 0, none⟩), .int .i64 d]) Tryz.func83 rfl NL ?_; refine GW ?_
 obtain ⟨a_b3, v_b3, k_w1, z_w1, r_w1⟩ := new5 w 3 ([.int .i64 d])
 generalize w.alloc (.cells (List.toArray ([.int .i64 d])) 3) = w1 at *
 generalize hs_b3 : w.heap.size = b3 at *
 have h1 := h.keep0 k_w1
 have ha := h1.var.at
 have hll : l.length = x.segs.length := by rw [← he, List.length_map]
 refine KGO ?_
 refine CallS.of (Tryz.call95 _ _) (zpW (w := w1) (v := sv.v) l 134 (.pointer (some ⟨b3, 0, none⟩)) (fun q => decide (d ∈ q.2.docs)) h1.sg (by have := hb.n; omega) Tryz.call134 (fun q hq u k => zoS (w := u) q d ((h1.el q hq).keep k) (hb.asc q.2 (by rw [← he]; exact List.mem_map_of_mem hq)) (hb.dl q.2 (by rw [← he]; exact List.mem_map_of_mem hq)) (v_b3.keep0 k))) ?_
 rintro e w2 ⟨rfl, k2⟩
 refine RT ?_
 refine KGO ?_
 refine ⟨?_, k_w1.trans0 k2⟩
 rw [zoX (fun q : Sv × Sgm => q.2) (fun s => decide (d ∈ s.docs)), he]; rfl
theorem zhH (x : Ix) (d : Int) : 0 ≤ findI x d ↔ memB x.segs d = true := by
 unfold findI memB
 rw [zew]
theorem zqE (h : IxM w b sv dv l x) (hb : IxB x) (d : Int) : Calls Tryz.prog 80 #[.pointer (some ⟨b, 0, none⟩), .int .i64 d] w fun e w' => e = .returned (.bool (aliveB x d)) ∧ Kp w w' n_ := by
 refine zaa (args := [.pointer (some ⟨b, 0, none⟩), .int .i64 d]) Tryz.func80 rfl NL ?_; refine GW ?_
 refine CallS.of (Tryz.call83 _ _) (ziO h.v h.eq hb.c d) ?_
 rintro e w1 ⟨rfl, k1⟩
 have h1 := h.keep0 k1
 refine RT ?_
 unfold aliveB
 have hf := zhH x d
 cases hm : memB x.segs d with
 | false =>
  have : ¬ 0 ≤ findI x d := fun e => by rw [hf.1 e] at hm; cases hm
  refine KGO ?_
  exact ⟨rfl, k1⟩
 | true =>
  have := hf.2 hm
  refine KGO ?_
  refine CallS.of (Tryz.call78 _ _) (znw (w := w1) h1.var (zaw h1.dd) hb.ok.da (by have := hb.d; omega) d) ?_
  rintro e w2 ⟨rfl, k2⟩
  refine RT ?_
  refine KGO ?_
  exact ⟨rfl, k1.trans0 k2⟩
theorem zos (w : World) : (Instr.build 84 #[]).run Tryz.prog w = .ok (.agg #[.slice none 0 0, .slice none 0 0]) w := by
 simp [Instr.build, go_sem, Tryz.runUnderlying84]
theorem zro : Calls Tryz.prog 16 #[] w fun e w' => e = .returned (.pointer (some ⟨w.heap.size, 0, none⟩)) ∧ IxM w' w.heap.size ⟨none, 0, 0⟩ ⟨none, 0, 0⟩ [] emptyX ∧ Kp w w' n_ := by
 refine zaa (args := []) Tryz.func16 rfl NL ?_; refine GW ?_
 refine RunV.of (zos w) ?_
 refine GW ?_
 refine ⟨rfl, ⟨VarK.new w 84 [.slice none 0 0, .slice none 0 0], World.ownsRow_nil _ _ _ _, World.ownsRow_nil _ _ _ _, (fun p h => by cases h), rfl, (fun p h => by cases h)⟩, (Kp.refl _ _).alloc _⟩
end
section
variable {w : World} {b : Nat} {sv dv : Sl} {l : List (Sv × Sgm)} {x : Ix}
theorem zne {l : List Int} {p : Int → Bool} {i : Nat} (h : i < l.length) : (l.take (i + 1)).filter p = (l.take i).filter p ++ if p l[i] = true then [l[i]] else [] := by
 rw [List.take_succ_eq_append_getElem h, List.filter_append, List.filter_cons]
 split <;> rfl
end
theorem zaD {w : World} {B B' s s' n n' : Nat} {E E' : TypeId} {v v' : Value} {xs xs' : List Value} (h : w.ownsRow B E s v n xs) (h' : w.ownsRow B' E' s' v' n' xs') (hne : E ≠ E') : Apart v v' := fun k e e' => by
 obtain ⟨c1, z1, h1, _⟩ := zar h e
 obtain ⟨c2, z2, h2, _⟩ := zar h' e'
 rw [h1] at h2
 injection h2 with h2
 injection h2 with _ h3
 exact hne h3
structure MutX (w w' : World) (b : Nat) (sv dv : Sl) (l : List (Sv × Sgm)) (sv' dv' : Sl) (l' : List (Sv × Sgm)) : Prop where
 k : Kp w w' (fpX b sv dv l)
 f : ∀ k, fpX b sv' dv' l' k → fpX b sv dv l k ∨ w.heap.size ≤ k
section
variable {w : World} {b : Nat} {sv dv : Sl} {l : List (Sv × Sgm)} {x : Ix}
theorem MutX.same {w' : World} (k : Kp w w' n_) : MutX w w' b sv dv l sv dv l := ⟨k.of_none, fun _ h => .inl h⟩
end
section
variable {w : World} {b : Nat} {sv dv : Sl} {l : List (Sv × Sgm)} {x : Ix}
theorem zrp {h : Sv} {s : Sgm} (r : RdS w h s) : h.d.n = s.docs.length ∧ h.t.n = s.terms.length := by
 obtain ⟨a, c, e, _⟩ := r.d
 obtain ⟨a', c', e', _⟩ := r.t
 injection e with _ e2 _
 injection e' with _ e2' _
 exact ⟨e2, e2'⟩
theorem zmc (q : Sv × Sgm) (hn : q.1.d.n = q.2.docs.length) : Calls Tryz.prog 200 #[.agg (sgP q).toArray] w fun e w' => e = .returned (.bool (decide (q.2.docs.length = 0))) ∧ Kp w w' n_ := by
 refine zaa (args := [.agg (sgP q).toArray]) Tryz.func200 rfl NL ?_; refine GW ?_
 obtain ⟨a_b3, v_b3, k_w1, z_w1, r_w1⟩ := new5 w 65 (sgC q.1)
 generalize w.alloc (.cells (List.toArray (sgC q.1)) 65) = w1 at *
 generalize hs_b3 : w.heap.size = b3 at *
 obtain ⟨⟨⟨ta, tn, tc⟩, ⟨da, dn, dc⟩⟩, s⟩ := q
 dsimp only at hn
 subst hn
 by_cases h0 : s.docs.length = 0
 ·refine KGO ?_
  exact ⟨zal (by simp [h0]), k_w1⟩
 ·refine KGO ?_
  exact ⟨zal (by simp [h0]), k_w1⟩
theorem zlu {bx : Nat} (h : IxV w b sv dv l) (he : l.map (·.2) = x.segs) (hb : IxC x) (hx : VarK w bx 23 [.pointer (some ⟨b, 0, none⟩)]) (d : Int) : Calls Tryz.prog 202 #[.int .i64 d, .pointer (some ⟨bx, 0, none⟩)] w fun e w' => e = .returned (.bool (!memB x.segs d)) ∧ Kp w w' n_ := by
 have hxa := hx.at
 refine zaa (args := [.int .i64 d, .pointer (some ⟨bx, 0, none⟩)]) Tryz.func202 rfl NL ?_; refine GW ?_
 refine KGO ?_
 refine CallS.of (Tryz.call83 _ _) (ziO h he hb d) ?_
 rintro e w1 ⟨rfl, k1⟩
 refine RT ?_
 have hf := zhH x d
 cases hm : memB x.segs d with
 | false =>
  have : ¬ 0 ≤ findI x d := fun e => by rw [hf.1 e] at hm; cases hm
  refine KGO ?_
  exact ⟨zal (by simp; omega), k1⟩
 | true =>
  have := hf.2 hm
  refine KGO ?_
  exact ⟨zal (by simp; omega), k1⟩
theorem zoN (l : List (Sv × Sgm)) : (l.filter fun q => !decide (q.2.docs.length = 0)).map (·.2) = fullL (l.map (·.2)) := by
 unfold fullL
 rw [List.filter_map]
 congr 1
 refine List.filter_congr fun q _ => ?_
 cases hq : q.2.docs with
 | nil => simp [hq]
 | cons => simp [hq]
theorem znR (h : IxM w b sv dv l x) (hb : IxC x) (hd : x.dead.length ≤ 1000) : Calls Tryz.prog 138 #[.pointer (some ⟨b, 0, none⟩)] w fun e w' => e = .returned (.tuple #[]) ∧ ∃ sv' dv' l', IxM w' b sv' dv' l' (cleanX x) ∧ MutX w w' b sv dv l sv' dv' l' := by
 have hll : l.length = x.segs.length := by rw [← h.eq, List.length_map]
 have hbw := h.var.lt
 refine zaa (args := [.pointer (some ⟨b, 0, none⟩)]) Tryz.func138 rfl NL ?_; refine GW ?_
 obtain ⟨a_b1, v_b1, k_w1, z_w1, r_w1⟩ := new5 w 23 ([.pointer (some ⟨b, 0, none⟩)])
 generalize w.alloc (.cells (List.toArray ([.pointer (some ⟨b, 0, none⟩)])) 23) = w1 at *
 generalize hs_b1 : w.heap.size = b1 at *
 have h1 := h.keep0 k_w1
 have hown1 : ∀ q, sv.v.ownBlock = some q → q < w.heap.size ∧ b + 1 ≤ q := fun q e => ⟨(h.sg.lt q e).2, (h.sg.lt q e).1⟩
 have hS1 : ∀ u, Kp w1 u (own_ sv.v) → At u b1 0 [.pointer (some ⟨b, 0, none⟩)] := fun u hu => zbG a_b1 hu fun e => by have := hown1 b1 e; omega
 have hS2 : ∀ u, Kp w1 u (own_ sv.v) → At u b 0 [.slice sv.a sv.n sv.c, .slice dv.a dv.n dv.c] := fun u hu => zbG h1.var.at hu fun e => by have := hown1 b e; omega
 refine Draw.heldEnd (fun u => Kp w1 u (own_ sv.v)) (fun _ => true) (by simp) (by decide +kernel) (by decide +kernel) (Kp.refl _ _).drew ?_
 refine KGO ?_
 refine Held.one (by rfl) (fun u hu => hS1 u hu 0 _ rfl) ?_
 refine KGO ?_
 refine Held.one (by rfl) (fun u hu => hS1 u hu 0 _ rfl) ?_
 refine KGO ?_
 refine Held.one (by rfl) (fun u hu => hS2 u hu 0 _ rfl) ?_
 refine KGO ?_
 have kd := (Kp.refl w1 n_).drew
 refine CallS.of (Tryz.call199 _ _) (zpQ (w := w1.drew) (v := sv.v) l 200 (fun q => decide (q.2.docs.length = 0)) (h1.keep0 kd).sg (by have := hb.n; omega) Tryz.call200 (fun q hq u k => zmc (w := u) q (zrp (h1.rd hq)).1)) ?_
 rintro e w2 ⟨v2, rfl, o2, k2, f2⟩
 obtain ⟨a2, c2, rfl⟩ := zab o2
 have k12 : Kp w1 w2 (own_ sv.v) := kd.of_none.trans' k2
 have vv2 := h1.var.keep k12 fun e => by have := hown1 b e; omega
 have vb2 := v_b1.keep k12 fun e => by have := hown1 b1 e; omega
 refine RT ?_
 refine ⟨k12, ?_⟩
 refine KGO ?_
 refine Store.cellK (i := 0) vv2 (by simp) (by rfl) ⟨rfl, by simp, by simp⟩ fun w3 v3 k3 => ?_
 refine KGO ?_
 have sg3 : OwnSg w3 (b + 1) (.slice a2 (l.filter fun q => !decide (q.2.docs.length = 0)).length c2) (l.filter fun q => !decide (q.2.docs.length = 0)) := zaC o2 k3 (by omega)
 have dd3 : OwnI w3 (b + 1) dv.v x.dead := zaC (zaj h1.dd k12 (zaD h1.dd h1.sg (by decide))) k3 (by omega)
 have el3 : ∀ p ∈ l, OwS w3 (b + 1) p.1 p.2 := fun p hp => ⟨zaC (zaj (h1.el p hp).t k12 (zaD (h1.el p hp).t h1.sg (by decide))) k3 (by omega), zaC (zaj (h1.el p hp).d k12 (zaD (h1.el p hp).d h1.sg (by decide))) k3 (by omega)⟩
 have vb3 := vb2.keep k3 (show ¬ b1 = b by omega)
 have z12 := k12.size
 have z3 := k3.size
 have z01 := k_w1.size
 generalize hl2 : (l.filter fun q => !decide (q.2.docs.length = 0)) = l2 at *
 have hsub : ∀ p ∈ l2, p ∈ l := fun p hp => by rw [← hl2] at hp; exact (List.mem_filter.1 hp).1
 have heq2 : l2.map (·.2) = fullL x.segs := by rw [← hl2, zoN, h.eq]
 have hbn : b1 = w.heap.size := by omega
 have hown2 : ∀ q, dv.v.ownBlock = some q → q < w.heap.size ∧ b + 1 ≤ q := fun q e => ⟨(h.dd.lt q e).2, (h.dd.lt q e).1⟩
 have hS3 : ∀ u, Kp w3 u (own_ dv.v) → At u b1 0 [.pointer (some ⟨b, 0, none⟩)] := fun u hu => zbG vb3.at hu fun e => by have := hown2 b1 e; omega
 have hS4 : ∀ u, Kp w3 u (own_ dv.v) → At u b 0 [.slice a2 l2.length c2, .slice dv.a dv.n dv.c] := fun u hu => zbG v3.at hu fun e => by have := hown2 b e; omega
 have hC : IxC ⟨fullL x.segs, x.dead⟩ := ⟨fun s hs => hb.asc s (List.mem_filter.1 hs).1, Nat.le_trans (List.length_filter_le _ _) hb.n, fun s hs => hb.dl s (List.mem_filter.1 hs).1⟩
 have hV : ∀ u, Kp w3 u (own_ dv.v) → IxV u b ⟨a2, l2.length, c2⟩ dv l2 := fun u hu => ⟨v3.keep hu fun e => by have := hown2 b e; omega, zaw (zaj sg3 hu (zaD sg3 dd3 (by decide))), fun p hp => OwS.rd (B := b + 1) ⟨zaj (el3 p (hsub p hp)).t hu (zaD (el3 p (hsub p hp)).t dd3 (by decide)), zaj (el3 p (hsub p hp)).d hu (h.ap p (hsub p hp))⟩⟩
 refine Draw.heldEnd (fun u => Kp w3 u (own_ dv.v)) (fun _ => true) (by simp) (by decide +kernel) (by decide +kernel) (Kp.refl _ _).drew ?_
 refine KGO ?_
 refine Held.one (by rfl) (fun u hu => hS3 u hu 0 _ rfl) ?_
 refine KGO ?_
 refine Held.one (by rfl) (fun u hu => hS3 u hu 0 _ rfl) ?_
 refine KGO ?_
 refine Held.one (by rfl) (fun u hu => hS4 u hu 1 _ rfl) ?_
 refine KGO ?_
 have kd3 := (Kp.refl w3 n_).drew
 refine CallS.of (Tryz.call201 _ _) (zrv (w := w3.drew) (v := dv.v) x.dead 202 (.pointer (some ⟨b1, 0, none⟩)) (fun d => !memB (fullL x.segs) d) (zac dd3 kd3) (by omega) Tryz.call202 (fun d hd u k => zlu (x := ⟨fullL x.segs, x.dead⟩) (w := u) (hV u (kd3.of_none.trans' k)) heq2 hC (vb3.keep (kd3.of_none.trans' k) fun e => by have := hown2 b1 e; omega) d)) ?_
 rintro e w4 ⟨v4, rfl, o4, k4, f4⟩
 obtain ⟨a4, c4, rfl⟩ := zab o4
 have k34 : Kp w3 w4 (own_ dv.v) := kd3.of_none.trans' k4
 have vv4 := v3.keep k34 fun e => by have := hown2 b e; omega
 have sg4 := zaj sg3 k34 (zaD sg3 dd3 (by decide))
 refine RT ?_
 refine ⟨k34, ?_⟩
 refine KGO ?_
 refine Store.cellK (i := 1) vv4 (by simp) (by rfl) ⟨rfl, by simp, by simp⟩ fun w5 v5 k5 => ?_
 refine KGO ?_
 have hde : (x.dead.filter fun d => !!memB (fullL x.segs) d) = x.dead.filter fun d => memB (fullL x.segs) d := by simp
 refine ⟨rfl, ⟨a2, l2.length, c2⟩, ⟨a4, _, c4⟩, l2, ⟨v5, zaC sg4 k5 (by omega), ?_, fun p hp => ⟨zaC (zaj (el3 p (hsub p hp)).t k34 (zaD (el3 p (hsub p hp)).t dd3 (by decide))) k5 (by omega), zaC (zaj (el3 p (hsub p hp)).d k34 (h.ap p (hsub p hp))) k5 (by omega)⟩, heq2, fun p hp q hq e => h.ap p (hsub p hp) q hq (f4 ▸ e)⟩, ?_, fun q hq => ?_⟩
 ·show OwnI w5 (b + 1) _ (x.dead.filter fun d => memB (fullL x.segs) d)
  rw [← hde]
  exact zaC o4 k5 (by omega)
 ·exact ((((k_w1.of_none.trans' (k12.mono fun q _ e => .inr (.inl e)))).trans' (k3.mono fun q _ e => .inl e)).trans' (k34.mono fun q _ e => .inr (.inr (.inl e)))).trans' (k5.mono fun q _ e => .inl e)
 ·rcases hq with hq | hq | hq | ⟨p, hp, hq⟩
  ·exact .inl (.inl hq)
  ·exact .inl (.inr (.inl (f2 ▸ hq)))
  ·exact .inl (.inr (.inr (.inl (f4 ▸ hq))))
  ·exact .inl (.inr (.inr (.inr ⟨p, hsub p hp, hq⟩)))
end
section
end
end Go.Proofs.YtennokckmjcefaaGreatDoor
namespace Go.Proofs.YtennokckmjcefaaGreatDoor
open Go.RowKit Go.Pw Go.Vc Go.Cs Go.Lib
end Go.Proofs.YtennokckmjcefaaGreatDoor
namespace Go.Proofs.YtennokckmjcefaaGreatDoor
open Go.Shelf Go.RowKit Go.Pw Go.Vc Go.Cs Go.Lib Go.Cd Go.Mg
theorem oneSg (l : List (Sv × Sgm)) : ∀ u ∈ l.flatMap sgP, u.oneCell' = true := fun u hu => by
 obtain ⟨x, _, hx⟩ := List.mem_flatMap.1 hu
 exact List.all_eq_true.1 (show (sgP x).all (fun u => u.oneCell') = true by rfl) u hx
section
variable {w : World}
theorem rp_Sg {v : Value} {B vb : Nat} (l : List (Sv × Sgm)) (i j : Nat) (y : Sv × Sgm) (ho : OwnSg w B v l) (hij : i < j) (hj : j ≤ l.length) (hl : l.length ≤ 1000000) (hvb : VarK w vb 65 (sgP y)) (hne : ∀ g, v.ownBlock = some g → g ≠ vb) :
  Calls Tryz.prog 136 #[v, .int .i64 (i : Nat), .int .i64 (j : Nat), .slice (some ⟨vb, 0, none⟩) 1 1] w fun e w' => ∃ v', e = .returned v' ∧ OwnSg w' B v' (l.take i ++ y :: l.drop j) ∧ Kp w w' (own_ v) ∧ v'.ownBlock = v.ownBlock := by
 have hlenK := zaW sgP 2 lenSg
 have htkK := zbK sgP 2 lenSg
 have hdrK := zcn sgP 2 lenSg
 rcases own_blockK ho with ⟨rfl, h0⟩ | ⟨g, cap, cells, rfl, hBg, hv, hnc, hcm, hcl, htk⟩
 ·omega
 have hgvb : g ≠ vb := hne g rfl
 have hA : ((l.take i).flatMap sgP).length = i * 2 := by rw [hlenK, List.length_take]; omega
 have hD : ((l.drop j).flatMap sgP).length = (l.length - j) * 2 := by rw [hlenK, List.length_drop]
 have htA : cells.take (i * 2) = (l.take i).flatMap sgP := by
  rw [show cells.take (i * 2) = (cells.take (l.length * 2)).take (i * 2) by rw [List.take_take, Nat.min_eq_left (by omega)], htk, htkK]
 have hres : (l.take i ++ y :: l.drop j).flatMap sgP = (l.take i).flatMap sgP ++ (sgP y ++ (l.drop j).flatMap sgP) := by rw [List.flatMap_append, List.flatMap_cons]
 have hresl : (l.take i ++ y :: l.drop j).length = i + 1 + (l.length - j) := by rw [List.length_append, List.length_cons, List.length_take, List.length_drop]; omega
 have hnews : ∀ m u, (sgP y)[m]? = some u → w.cell? ((⟨vb, 0, none⟩ : Addr).add m) = some u := hvb.cells w 0 fun m u h => by simpa using h
 have hy1 : ∀ u ∈ sgP y, u.oneCell' = true := by have := oneSg [y]; simpa using this
 have hyl : (sgP y).length = 1 * 2 := rfl
 refine zaa (args := [.slice (some ⟨g, 0, none⟩) l.length cap, .int .i64 (i : Nat), .int .i64 (j : Nat), .slice (some ⟨vb, 0, none⟩) 1 1]) Tryz.func136 rfl NL ?_; refine GW ?_
 by_cases hje : j = l.length
 ·subst hje
  refine KGO ?_
  rw [if_neg (by omega : ¬ 0 = cap), Nat.sub_zero, Nat.sub_zero]
  refine RunN.roomK (s := 2) (n := i) (c := cap) (m := 1) Tryz.underlying56 infoSg hv (a := ⟨vb, 0, none⟩) (news := sgP y) hyl hnews hy1 (by omega) (by rw [hcl]; omega) fun w2 v2 k2 => ?_
  rw [List.drop_length, List.flatMap_nil, List.append_nil] at hres
  rw [Nat.sub_self, Nat.add_zero] at hresl
  rw [List.drop_length] at hresl ⊢
  generalize hAe : (l.take i).flatMap sgP = A at *
  rw [htA] at v2
  have hrl : (A ++ sgP y).length = (i + 1) * 2 := by rw [List.length_append, hA, hyl]; omega
  by_cases hc : i + 1 = l.length
  ·refine KGO ?_
   refine ⟨_, rfl, ?_, k2.mono fun q _ hq => by have hq : q = g := hq; rw [hq]; rfl, rfl⟩
   unfold OwnSg
   rw [hresl, hres]
   refine zbZ hBg v2 (by omega) hcm (by rw [List.length_append, hrl, List.length_drop, hcl]; omega) ?_ hrl
   rw [← hrl, List.take_left]
  ·refine KGO ?_
   rw [if_neg (by omega : ¬ i + 1 = cap)]
   refine RunN.clearK (s := 2) (g := g) (o := 0 + (i + 1) * 2) (n := l.length - (i + 1)) Tryz.underlying56 infoSg rfl (fun u hu => by exact List.all_eq_true.1 (show (((.agg #[.slice none 0 0, .slice none 0 0] : Value)).cells.toList).all (fun u => u.oneCell') = true by rfl) u (by simpa using hu)) v2 (by rw [List.length_append, hrl, List.length_drop, hcl]; omega) fun w3 zs hzl v3 k3 => ?_
   refine KGO ?_
   refine ⟨_, rfl, ?_, (k2.trans' k3).mono fun q _ hq => by have hq : q = g := hq; rw [hq]; rfl, rfl⟩
   unfold OwnSg
   rw [hresl, hres]
   rw [show 0 + (i + 1) * 2 = (A ++ sgP y).length by omega, List.take_left] at v3
   refine zbZ hBg v3 (by omega) hcm (by rw [List.length_append, List.length_append, hrl, List.length_drop, List.length_append, hrl, List.length_drop, hcl, hzl]; omega) ?_ hrl
   rw [← hrl, List.append_assoc, List.take_left]
 ·refine KGO ?_
  refine RunN.capK Tryz.underlying56 ?_
  refine KGO ?_
  have hvd : VarK w.drew g 65 cells := hv
  have hvbd : VarK w.drew vb 65 (sgP y) := hvb
  rw [if_neg (by omega : ¬ 0 = cap), if_neg (by omega : ¬ i = cap - 0)]
  refine RunN.copyK Tryz.underlying56 infoSg hvd (a := ⟨vb, 0, none⟩) (news := sgP y) (m := 1) (by omega) rfl (hvbd.cells _ 0 fun m u h => by simpa using h) hy1 (by rw [hcl, hyl]; omega) fun w2 v2 k2 => ?_
  rw [show 0 + i * 2 = i * 2 by omega, htA, hyl] at v2
  generalize hAe : (l.take i).flatMap sgP = A at *
  have hT : cells.drop (i * 2 + 1 * 2) = cells.drop ((i + 1) * 2) := by rw [Nat.add_mul]
  rw [hT] at v2
  have hTl : (cells.drop ((i + 1) * 2)).length = (cap - (i + 1)) * 2 := by rw [List.length_drop, hcl]; omega
  have hDs : ∀ m u, ((l.drop j).flatMap sgP)[m]? = some u → (cells.drop ((i + 1) * 2))[(j - (i + 1)) * 2 + m]? = some u := fun m u hm => by
   rw [← hdrK, List.getElem?_drop, ← htk, List.getElem?_take] at hm
   rw [List.getElem?_drop, show (i + 1) * 2 + ((j - (i + 1)) * 2 + m) = j * 2 + m by omega]
   split at hm
   ·exact hm
   ·cases hm
  have hD1 : ∀ u ∈ (l.drop j).flatMap sgP, u.oneCell' = true := oneSg _
  generalize hDe : (l.drop j).flatMap sgP = D at *
  generalize cells.drop ((i + 1) * 2) = T at *
  have hrl : (A ++ sgP y).length = (i + 1) * 2 := by rw [List.length_append, hA, hyl]; omega
  refine KGO ?_
  rw [if_neg (by omega : ¬ i + 1 = cap - 0), if_neg (by omega : ¬ j = cap)]
  have v2d : VarK w2.drew g 65 (A ++ sgP y ++ T) := v2
  refine RunN.copyK Tryz.underlying56 infoSg v2d (a := ⟨g, 0 + j * 2, none⟩) (news := D) (m := l.length - j) (by omega) hD (v2d.cells _ _ fun m u hm => by
   rw [List.getElem?_append_right (by omega), hrl, show 0 + j * 2 + m - (i + 1) * 2 = (j - (i + 1)) * 2 + m by omega]
   exact hDs m u hm) hD1 (by rw [List.length_append, hrl, hTl, hD]; omega) fun w3 v3 k3 => ?_
  rw [show 0 + 0 * 2 + (i + 1) * 2 = (A ++ sgP y).length by omega, List.take_left] at v3
  refine KGO ?_
  rw [Nat.sub_zero]
  have hrD : (A ++ sgP y ++ D).length = (i + 1 + (l.length - j)) * 2 := by rw [List.length_append, hrl, hD]; omega
  have hz1 : ∀ u ∈ (.agg #[.slice none 0 0, .slice none 0 0] : Value).cells, u.oneCell' = true := fun u hu => by exact List.all_eq_true.1 (show (((.agg #[.slice none 0 0, .slice none 0 0] : Value)).cells.toList).all (fun u => u.oneCell') = true by rfl) u (by simpa using hu)
  generalize hRe : (A ++ sgP y ++ T).drop ((A ++ sgP y).length + D.length) = R at *
  have hRl : R.length = (cap - (i + 1 + (l.length - j))) * 2 := by rw [← hRe, List.length_drop, List.length_append, hrl, hTl, hD]; omega
  have hKK := ((((Kp.refl w n_).drew.of_none (c := one_ g)).trans' k2).trans' ((Kp.refl w2 n_).drew.of_none (c := one_ g))).trans' k3
  by_cases hq : i + 1 + (l.length - j) = cap
  ·rw [if_pos hq]
   refine RunN.clearK (s := 2) (g := g) (o := 0) (n := l.length - (i + 1 + (l.length - j))) Tryz.underlying56 infoSg rfl hz1 v3 (by rw [List.length_append, hrD]; omega) fun w4 zs hzl v4 k4 => ?_
   refine KGO ?_
   refine ⟨_, rfl, ?_, (hKK.trans' k4).mono fun q _ hq => by have hq : q = g := hq; rw [hq]; rfl, rfl⟩
   have hn0 : l.length - (i + 1 + (l.length - j)) = 0 := by omega
   rw [hn0] at v4 hzl
   have hzs : zs = [] := List.eq_nil_of_length_eq_zero (by omega)
   subst hzs
   unfold OwnSg
   rw [hresl, hres, ← List.append_assoc]
   have v4 : VarK w4 g 65 (A ++ sgP y ++ D ++ R) := by simpa using v4
   refine zbZ hBg v4 (by omega) hcm (by rw [List.length_append, hrD, hRl]; omega) ?_ hrD
   rw [Nat.sub_zero, ← hrD, List.take_left]
  ·rw [if_neg hq]
   refine RunN.clearK (s := 2) (g := g) (o := 0 + (i + 1 + (l.length - j)) * 2) (n := l.length - (i + 1 + (l.length - j))) Tryz.underlying56 infoSg rfl hz1 v3 (by rw [List.length_append, hrD, hRl]; omega) fun w4 zs hzl v4 k4 => ?_
   refine KGO ?_
   refine ⟨_, rfl, ?_, (hKK.trans' k4).mono fun q _ hq => by have hq : q = g := hq; rw [hq]; rfl, rfl⟩
   unfold OwnSg
   rw [hresl, hres, ← List.append_assoc]
   rw [show 0 + (i + 1 + (l.length - j)) * 2 = (A ++ sgP y ++ D).length by omega, List.take_left] at v4
   refine zbZ hBg v4 (by omega) hcm (by rw [List.length_append, List.length_append, hrD, List.length_drop, List.length_append, hrD, hRl, hzl]; omega) ?_ hrD
   rw [Nat.sub_zero, ← hrD, List.append_assoc (A ++ sgP y ++ D), List.take_left]
end
theorem MutX.trans {w w1 w2 : World} {b : Nat} {sv dv sv1 dv1 sv2 dv2 : Sl} {l l1 l2 : List (Sv × Sgm)} (h1 : MutX w w1 b sv dv l sv1 dv1 l1) (h2 : MutX w1 w2 b sv1 dv1 l1 sv2 dv2 l2) : MutX w w2 b sv dv l sv2 dv2 l2 :=
 ⟨h1.k.trans h2.k fun q hq e => (h1.f q e).resolve_right (by omega), fun q e => (h2.f q e).elim (fun e => h1.f q e) fun e => .inr (by have := h1.k.size; omega)⟩
theorem bs1Sg (h : Sv) (w : World) : (Instr.buildSlice 56 1 [(0, .agg (sgC h).toArray)].toArray).run Tryz.prog w = .ok (.slice (some ⟨w.heap.size, 0, none⟩) 1 1) (w.alloc (.cells (List.toArray (sgC h)) 65)) := by
 simp [Instr.buildSlice, Instr.fill, go_sem, Tryz.runUnderlying56, sgC]
section
variable {w : World} {b : Nat} {sv dv : Sl} {l : List (Sv × Sgm)} {x : Ix}
theorem zlc {vd : Value} (h : IxM w b sv dv l x) (hb : IxC x) (hd : x.dead.length ≤ 1000) (i n : Nat) (hn : 0 < n) (hin : i + n ≤ x.segs.length) (ha hb2 : Sv) (sa sb : Sgm) (dead : List Int) (ra : RdS w ha sa) (rb : RdS w hb2 sb) (ba : Bd sa 1000 20000 20000) (bb : Bd sb 1000 20000 20000) (rd : RowI w vd dead) (hdl : dead.length ≤ 1000000) (hE : CEnv w) :
  Calls Tryz.prog 84 #[.pointer (some ⟨b, 0, none⟩), .int .i64 (i : Nat), .int .i64 (n : Nat), .agg (sgC ha).toArray, .agg (sgC hb2).toArray, vd] w fun e w' => e = .returned (.tuple #[]) ∧ ∃ sv' dv' l', IxM w' b sv' dv' l' (replX x i n (twoS sa sb dead)) ∧ MutX w w' b sv dv l sv' dv' l' := by
 have hll : l.length = x.segs.length := by rw [← h.eq, List.length_map]
 have hbw := h.var.lt
 have hxn := hb.n
 have rd0 := rd
 obtain ⟨ad, cd, rfl, _⟩ := rd
 refine zaa (args := [.pointer (some ⟨b, 0, none⟩), .int .i64 (i : Nat), .int .i64 (n : Nat), .agg (sgC ha).toArray, .agg (sgC hb2).toArray, .slice ad dead.length cd]) Tryz.func84 rfl NL ?_; refine GW ?_
 obtain ⟨a_b1, v_b1, k_w1, z_w1, r_w1⟩ := new5 w 65 (sgC ha)
 generalize w.alloc (.cells (List.toArray (sgC ha)) 65) = w1 at *
 generalize hs_b1 : w.heap.size = b1 at *
 obtain ⟨a_b2, v_b2, k_w2, z_w2, r_w2⟩ := new5 w1 65 (sgC hb2)
 generalize w1.alloc (.cells (List.toArray (sgC hb2)) 65) = w2 at *
 generalize hs_b2 : w1.heap.size = b2 at *
 have K2 := k_w1.trans0 k_w2
 have h2 := h.keep0 K2
 have z2 : w2.heap.size = w.heap.size + 2 := by omega
 have hown : ∀ q, sv.v.ownBlock = some q → q < w.heap.size ∧ b + 1 ≤ q := fun q e => ⟨(h.sg.lt q e).2, (h.sg.lt q e).1⟩
 have v1 := v_b1.keep0 k_w2
 have hS1 : ∀ u, Kp w2 u (own_ sv.v) → At u b1 0 (sgC ha) := fun u hu => zbG v1.at hu fun e => by have := hown b1 e; omega
 have hS2 : ∀ u, Kp w2 u (own_ sv.v) → At u b2 0 (sgC hb2) := fun u hu => zbG v_b2.at hu fun e => by have := hown b2 e; omega
 have hS3 : ∀ u, Kp w2 u (own_ sv.v) → At u b 0 [.slice sv.a sv.n sv.c, .slice dv.a dv.n dv.c] := fun u hu => zbG h2.var.at hu fun e => by have := hown b e; omega
 refine Draw.heldEnd (fun u => Kp w2 u (own_ sv.v)) (fun _ => true) (by simp) (by decide +kernel) (by decide +kernel) (Kp.refl _ _).drew ?_
 refine KGO ?_
 refine Held.one (by rfl) (fun u hu => hS3 u hu 0 _ rfl) ?_
 refine KGO ?_
 refine HeldG (sgC ha) (by rfl) (by rfl) (fun u hu => hS1 u hu) (by rfl) ?_
 refine KGO ?_
 refine HeldG (sgC hb2) (by rfl) (by rfl) (fun u hu => hS2 u hu) (by rfl) ?_
 refine KGO ?_
 have kd := (Kp.refl w2 n_).drew
 have Kd := K2.trans0 kd
 refine CallS.of (Tryz.call137 _ _) (zqW (w := w2.drew) ha hb2 sa sb dead (ra.keep Kd) (rb.keep Kd) (zmW ba (by omega) (by omega) (by omega)) (zmW bb (by omega) (by omega) (by omega)) (rd0.keep Kd) hdl (hE.keep Kd)) ?_
 rintro e w3 ⟨hy, rfl, oy, k3⟩
 have k23 : Kp w2 w3 n_ := kd.trans0 k3
 have z3 := k23.size
 refine RT ?_
 refine ⟨k23.of_none, ?_⟩
 refine KGO ?_
 refine RunV.of (bs1Sg hy _) ?_
 obtain ⟨a_b3, v_b3, k_w4, z_w4, r_w4⟩ := new5 w3 65 (sgC hy)
 generalize w3.alloc (.cells (List.toArray (sgC hy)) 65) = w4 at *
 generalize hs_b3 : w3.heap.size = b3 at *
 have k24 := k23.trans0 k_w4
 refine ⟨k24.of_none, ?_⟩
 have h4 := h2.keep0 k24
 have oy4 := oy.keep k_w4
 refine KGO ?_
 refine CallS.of (Tryz.call136 _ _) (rp_Sg (w := w4) (v := sv.v) l i (i + n) (hy, twoS sa sb dead) h4.sg (by omega) (by omega) (by omega) v_b3 (fun g hg e => by have := hown g hg; omega)) ?_
 rintro e w5 ⟨v5, rfl, o5, k5, f5⟩
 obtain ⟨a5, c5, rfl⟩ := zab o5
 have k25 : Kp w2 w5 (own_ sv.v) := k24.of_none.trans' k5
 have vv5 := h2.var.keep k25 fun e => by have := hown b e; omega
 refine RT ?_
 refine ⟨k25, ?_⟩
 refine KGO ?_
 refine Store.cellK (i := 0) vv5 (by simp) (by rfl) ⟨rfl, by simp, by simp⟩ fun w6 v6 k6 => ?_
 refine KGO ?_
 generalize hN : l.take i ++ (hy, twoS sa sb dead) :: l.drop (i + n) = N at *
 have hyn : ∀ p ∈ N, p ∈ l ∨ p = (hy, twoS sa sb dead) := fun p hp => by
  rw [← hN] at hp
  rcases List.mem_append.1 hp with hp | hp
  ·exact .inl (List.mem_of_mem_take hp)
  ·rcases List.mem_cons.1 hp with rfl | hp
   ·exact .inr rfl
   ·exact .inl (List.mem_of_mem_drop hp)
 have sg6 : OwnSg w6 (b + 1) (.slice a5 N.length c5) N := zaC o5 k6 (by omega)
 have h2dd : OwnI w2 (b + 1) dv.v x.dead := h2.dd
 have dd6 : OwnI w6 (b + 1) dv.v x.dead := zaC (zaj h2.dd k25 (zaD h2.dd h2.sg (by decide))) k6 (by omega)
 have el6 : ∀ p ∈ N, OwS w6 (b + 1) p.1 p.2 := fun p hp => by
  rcases hyn p hp with hp | rfl
  ·exact ⟨zaC (zaj (h2.el p hp).t k25 (zaD (h2.el p hp).t h2.sg (by decide))) k6 (by omega), zaC (zaj (h2.el p hp).d k25 (zaD (h2.el p hp).d h2.sg (by decide))) k6 (by omega)⟩
  ·have ob : OwS w4 (b + 1) hy (twoS sa sb dead) := oy4.base (by have := kd.size; omega)
   exact ⟨zaC (zaj ob.t k5 (zaD ob.t h4.sg (by decide))) k6 (by omega), zaC (zaj ob.d k5 (zaD ob.d h4.sg (by decide))) k6 (by omega)⟩
 have hyt : ∀ q, hy.t.v.ownBlock = some q → w.heap.size ≤ q := fun q e => by have := (oy.t.lt q e).1; have := Kd.size; omega
 have hyd : ∀ q, hy.d.v.ownBlock = some q → w.heap.size ≤ q := fun q e => by have := (oy.d.lt q e).1; have := Kd.size; omega
 have heq6 : N.map (·.2) = x.segs.take i ++ twoS sa sb dead :: x.segs.drop (i + n) := by
  rw [← hN, List.map_append, List.map_cons, List.map_take, List.map_drop, h.eq]
 have hNl : N.length ≤ l.length := by rw [← hN, List.length_append, List.length_cons, List.length_take, List.length_drop]; omega
 have h6 : IxM w6 b ⟨a5, N.length, c5⟩ dv N ⟨x.segs.take i ++ twoS sa sb dead :: x.segs.drop (i + n), x.dead⟩ := ⟨v6, sg6, dd6, el6, heq6, fun p hp => by
  rcases hyn p hp with hp | rfl
  ·exact h.ap p hp
  ·exact fun q e e' => by have := hyd q e; have := (h.dd.lt q e').2; omega⟩
 have M6 : MutX w w6 b sv dv l ⟨a5, N.length, c5⟩ dv N := ⟨((K2.of_none.trans' (k25.mono fun q _ e => .inr (.inl e))).trans' (k6.mono fun q _ e => .inl e)), fun q hq => by
  rcases hq with hq | hq | hq | ⟨p, hp, hq⟩
  ·exact .inl (.inl hq)
  ·exact .inl (.inr (.inl (f5 ▸ hq)))
  ·exact .inl (.inr (.inr (.inl hq)))
  ·rcases hyn p hp with hp | rfl
   ·exact .inl (.inr (.inr (.inr ⟨p, hp, hq⟩)))
   ·rcases hq with hq | hq
    ·exact .inr (hyt q hq)
    ·exact .inr (hyd q hq)⟩
 have hC : IxC ⟨x.segs.take i ++ twoS sa sb dead :: x.segs.drop (i + n), x.dead⟩ := by
  have hmem : ∀ s ∈ x.segs.take i ++ twoS sa sb dead :: x.segs.drop (i + n), s ∈ x.segs ∨ s = twoS sa sb dead := fun s hs => by
   rcases List.mem_append.1 hs with hs | hs
   ·exact .inl (List.mem_of_mem_take hs)
   ·rcases List.mem_cons.1 hs with rfl | hs
    ·exact .inr rfl
    ·exact .inl (List.mem_of_mem_drop hs)
  refine ⟨fun s hs => ?_, ?_, fun s hs => ?_⟩
  ·rcases hmem s hs with hs | rfl
   ·exact hb.asc s hs
   ·exact (zao.1 (zdL _ _ _)).1.1
  ·dsimp only
   rw [← heq6, List.length_map]; omega
  ·rcases hmem s hs with hs | rfl
   ·exact hb.dl s hs
   ·have := (zps ba bb dead).d; omega
 clear hS1 hS2 hS3
 refine CallS.of (Tryz.call138 _ _) (znR (w := w6) h6 hC hd) ?_
 rintro e w7 ⟨rfl, sv', dv', l', h7, M7⟩
 refine RT ?_
 refine KGO ?_
 exact ⟨rfl, sv', dv', l', h7, M6.trans M7⟩
end
end Go.Proofs.YtennokckmjcefaaGreatDoor
