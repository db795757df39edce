/- Helper lemmas that the proved statement rests on; no conditions of their own. -/
import Derived.Test.YtennokckmjcefaaGreatDoorCards
import Derived.Test.YtennokckmjcefaaGreatDoorRows
import Derived.Lib.LaidU8
import Derived.Test.YtennokckmjcefaaGreatDoorGNf2
set_option linter.unusedVariables false
set_option maxHeartbeats 8000000
set_option maxRecDepth 100000
namespace Go.Proofs.YtennokckmjcefaaGreatDoor
open Go.Shelf Go.RowKit Go.Pw Go.Vc Go.Cs Go.Lib Go.Cd Go.Mg
theorem zoA (x : Ix) (i n : Nat) (s : Sgm) (h : s.docs.length ≤ docN ((x.segs.drop i).take n)) : docN (replX x i n s).segs ≤ docN x.segs := by
 have e : x.segs = x.segs.take i ++ ((x.segs.drop i).take n ++ x.segs.drop (i + n)) := by
  rw [show x.segs.drop (i + n) = (x.segs.drop i).drop n from by rw [List.drop_drop], List.take_append_drop, List.take_append_drop]
 have h1 := zfy (x.segs.take i ++ s :: x.segs.drop (i + n))
 have h2 : docN x.segs = docN (x.segs.take i) + (docN ((x.segs.drop i).take n) + docN (x.segs.drop (i + n))) := by rw [← zcc, ← zcc, ← e]
 rw [zcc, zaV] at h1
 show docN (fullL (x.segs.take i ++ s :: x.segs.drop (i + n))) ≤ _
 omega
theorem znQ {x : Ix} (hx : IxOk x) (doc : Int) : docN (readX x doc).segs ≤ docN x.segs := by
 unfold readX
 split
 ·rename_i i h
  obtain ⟨hi, _⟩ := zct h
  refine zoA x i 1 _ ?_
  have h := zmz (hx.rt _ (List.getElem_mem hi)) zcW [doc]
  rw [zbv hi]
  have e : (x.segs.drop i).take 1 = [x.segs[i]] := by rw [List.drop_eq_getElem_cons hi]; rfl
  rw [e, zaV]
  simp only [List.length_nil] at h
  omega
 ·exact Nat.le_refl _
theorem zmK {p : Ix × List LDoc} (h : RunOk p) (a : Am) (hL : wA a ≤ 1500) : docN (runS p a.ak).1.segs ≤ docN p.1.segs + 1 := by
 unfold runS
 split
 ·show docN (addX p.1 a.doc a.tx).2.segs ≤ _
  unfold addX
  split
  ·exact Nat.le_add_right _ _
  ·rename_i hr
   split
   ·exact Nat.le_add_right _ _
   ·have h1 := znQ h.ok a.doc
    have hs : lenX a.tx ≤ wA a := by rw [zdc]; unfold wA; omega
    have h2 := (zgf (d := a.doc) (tx := a.tx) (by omega) (by omega) fun t ht => by have := zeZ (tx := a.tx) rfl t ht; omega).2
    dsimp only
    rw [zcc, zaV, h2]
    have h4 : docN [] = 0 := rfl
    simp only [List.length_singleton]
    omega
 ·split
  ·show docN (dropX p.1 a.doc).2.segs ≤ _
   unfold dropX
   split <;> exact Nat.le_add_right _ _
  ·show docN (stepX p.1).2.segs ≤ _
   cases hs : (stepX p.1).1 with
   | false => rw [zii hs]; exact Nat.le_add_right _ _
   | true => have := (zin h.ok hs).2; omega
theorem zog {lx : List (Sl × Am)} (hw : wAs (lx.map (·.2)) ≤ 1500) : ∀ i, i ≤ lx.length → docN (runA lx i).1.segs ≤ i := by
 intro i
 induction i with
 | zero => intro _; exact Nat.le_refl 0
 | succ i ih =>
  intro hi
  have h1 := zea (l := lx.map (·.2)) (i := i) (by rw [List.length_map]; omega)
  rw [List.getElem_map] at h1
  have h2 := zeC (lx.map (·.2)) (i + 1)
  have h3 := ih (by omega)
  have h4 := zmK (zjg hw i (by omega)) lx[i].2 (by omega)
  rw [zeg (by omega)]
  omega
section
variable {w : World}
theorem zma {v vw : Value} (lx : List (Sl × Am)) (field : Int) (word : List UInt8) (ws : List (List UInt8)) (hA : RowA w v lx) (hd : ∀ p ∈ lx, -9223372036854775808 ≤ p.2.doc ∧ p.2.doc ≤ 9223372036854775807) (hlx : lx.length ≤ 2000000) (hwt : wAs (lx.map (·.2)) ≤ 1000000000) (hws : RowO w vw txC ws) (hwc : CapK vw) (hwl : ws.length ≤ 2000000) (hwd : word.length ≤ 1000000000) (hE : CEnv w) :
  Calls Tryz.prog 8 #[v, .int .i64 field, .string (str word), vw] w fun e w' => e = .returned (.bool true) ∧ Kp w w' n_ := by
 obtain ⟨a, cap, rfl, hr0⟩ := hA.row
 have hws0 := hws
 obtain ⟨wa, wc, rfl, _⟩ := hws
 have hz : (str word).size = word.length := rfl
 refine zaa (args := [.slice a lx.length cap, .int .i64 field, .string (str word), .slice wa ws.length wc]) Tryz.func8 rfl NL ?_; refine GW ?_
 refine KGO ?_
 refine CallS.of (Tryz.call11 _ _) (zmg (w := w) hE) ?_
 rintro e w1 ⟨rfl, k1⟩
 refine RT ?_
 refine KGO ?_
 refine CallS.of (Tryz.call16 _ _) (zra (w := w1)) ?_
 rintro e w2 ⟨rfl, hx, k2⟩
 obtain ⟨b, hb⟩ : ∃ b, w1.heap.size = b := ⟨_, rfl⟩
 rw [hb] at hx ⊢
 have K2 := k1.trans0 k2
 have hbw : w.heap.size ≤ b := by have := k1.size; omega
 refine RT ?_
 refine KGO ?_
 refine CallS.of (Tryz.call17 _ _) (zpR (w := w2) lx (hA.keep K2) (by omega) hwt) ?_
 rintro e w3 ⟨rfl, k3⟩
 have K3 := K2.trans0 k3
 have hx := hx.keep0 k3
 refine RT ?_
 by_cases hfw : lx.length ≤ 30 ∧ wAs (lx.map (·.2)) ≤ 1500
 rotate_left
 ·rw [decide_eq_false hfw]
  refine KGO ?_
  exact ⟨rfl, K3⟩
 rw [decide_eq_true hfw]
 obtain ⟨h30, h1500⟩ := hfw
 by_cases h100 : 100 < word.length
 ·refine KGO ?_
  exact ⟨rfl, K3⟩
 by_cases hw10 : 10 < ws.length
 ·refine KGO ?_
  exact ⟨rfl, K3⟩
 have B3 : Bs w w3 b ⟨none, 0, 0⟩ ⟨none, 0, 0⟩ [] := ⟨K3, fun q e => by have := hx.fp_ge q e; omega, hE⟩
 have hAk : ∀ u, Kp w3 u (fpX b ⟨none, 0, 0⟩ ⟨none, 0, 0⟩ []) → RowA u (.slice a lx.length cap) lx := fun u hu => hA.keep (K3.trans hu fun q hq e => by have := B3.lo q e; omega)
 clear k1 k2 k3 K2
 refine KGO ?_
 refine CallS.of (Tryz.call18 _ _) (zpf (w := w3) lx hx B3 hAk hd h30 h1500) ?_
 rintro e w4 ⟨v4, LV, sv4, dv4, l4, rfl, oL, hLV, h4, M4⟩
 have B4 := B3.mut M4
 have hI4 := zoc h1500 lx.length (Nat.le_refl _)
 have hR4 := zjg h1500 lx.length (Nat.le_refl _)
 have hN4 := zog h1500 lx.length (Nat.le_refl _)
 have hwf := zeC (lx.map (·.2)) lx.length
 rw [← zkR] at hLV h4
 generalize runA lx lx.length = p0 at *
 obtain ⟨x0, DL⟩ := p0
 dsimp only at hLV h4 hI4 hN4
 have hI : Iw x0 150 16000 15000 := hI4.mono (by omega) (by omega) (by omega)
 obtain ⟨aL, cL, rfl⟩ := zab oL
 clear hI4 hx B3 M4 K3 hAk hwf
 refine RT ?_
 refine KGO ?_
 have hlt4 : ∀ q, fpX b sv4 dv4 l4 q → q < w4.heap.size := h4.fp_lt
 have lx0 := fun f q => ziH hI.ok hI.wt f q
 have hpl0 := zlO hI.ok hI.wt field ws
 have hdl0 := (ziW hI.ok hI.wt).2.2.2
 have hsz0 := zdR hI.ok
 clear oL hLV
 refine CallS.of (Tryz.call19 _ _) (zfq (w := w4) h4 (hI.b (by omega) (by omega)) B4.env field word) ?_
 rintro e w5 ⟨v5, rfl, o5, k5⟩
 have h5 := h4.keep0 k5
 have B5 := B4.keep k5
 have z5 := k5.size
 obtain ⟨a5, c5, rfl⟩ := o5.shape
 refine RT ?_
 refine KGO ?_
 refine CallS.of (Tryz.call34 _ _) (ziA (w := w5) h5 (hI.b (by omega) (by omega)) B5.env field word) ?_
 rintro e w6 ⟨v6, rfl, o6, k6⟩
 have h6 := h5.keep0 k6
 have B6 := B5.keep k6
 have o5 := o5.keep k6
 have o6 := o6.base z5
 have z6 := k6.size
 obtain ⟨a6, c6, rfl⟩ := o6.shape
 clear h4 B4 h5 B5 k5 k6
 refine RT ?_
 refine KGO ?_
 refine CallS.of (Tryz.call37 _ _) (zdb (w := w6) h6 (hI.b (by omega) (by omega)) B6.env (zdH hI (by omega)) field ws (hws0.keep B6.K) hwc (by omega)) ?_
 rintro e w7 ⟨v7, rfl, o7, k7⟩
 have h7 := h6.keep0 k7
 have B7 := B6.keep k7
 have o5 := o5.keep k7
 have o6 := o6.keep k7
 have o7 : OwnI w7 w4.heap.size v7 (phraseX x0 field ws) := zaw o7 (by omega)
 have z7 := k7.size
 obtain ⟨a7, c7, rfl⟩ := zab o7
 clear h6 B6 k7
 refine RT ?_
 refine KGO ?_
 refine CallS.of (Tryz.call21 _ _) (zjj (w := w7) h7 (hI.b (by omega) (by omega))) ?_
 rintro e w8 ⟨v8, rfl, o8, k8⟩
 have h8 := h7.keep0 k8
 have B8 := B7.keep k8
 have o5 := o5.keep k8
 have o6 := o6.keep k8
 have o7 := zac o7 k8
 have o8 : OwnI w8 w4.heap.size v8 (docsX x0) := zaw o8 (by omega)
 obtain ⟨a8, c8, rfl⟩ := zab o8
 clear h7 B7 k8
 refine RT ?_
 refine KGO ?_
 have S0 := znn hI.ok hI.wt
 refine Loop.intro (ι := Nat × (Sl × Sl × List (Sv × Sgm)) × Ix) (fun q => [(1, .int .i64 field), (2, .string (str word)), (3, .slice wa ws.length wc), (9, .bool true), (10, .pointer (some ⟨b, 0, none⟩)), (11, .slice a5 (lookX x0 field (eqW word)).length c5), (12, .slice a6 (lookX x0 field fun x => hasPrefix x word).length c6), (13, .slice a7 (phraseX x0 field ws).length c7), (14, .slice a8 (docsX x0).length c8), (15, .int .i64 (q.1 : Nat))])
  (fun q wk => IxM wk b q.2.1.1 q.2.1.2.1 q.2.1.2.2 q.2.2 ∧ MutX w8 wk b sv4 dv4 l4 q.2.1.1 q.2.1.2.1 q.2.1.2.2 ∧ StepInv 4000 150 16000 x0 q.2.2 q.1 ∧ Iw q.2.2 150 16000 15000)
  (fun q => 100 - q.1) (0, (sv4, dv4, l4), x0) ⟨rfl, rfl, rfl, rfl, rfl, rfl, rfl, rfl, rfl, rfl, trivial⟩ ⟨h8, MutX.same (Kp.refl _ _), S0, hI⟩ ?_
 rintro ⟨n, ⟨sv, dv, l⟩, x⟩ gk wk ⟨hx, M, S, Ix⟩
 dsimp only at hx M S Ix ⊢
 have Bk := B8.mut M
 have hsz := S.sz
 have hsz2 : sizeX x0 = x0.segs.length + docN x0.segs := rfl
 refine GW ?_
 refine CallS.of (Tryz.call31 _ _) (zjr (w := wk) hx (Ix.b (by omega) (by omega)) Bk.env) ?_
 rintro e w9 ⟨rfl, sv9, dv9, l9, h9, M9⟩
 have MM := M.trans M9
 have B9 := Bk.mut M9
 clear hx M Bk M9
 refine RT ?_
 cases hst : (stepX x).1 with
 | true =>
  have S2 := zpj S hst
  have hsz3 := S2.sz
  refine KGO ?_
  exact ⟨(n + 1, (sv9, dv9, l9), (stepX x).2), ⟨rfl, rfl, rfl, rfl, rfl, rfl, rfl, rfl, rfl, v_int (by simp), trivial⟩, ⟨h9, MM, S2, Ix.step⟩, by dsimp only; omega⟩
 | false =>
 rw [zii hst] at h9
 obtain ⟨l1, l2, l3, l4', l5, l6⟩ := zmr hI.ok S hst
 have hxl := ziW Ix.ok Ix.wt
 have hlq : ∀ q, fpX b sv4 dv4 l4 q → q < w4.heap.size := hlt4
 have o5 := o5.keepB MM.k hlq
 have o6 := o6.keepB MM.k hlq
 have o7 := zaj o7 MM.k fun q hq e => by have := hlq q e; have := (o7.lt q hq).1; omega
 have o8 := zaj o8 MM.k fun q hq e => by have := hlq q e; have := (o8.lt q hq).1; omega
 clear MM S0 h8 B8 hlq hlt4
 refine KGO ?_
 refine CallS.of (Tryz.call39 _ _) (zmZ (w := w9) h9 (by omega) (by omega)) ?_
 rintro e w10 ⟨rfl, k10⟩
 have h10 := h9.keep0 k10
 have B10 := B9.keep k10
 have o5 := o5.keep k10
 have o6 := o6.keep k10
 have o7 := zac o7 k10
 have o8 := zac o8 k10
 clear h9 B9 k10
 refine RT ?_
 by_cases hd0 : 0 < x.dead.length
 all_goals
  refine KGO ?_
  refine CallS.of (Tryz.call19 _ _) (zfq (w := w10) h10 (Ix.b (by omega) (by omega)) B10.env field word) ?_
  rintro e w11 ⟨v11, rfl, o11, k11⟩
  rw [l4'] at o11
  have o5 := o5.keep k11
  have h11 := h10.keep0 k11
  have B11 := B10.keep k11
  obtain ⟨a11, c11, rfl⟩ := o11.shape
  refine RT ?_
  refine KGO ?_
  obtain ⟨q1, q2⟩ := lx0 field (eqW word)
  refine CallS.of (Tryz.call23 _ _) (ziO (w := w11) (lookX x0 field (eqW word)) (lookX x0 field (eqW word)) o5.row o11.row (by omega) (by omega) (fun p hp => by have := q2 p hp; omega) (fun p hp => by have := q2 p hp; omega)) ?_
  rintro e w12 ⟨rfl, k12⟩
  rw [decide_eq_true rfl]
  have h12 := h11.keep0 k12
  have B12 := B11.keep k12
  have o6 := (o6.keep k11).keep k12
  have o7 := zac (zac o7 k11) k12
  have o8 := zac (zac o8 k11) k12
  clear o5 o11 h10 B10 h11 B11 k11 k12 q1 q2
  refine RT ?_
  refine KGO ?_
  refine CallS.of (Tryz.call34 _ _) (ziA (w := w12) h12 (Ix.b (by omega) (by omega)) B12.env field word) ?_
  rintro e w13 ⟨v13, rfl, o13, k13⟩
  rw [l4'] at o13
  have o6 := o6.keep k13
  have h13 := h12.keep0 k13
  have B13 := B12.keep k13
  obtain ⟨a13, c13, rfl⟩ := o13.shape
  refine RT ?_
  refine KGO ?_
  obtain ⟨q1, q2⟩ := lx0 field (fun x => hasPrefix x word)
  refine CallS.of (Tryz.call23 _ _) (ziO (w := w13) (lookX x0 field (fun x => hasPrefix x word)) (lookX x0 field (fun x => hasPrefix x word)) o6.row o13.row (by omega) (by omega) (fun p hp => by have := q2 p hp; omega) (fun p hp => by have := q2 p hp; omega)) ?_
  rintro e w14 ⟨rfl, k14⟩
  rw [decide_eq_true rfl]
  have h14 := h13.keep0 k14
  have B14 := B13.keep k14
  have o7 := zac (zac o7 k13) k14
  have o8 := zac (zac o8 k13) k14
  clear o6 o13 h12 B12 h13 B13 k13 k14 q1 q2
  refine RT ?_
  refine KGO ?_
  refine CallS.of (Tryz.call37 _ _) (zdb (w := w14) h14 (Ix.b (by omega) (by omega)) B14.env (zdH Ix (by omega)) field ws (hws0.keep B14.K) hwc (by omega)) ?_
  rintro e w15 ⟨v15, rfl, o15, k15⟩
  rw [l5] at o15
  have h15 := h14.keep0 k15
  have B15 := B14.keep k15
  have o7 := zac o7 k15
  have o8 := zac o8 k15
  obtain ⟨a15, c15, rfl⟩ := zab o15
  refine RT ?_
  refine KGO ?_
  refine CallS.of (Tryz.call36 _ _) (zdp (w := w15) (phraseX x0 field ws) (phraseX x0 field ws) (zao o7) (zao o15) (by omega) (by omega)) ?_
  rintro e w16 ⟨rfl, k16⟩
  rw [decide_eq_true rfl]
  have h16 := h15.keep0 k16
  have B16 := B15.keep k16
  have o8 := zac o8 k16
  clear o7 o15 h14 B14 h15 B15 k15 k16
  refine RT ?_
  refine KGO ?_
  refine CallS.of (Tryz.call21 _ _) (zjj (w := w16) h16 (Ix.b (by omega) (by omega))) ?_
  rintro e w17 ⟨v17, rfl, o17, k17⟩
  rw [l6] at o17
  have o8 := zac o8 k17
  obtain ⟨a17, c17, rfl⟩ := zab o17
  refine RT ?_
  refine KGO ?_
  refine CallS.of (Tryz.call36 _ _) (zdp (w := w17) (docsX x0) (docsX x0) (zao o8) (zao o17) (by omega) (by omega)) ?_
  rintro e w18 ⟨rfl, k18⟩
  rw [decide_eq_true rfl]
  refine RT ?_
  refine KGO ?_
  exact ⟨rfl, (B16.K.trans0 k17).trans0 k18⟩
end
end Go.Proofs.YtennokckmjcefaaGreatDoor
namespace Go.Proofs.YtennokckmjcefaaGreatDoor
open Go.Shelf Go.RowKit Go.Pw Go.Vc Go.Cs Go.Lib Go.Mg
instance : Inhabited Ent := ⟨⟨0, 0, []⟩⟩
def slM : Value → Sl
 | .slice a n c => ⟨a, n, c⟩
 | _ => ⟨none, 0, 0⟩
theorem zqL {α : Type} {W : World} {v : Value} {c : α → List Value} {l : List α} (h : RowO W v c l) : v = (slM v).v := by
 obtain ⟨a, cap, rfl, _⟩ := h
 rfl
instance : Inhabited (Sv × Sgm) := ⟨(default, ⟨[], []⟩)⟩
section
end
end Go.Proofs.YtennokckmjcefaaGreatDoor
namespace Go.Proofs.YtennokckmjcefaaGreatDoor
open Go.Shelf Go.RowKit Go.Pw Go.Vc Go.Cs Go.Lib Go.Mg Go.ChangeShapes Go.WideShapes Go.ChangeAt
def OpensB (W : World) (T : TypeId) {α : Type} (cells : α → List Value) (p : α → Prop) (wt : α → Nat) : Prop :=
 ∀ {H : Type} {enc : TypeId × Value → H} {fuel : Nat} {cs : List Value} {x : DataW H × List MemPlace}, DataW.trod enc Tryz.prog W 0 (fun _ => true) true fuel T cs = some x → ∃ y, cs = cells y ∧ p y ∧ wt y ≤ Rows.uptoBulk x.1
section
variable {W : World} {T : TypeId}
theorem zkB {H : Type} (d : DataW H) : 1 ≤ Rows.uptoBulk d := by
 cases d with
 | lit l => cases l <;> simp [Rows.uptoBulk]
 | nil => simp [Rows.uptoBulk]
 | ptr d => simp [Rows.uptoBulk]
 | slice elems spare => simp [Rows.uptoBulk]
 | agg parts => simp [Rows.uptoBulk]
 | iface t d => simp [Rows.uptoBulk]
 | map entries => simp [Rows.uptoBulk]
 | held h => simp [Rows.uptoBulk]
theorem zhl {H α : Type} (g : α → Nat) : ∀ (ys : List α) (ds : List (DataW H)), ys.length = ds.length → (∀ (i : Nat) (h : i < ys.length) (h2 : i < ds.length), g ys[i] ≤ Rows.uptoBulk ds[i]) → (ys.map g).sum ≤ Rows.uptoBulkAll ds
 | [], _, _, _ => Nat.zero_le _
 | y :: ys, [], h, _ => by simp at h
 | y :: ys, d :: ds, h, hg => by
  have ih := zhl g ys ds (by simpa using h) fun i h1 h2 => by
   have := hg (i + 1) (by simpa using h1) (by simpa using h2)
   simpa using this
  have h0 := hg 0 (by simp) (by simp)
  simp only [List.getElem_cons_zero] at h0
  simp only [List.map_cons, List.sum_cons, Rows.uptoBulkAll]
  omega
theorem zfu (hT : Tryz.prog.underlying T = some (.int .i64)) : OpensB W T (fun z : Int => [.int .i64 z]) (fun z => -9223372036854775808 ≤ z ∧ z ≤ 9223372036854775807) (fun _ => 1) := fun {H enc fuel cs x} h => by
 obtain ⟨z, e, hx, w⟩ := DataW.trod_int hT h
 obtain ⟨y, e2, hy⟩ := znZ (P := Tryz.prog) (W := W) hT h (fun n hn => by rw [hx] at hn; simp [DataW.weights] at hn)
 exact ⟨y, e2, hy, zkB _⟩
theorem zfN (hT : Tryz.prog.underlying T = some .string) : OpensB W T (fun s : List UInt8 => [.string (str s)]) (fun _ => True) (fun s => s.length + 1) := fun {H enc fuel cs x} h => by
 obtain ⟨s, e, g, _⟩ := DataW.trod_string hT h
 refine ⟨L s, ?_, trivial, ?_⟩
 ·rw [e]; show [Value.string s] = [Value.string (str (L s))]; rw [str_L]
 ·have e2 : x = (.lit (.string s.data.toList), []) := g
  rw [e2]
  simp only [Rows.uptoBulk]
  rw [show (L s).length = s.size from by rw [← zpN, str_L]]
  have : s.data.toList.length = s.size := by rw [Array.length_toList]; rfl
  omega
theorem zic {α β : Type} {cells : α → List Value} {p : α → Prop} {wt : α → Nat} {cells' : β → List Value} {p' : β → Prop} {wt' : β → Nat} (h : OpensB W T cells p wt) (f : α → β) (hc : ∀ y, p y → cells y = cells' (f y)) (hp : ∀ y, p y → p' (f y)) (hw : ∀ y, p y → wt' (f y) ≤ wt y) : OpensB W T cells' p' wt' := fun {H enc fuel cs x} hf => by
 obtain ⟨y, rfl, h2, h3⟩ := h hf
 exact ⟨f y, hc y h2, hp y h2, Nat.le_trans (hw y h2) h3⟩
theorem zfZ {E : TypeId} {α : Type} [Inhabited α] {cells : α → List Value} {p : α → Prop} {wt : α → Nat} {k : Nat} (hT : Tryz.prog.underlying T = some (.slice E)) (hE : OpensB W E cells p wt) (hk : ∀ y, (cells y).length = k) (hk0 : 0 < k) (hc : Tryz.prog.cellsOf E = k) :
  OpensB W T (fun y : Value × List α => [y.1]) (fun y => RowO W y.1 cells y.2 ∧ CapK y.1 ∧ ∀ z ∈ y.2, p z) (fun y => (y.2.map wt).sum + 1) := fun {H enc fuel cs x} hf => by
 rcases DataW.trod_slice hT hf with ⟨hcs, hx⟩ | ⟨x0, len, cap, elems, rest, n, _, hcs, hx, hb2, hl, hm, hel, hat, hsp, _⟩
 ·exact ⟨(.slice none 0 0, []), hcs, ⟨⟨none, 0, rfl, fun h => by simp at h⟩, zik (Nat.le_refl _), by simp⟩, zkB _⟩
 ·subst hx
  rw [hc] at hat
  have each : ∀ i, i < len → ∃ y : α, (p y ∧ ∀ d, elems[i]? = some d → wt y ≤ Rows.uptoBulk d.1) ∧ ∃ lb lo, some x0 = some ⟨lb, lo, none⟩ ∧ lb < W.heap.size ∧ At W lb (lo + i * k) (cells y) := fun i hi => by
   have hy : elems[i]? = some (elems[i]'(by omega)) := List.getElem?_eq_getElem (by omega)
   have hbi := hat i hi
   rw [hy, Option.bind_eq_some_iff] at hbi
   obtain ⟨cs, hcs, ht⟩ := hbi
   obtain ⟨y, rfl, hok, hwt⟩ := hE ht
   obtain ⟨_, hcl, hcat⟩ := World.cells?_some hcs
   refine ⟨y, ⟨hok, fun d hd => by rw [hy] at hd; injection hd with hd; rw [← hd]; exact hwt⟩, ?_⟩
   obtain ⟨b, off, spot⟩ := x0
   have hyk := hk y
   have h0 := hcat 0 (by omega)
   obtain ⟨v0, hv0⟩ : ∃ v0, (cells y)[0]? = some v0 := ⟨_, List.getElem?_eq_getElem (by omega)⟩
   rw [hv0] at h0
   have hspot : spot = none := by
    have := World.cell?_spot h0
    by_cases hi0 : i = 0
    ·subst hi0; simpa [Addr.add] using this
    ·exact Classical.byContradiction fun hne => by
      have hh := hat 0 (by omega)
      have hy0 : elems[0]? = some (elems[0]'(by omega)) := List.getElem?_eq_getElem (by omega)
      rw [hy0, Option.bind_eq_some_iff] at hh
      obtain ⟨cs0, hcs0, ht0⟩ := hh
      obtain ⟨_, hcl0, hcat0⟩ := World.cells?_some hcs0
      have h00 := hcat0 0 (by omega)
      have hcs0l : 0 < cs0.length := by omega
      rw [List.getElem?_eq_getElem hcs0l] at h00
      have := World.cell?_spot h00
      exact hne (by simpa [Addr.add] using this)
   subst hspot
   have hlt := Pw.cell_lt h0
   rw [Go.Vc.add_none, Go.Vc.add_none] at hlt
   refine ⟨b, off, rfl, hlt, fun j v hj => ?_⟩
   have hjk : j < k := by
    have := (List.getElem?_eq_some_iff.1 hj).1; omega
   have := hcat j (by omega)
   rw [Go.Vc.add_none, Go.Vc.add_none, hj] at this
   exact this
  obtain ⟨f, hfx⟩ := Go.Deep.choose_lt each
  have hlen : ((List.range len).map f).length = len := by simp
  refine ⟨(.slice (some x0) len cap, (List.range len).map f), hcs, ⟨⟨some x0, cap, by rw [hlen], fun h0 => ?_⟩, zik hl, fun z hz => ?_⟩, ?_⟩
  ·rw [hlen] at h0
   obtain ⟨_, lb, lo, he, hlb, _⟩ := hfx 0 h0
   refine ⟨lb, lo, he, hlb, fun i v hv => ?_⟩
   have hgen : ∀ (l : List α) (o : Nat), (∀ j, (hj : j < l.length) → At W lb (o + j * k) (cells l[j])) → At W lb o (l.flatMap cells) := by
    intro l
    induction l with
    | nil => intro o _ i v hi; simp at hi
    | cons a r ih =>
     intro o h i v hi
     rw [List.flatMap_cons] at hi
     by_cases hik : i < k
     ·rw [List.getElem?_append_left (by rw [hk]; exact hik)] at hi
      have := h 0 (by simp) i v hi
      simpa using this
     ·rw [List.getElem?_append_right (by rw [hk]; omega), hk] at hi
      have h2 := ih (o + k) (fun j hj m u hu => by
       have := h (j + 1) (by simpa using hj) m u hu
       rw [Nat.succ_mul] at this
       rw [show o + k + j * k + m = o + (j * k + k) + m by omega]
       exact this) (i - k) v hi
      rwa [show o + k + (i - k) = o + i by omega] at h2
   refine hgen ((List.range len).map f) lo (fun j hj => ?_) i v hv
   have hj : j < len := by simpa using hj
   obtain ⟨_, lb2, lo2, he2, _, hc2⟩ := hfx j hj
   rw [he] at he2
   injection he2 with he2
   injection he2 with e1 e2
   subst e1; subst e2
   rw [List.getElem_map, List.getElem_range]
   exact hc2
  ·obtain ⟨i, hi, rfl⟩ := List.mem_map.1 hz
   exact (hfx i (by simpa using hi)).1.1
  ·dsimp only
   simp only [Rows.uptoBulk]
   have := zhl (H := H) wt ((List.range len).map f) (elems.map (·.1)) (by rw [hlen, List.length_map]; omega) fun i h1 h2 => by
    rw [hlen] at h1
    rw [List.getElem_map, List.getElem_map, List.getElem_range]
    exact (hfx i h1).1.2 _ (List.getElem?_eq_getElem (by omega))
   omega
def OpensF (W : World) (fs : List Field) (off total : Nat) {α : Type} (cells : α → List Value) (p : α → Prop) (wt : α → Nat) : Prop :=
 ∀ {H : Type} {enc : TypeId × Value → H} {n : Nat} {cs : List Value} {xs : List (DataW H × List MemPlace)}, cs.length = total → xs.length = fs.length →
  (∀ (i : Nat) (f : Field), fs[i]? = some f → DataW.trod enc Tryz.prog W 0 (fun _ => true) true n f.type ((cs.drop f.offset).take (Tryz.prog.cellsOf f.type)) = xs[i]?) → ∃ y, cs.drop off = cells y ∧ p y ∧ wt y ≤ Rows.uptoBulkAll (xs.map (·.1))
theorem zmY {off : Nat} : OpensF W [] off off (fun _ : Unit => []) (fun _ => True) (fun _ => 0) := fun {H enc n cs xs} hl _ _ => ⟨(), List.drop_eq_nil_of_le (by omega), trivial, Nat.zero_le _⟩
theorem zbS {f : Field} {fs : List Field} {off total k : Nat} {α β : Type} {c1 : α → List Value} {p1 : α → Prop} {w1 : α → Nat} {c2 : β → List Value} {p2 : β → Prop} {w2 : β → Nat} (ho : f.offset = off) (hk : Tryz.prog.cellsOf f.type = k) (h1 : OpensB W f.type c1 p1 w1) (h2 : OpensF W fs (off + k) total c2 p2 w2) :
  OpensF W (f :: fs) off total (fun y : α × β => c1 y.1 ++ c2 y.2) (fun y => p1 y.1 ∧ p2 y.2) (fun y => w1 y.1 + w2 y.2) := fun {H enc n cs xs} hl hx hf => by
 cases xs with
 | nil => simp at hx
 | cons x xs =>
  have f0 := hf 0 f rfl
  rw [ho, hk] at f0
  obtain ⟨y1, e1, q1, s1⟩ := h1 f0
  obtain ⟨y2, e2, q2, s2⟩ := h2 (n := n) (cs := cs) (xs := xs) hl (by simpa using hx) (fun i g hg => hf (i + 1) g (by simpa using hg))
  refine ⟨(y1, y2), ?_, ⟨q1, q2⟩, ?_⟩
  ·dsimp only
   rw [← e1, ← e2, ← List.drop_drop, List.take_append_drop]
  ·dsimp only
   simp only [List.map_cons, Rows.uptoBulkAll]
   omega
theorem ziu {fs : Array Field} {total : Nat} {α : Type} {cells : α → List Value} {p : α → Prop} {wt : α → Nat} (hT : Tryz.prog.underlying T = some (.struct fs)) (hc : Tryz.prog.cellsOf T = total) (h : OpensF W fs.toList 0 total cells p wt) : OpensB W T cells p wt := fun {H enc fuel cs x} hf => by
 obtain ⟨xs, n, _, hx, hlen, hxl, hfld⟩ := DataW.trod_struct hT hf
 rw [hc] at hlen
 obtain ⟨y, e, q, s⟩ := h (n := n) (cs := cs) (xs := xs) hlen (by simpa using hxl) (fun i f hi => hfld i f (by rw [← Array.getElem?_toList]; exact hi))
 refine ⟨y, by simpa using e, q, ?_⟩
 rw [hx]
 simp only [Rows.uptoBulk]
 omega
theorem zje {n : Nat} {e : TypeId} (hT : Tryz.prog.underlying T = some (.array n e)) (he : Tryz.prog.underlying e = some .string) (hc : Tryz.prog.cellsOf e = 1) (hcT : Tryz.prog.cellsOf T = n) : OpensB W T (fun l : List (List UInt8) => l.map fun s => .string (str s)) (fun l => l.length = n) (fun l => (l.map List.length).sum + 1) := fun {H enc fuel cs x} hf => by
 obtain ⟨xs, m, _, hx, hl, hxl, hd⟩ := DataW.trod_array hT hf
 rw [hcT] at hl
 have each : ∀ i, i < n → ∃ s : List UInt8, (∀ d, xs[i]? = some d → s.length ≤ Rows.uptoBulk d.1) ∧ cs[i]? = some (.string (str s)) := fun i hi => by
  have h := hd i hi
  rw [hc, List.getElem?_eq_getElem (by omega : i < xs.length)] at h
  obtain ⟨s, e1, _, hw⟩ := zfN (W := W) he h
  refine ⟨s, fun d hd => ?_, ?_⟩
  ·rw [List.getElem?_eq_getElem (by omega : i < xs.length)] at hd
   injection hd with hd
   have hw : s.length + 1 ≤ _ := hw
   rw [← hd]; omega
  ·have e2 : cs[i]? = ((cs.drop (i * 1)).take 1)[0]? := by simp
   rw [e2, e1]; rfl
 obtain ⟨f, hf⟩ := Go.Deep.choose_lt each
 refine ⟨(List.range n).map f, ?_, by simp, ?_⟩
 ·refine List.ext_getElem? fun i => ?_
  by_cases hi : i < n
  ·rw [(hf i hi).2]; simp [hi]
  ·rw [List.getElem?_eq_none (by omega), List.getElem?_eq_none (by simp; omega)]
 ·rw [hx]
  simp only [Rows.uptoBulk]
  have := zhl (H := H) List.length ((List.range n).map f) (xs.map (·.1)) (by simp; omega) fun i h1 h2 => by
   have h1 : i < n := by simpa using h1
   rw [List.getElem_map, List.getElem_map, List.getElem_range]
   exact (hf i h1).1 _ (List.getElem?_eq_getElem (by omega))
  omega
end
section
variable {W : World}
theorem zmU : OpensB W 48 (fun y : Value × List (List UInt8) => [y.1]) (fun y => RowO W y.1 txC y.2 ∧ CapK y.1 ∧ ∀ z ∈ y.2, True) (fun y => (y.2.map fun s => s.length + 1).sum + 1) :=
 zfZ (k := 1) Tryz.underlying48 (zfN Tryz.underlying9) (fun _ => rfl) (by decide) (by kernel_rfl)
def amT (l : List (List UInt8)) : Am := ⟨0, 0, l.getD 0 [], l.getD 1 [], l.getD 2 [], l.getD 3 [], l.getD 4 [], l.getD 5 [], 0, [], []⟩
theorem oB_t6 : OpensB W 32 t6C (fun _ => True) (fun a => lenX a.tx + 1) :=
 zic (zje Tryz.underlying32 Tryz.underlying9 (by kernel_rfl) (by kernel_rfl)) amT (fun l h => by
  match l, h with
  | [a, b, c, d, e, f], _ => rfl) (fun _ _ => trivial) (fun l h => by
  match l, h with
  | [a, b, c, d, e, f], _ =>
   rw [zdc]
   exact Nat.le_refl _)
def bulkA (a : Am) : Nat := sumT a.tx + a.word.length + a.words.length + sumT a.words
def mkA (y : Int × Int × Am × Int × List UInt8 × (Value × List (List UInt8)) × Unit) : Sl × Am := (slM y.2.2.2.2.2.1.1, ⟨y.1, y.2.1, y.2.2.1.t0, y.2.2.1.t1, y.2.2.1.t2, y.2.2.1.t3, y.2.2.1.t4, y.2.2.1.t5, y.2.2.2.1, y.2.2.2.2.1, y.2.2.2.2.2.1.2⟩)
instance : Inhabited (Sl × Am) := ⟨(⟨none, 0, 0⟩, default)⟩
theorem zoH (l : List (List UInt8)) : (l.map fun s => s.length + 1).sum = sumT l + l.length := by
 unfold sumT
 induction l with
 | nil => rfl
 | cons a l ih => simp only [List.map_cons, List.sum_cons, List.length_cons, ih]; omega
def ActR (W : World) (p : Sl × Am) : Prop := RowO W p.1.v txC p.2.words ∧ CapK p.1.v ∧ -9223372036854775808 ≤ p.2.doc ∧ p.2.doc ≤ 9223372036854775807
theorem zsZ : OpensB W 54 actC (ActR W) (fun p => bulkA p.2 + 1) := by
 have hS : OpensB W 54 _ _ _ := ziu (W := W) Tryz.underlying54 (total := 11) (by kernel_rfl) (zbS (k := 1) rfl (by kernel_rfl) (zfu Tryz.underlying3) (zbS (k := 1) rfl (by kernel_rfl) (zfu Tryz.underlying3) (zbS (k := 6) rfl (by kernel_rfl) oB_t6 (zbS (k := 1) rfl (by kernel_rfl) (zfu Tryz.underlying3) (zbS (k := 1) rfl (by kernel_rfl) (zfN Tryz.underlying9) (zbS (k := 1) rfl (by kernel_rfl) zmU (zmY (off := 11))))))))
 refine @zic W _ _ _ _ _ _ _ _ _ (@hS) mkA (fun y h => ?_) (fun y h => ?_) (fun y h => ?_)
 ·have e := zqL h.2.2.2.2.2.1.1
  show [Value.int .i64 y.1] ++ ([Value.int .i64 y.2.1] ++ (t6C y.2.2.1 ++ ([Value.int .i64 y.2.2.2.1] ++ ([Value.string (str y.2.2.2.2.1)] ++ ([y.2.2.2.2.2.1.1] ++ []))))) = _
  rw [e]; rfl
 ·have e := zqL h.2.2.2.2.2.1.1
  have h1 := h.2.2.2.2.2.1.1
  have h2 := h.2.2.2.2.2.1.2.1
  rw [e] at h1 h2
  exact ⟨h1, h2, h.2.1.1, h.2.1.2⟩
 ·have h1 := zoH y.2.2.2.2.2.1.2
  have h2 := zdc y.2.2.1
  show sumT y.2.2.1.tx + y.2.2.2.2.1.length + y.2.2.2.2.2.1.2.length + sumT y.2.2.2.2.2.1.2 + 1 ≤ _
  omega
theorem zrJ : OpensB W 31 (fun y : Value × List (Sl × Am) => [y.1]) (fun y => RowO W y.1 actC y.2 ∧ CapK y.1 ∧ ∀ z ∈ y.2, ActR W z) (fun y => (y.2.map fun p => bulkA p.2 + 1).sum + 1) :=
 zfZ (k := 11) Tryz.underlying31 zsZ lenAct (by decide) (by kernel_rfl)
variable {H : Type} {enc : TypeId × Value → H} {v : Value} {d : DataW H} {ps : List MemPlace}
theorem zfe {T : TypeId} {α : Type} {cells : α → List Value} {p : α → Prop} {wt : α → Nat} (h : OpensB W T cells p wt) (ht : DataW.Trod enc Tryz.prog W 0 (fun _ => true) true T v d ps) : ∃ y, v.cells.toList = cells y ∧ p y ∧ wt y ≤ Rows.uptoBulk d := by
 obtain ⟨fuel, hf⟩ := ht
 exact h hf
theorem zkZ {a : Option Addr} {n c : Nat} {v : Value} (h : (Value.slice a n c).cells.toList = [v]) : v = .slice a n c := by
 have : [Value.slice a n c] = [v] := h
 injection this with h
 exact h.symm
theorem zrW {a : Option Addr} {n c : Nat} (ht : DataW.Trod enc Tryz.prog W 0 (fun _ => true) true 48 (.slice a n c) d ps) : ∃ l, RowO W (.slice a n c) txC l ∧ CapK (.slice a n c) ∧ sumT l + l.length ≤ Rows.uptoBulk d := by
 obtain ⟨⟨v, l⟩, h1, ⟨h2, h3, _⟩, h4⟩ := zfe zmU ht
 obtain rfl := zkZ h1
 dsimp only at h4
 rw [zoH] at h4
 exact ⟨l, h2, h3, by omega⟩
theorem zsq {α : Type} (f : α → Nat) (l : List α) : (l.map fun a => f a + 1).sum = (l.map f).sum + l.length := by
 induction l with
 | nil => rfl
 | cons a l ih => simp only [List.map_cons, List.sum_cons, List.length_cons, ih]; omega
theorem zse {a : Option Addr} {n c : Nat} (ht : DataW.Trod enc Tryz.prog W 0 (fun _ => true) true 31 (.slice a n c) d ps) : ∃ lx : List (Sl × Am), RowA W (.slice a n c) lx ∧ (∀ p ∈ lx, -9223372036854775808 ≤ p.2.doc ∧ p.2.doc ≤ 9223372036854775807) ∧ lx.length ≤ Rows.uptoBulk d ∧ wAs (lx.map (·.2)) ≤ 10 * Rows.uptoBulk d := by
 obtain ⟨⟨v, l⟩, h1, ⟨h2, h3, h5⟩, h4⟩ := zfe zrJ ht
 obtain rfl := zkZ h1
 dsimp only at h4 h5
 rw [zsq] at h4
 refine ⟨l, ⟨h2, fun p hp => (h5 p hp).1, fun p hp => (h5 p hp).2.1⟩, fun p hp => (h5 p hp).2.2, by omega, ?_⟩
 have key : ∀ l : List (Sl × Am), wAs (l.map (·.2)) ≤ 10 * (l.map fun p => bulkA p.2).sum := fun l => by
  unfold wAs
  induction l with
  | nil => exact Nat.le_refl _
  | cons a l ih =>
   simp only [List.map_cons, List.sum_cons]
   have : wA a.2 ≤ 10 * bulkA a.2 := by unfold wA bulkA; omega
   omega
 have := key l
 omega
end
end Go.Proofs.YtennokckmjcefaaGreatDoor
namespace Go.Proofs.YtennokckmjcefaaGreatDoor
open Go.Shelf Go.RowKit Go.Pw Go.Vc Go.Cs Go.Lib
theorem zkI {P : Program} {w : World} {name : String} {g : Nat} {tS tE : TypeId} {fs : Array Field} {k : IntKind} {zs : List (List Int)} {rest : List (DataW Unit)}
  (h : VarReads P w name (.slice (zs.map fun r => .agg (r.map fun z => .lit (.int k z))) rest)) (hn : P.globalNamed name = some g) (hy : (P.globals[g]?).map (·.type) = some tS)
  (hS : P.underlying tS = some (.slice tE)) (hE : P.underlying tE = some (.struct fs)) (hf : ∀ (i : Nat) (f : Field), fs[i]? = some f → P.underlying f.type = some (.int k) ∧ f.offset = i ∧ P.cellsOf f.type = 1)
  (hc : P.cellsOf tE = fs.size) (h0 : 0 < fs.size) (hz : 0 < zs.length) : ∃ b o c, w.cell? ⟨g, 0, none⟩ = some (.slice (some ⟨b, o, none⟩) zs.length c) ∧ ∀ i, i < zs.length → At w b (o + i * fs.size) ((zs.getD i []).map fun z => Value.int k z) := by
 obtain ⟨g', t, cs, fuel, p, hg, hty, hvar, hd⟩ := h
 obtain rfl := Option.some.inj (hn.symm.trans hg)
 obtain rfl := Option.some.inj (hy.symm.trans hty)
 rcases DataW.trod_slice hS hd with ⟨_, hx⟩ | ⟨a, len, cap, el, rs, m, rfl, hcs, hx, _, hlc, _, hel, helem, hsp, _⟩
 ·cases hx
 have hx1 := congrArg Prod.fst hx
 simp only [DataW.slice.injEq] at hx1
 obtain ⟨eE, eR⟩ := hx1
 have hlen : len = zs.length := by
  have := congrArg List.length eE
  simp at this
  omega
 subst hlen
 have hrange : ∀ i (hi : i < zs.length) j v, (zs[i].map fun z => Value.int k z)[j]? = some v → w.cell? ((a.add (i * fs.size)).add j) = some v := by
  intro i hi j v hv
  have h1 := helem i hi
  rw [hc] at h1
  obtain ⟨b, hb⟩ : ∃ b, el[i]? = some b := ⟨el[i]'(by omega), List.getElem?_eq_getElem (by omega)⟩
  rw [hb] at h1
  obtain ⟨ce, hce, hte⟩ := Option.bind_eq_some_iff.1 h1
  have hb1 : b.1 = .agg (zs[i].map fun z => .lit (.int k z)) := by
   have := congrArg (·[i]?) eE
   simpa [hb, hi] using this.symm
  have hcs := ints_of_struct (p := b.2) hE hf hc (by rw [← hb1]; exact hte)
  obtain ⟨_, hl, hcc⟩ := World.cells?_some hce
  have hj : j < fs.size := by
   have := (List.getElem?_eq_some_iff.1 hv).1
   rw [← hcs, hl] at this
   exact this
  rw [hcc j hj, hcs, hv]
 obtain ⟨R, oR, sR⟩ := a
 obtain rfl : sR = none := by
  have hl0 : 0 < (zs[0].map fun z => Value.int k z).length := by
   have h1 := helem 0 hz
   rw [hc] at h1
   obtain ⟨b, hb⟩ : ∃ b, el[0]? = some b := ⟨el[0]'(by omega), List.getElem?_eq_getElem (by omega)⟩
   rw [hb] at h1
   obtain ⟨ce, hce, hte⟩ := Option.bind_eq_some_iff.1 h1
   have hb1 : b.1 = .agg (zs[0].map fun z => .lit (.int k z)) := by
    have := congrArg (·[0]?) eE
    simpa [hb, hz] using this.symm
   have hcs := ints_of_struct (p := b.2) hE hf hc (by rw [← hb1]; exact hte)
   obtain ⟨_, hl, _⟩ := World.cells?_some hce
   rw [← hcs, hl]; exact h0
  have h00 := hrange 0 hz 0 _ (List.getElem?_eq_getElem hl0)
  have : (Addr.add (Addr.add ⟨R, oR, sR⟩ (0 * fs.size)) 0) = ⟨R, oR, sR⟩ := by simp [Addr.add]
  rw [this] at h00
  exact cell_spot h00
 refine ⟨R, oR, cap, ?_, fun i hi j v hj => ?_⟩
 ·rw [World.var?_cell hg hvar 0, ← Array.getElem?_toList, hcs]
  rfl
 ·rw [List.getD_eq_getElem?_getD, List.getElem?_eq_getElem hi, Option.getD_some] at hj
  have := hrange i hi j v hj
  rw [Addr.add_lit, Addr.add_lit] at this
  exact this
def foldZ : List (List Int) := foldT.map fun x => [x.1, x.2.1, x.2.2.1, x.2.2.2]
theorem znk : (Rows.laid_pouch_fold_spans : DataW Unit) = .slice (foldZ.map fun r => .agg (r.map fun z => .lit (.int .i32 z))) [] := by kernel_rfl
theorem zme {W : World} (h : VarReads Tryz.prog W "pouch/fold.spans" Rows.laid_pouch_fold_spans) : FoldTab W := by
 rw [znk] at h
 obtain ⟨b, o, c, h1, h2⟩ := zkI h (by kernel_rfl) (by kernel_rfl) Tryz.underlying254 Tryz.underlying256 (fun j f hj => by
   match j, hj with
   | 0, hj => simp at hj; subst hj; exact ⟨Tryz.underlying21, rfl, by kernel_rfl⟩
   | 1, hj => simp at hj; subst hj; exact ⟨Tryz.underlying21, rfl, by kernel_rfl⟩
   | 2, hj => simp at hj; subst hj; exact ⟨Tryz.underlying21, rfl, by kernel_rfl⟩
   | 3, hj => simp at hj; subst hj; exact ⟨Tryz.underlying21, rfl, by kernel_rfl⟩
   | j + 4, hj => simp at hj) (by kernel_rfl) (by decide) (by decide)
 refine ⟨b, o, c, h1, fun i hi => ?_⟩
 have := h2 i hi
 have e : (foldZ.getD i []).map (fun z => Value.int .i32 z) = spF (foldSp i) := by
  have : ∀ i : Fin 17, (foldZ.getD i.val []) = [(foldSp i.val).1, (foldSp i.val).2.1, (foldSp i.val).2.2.1, (foldSp i.val).2.2.2] := by decide
  have := this ⟨i, hi⟩
  rw [show foldZ.getD i [] = _ from this]; rfl
 rw [e] at this
 exact this
def cutZ : List (List Int) := cutT.map fun x => [x.1, x.2.1, x.2.2]
theorem zpK : (Rows.laid_pouch_cut_spans : DataW Unit) = .slice (cutZ.map fun r => .agg (r.map fun z => .lit (.int .i64 z))) [] := by kernel_rfl
theorem zmS {W : World} (h : VarReads Tryz.prog W "pouch/cut.spans" Rows.laid_pouch_cut_spans) : CutTab W := by
 rw [zpK] at h
 obtain ⟨b, o, c, h1, h2⟩ := zkI h (by kernel_rfl) (by kernel_rfl) Tryz.underlying227 Tryz.underlying229 (fun j f hj => by
   match j, hj with
   | 0, hj => simp at hj; subst hj; exact ⟨Tryz.underlying3, rfl, by kernel_rfl⟩
   | 1, hj => simp at hj; subst hj; exact ⟨Tryz.underlying3, rfl, by kernel_rfl⟩
   | 2, hj => simp at hj; subst hj; exact ⟨Tryz.underlying3, rfl, by kernel_rfl⟩
   | j + 3, hj => simp at hj) (by kernel_rfl) (by decide) (by decide)
 refine ⟨b, o, c, h1, fun i hi => ?_⟩
 have := h2 i hi
 have e : (cutZ.getD i []).map (fun z => Value.int .i64 z) = spV (cutSp i) := by
  have : ∀ i : Fin 19, (cutZ.getD i.val []) = [(cutSp i.val).1, (cutSp i.val).2.1, (cutSp i.val).2.2] := by decide
  have := this ⟨i, hi⟩
  rw [show cutZ.getD i [] = _ from this]; rfl
 rw [e] at this
 exact this
end Go.Proofs.YtennokckmjcefaaGreatDoor
