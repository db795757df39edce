/- Helper text of this claim: Ad6, Ad7: lemmas and contracts that the proved statement rests on; no conditions of its own. -/
import Derived.Test.YtohhkegmbgancaaGreatDoorGAh0
-- alias Tryz
namespace Go.Proofs.YtohhkegmbgancaaGreatDoor
open Go.Shelf Go.RowKit Go.Pw Go.Vc Go.Cs Go.Lib
set_option linter.unusedVariables false
set_option maxRecDepth 100000
theorem build_sn (a : ByteArray) (b : Int) (w : World) : (Instr.build 78 [(0, .string a), (1, .int .i64 b)].toArray).run Tryz.prog w = .ok (.agg #[.string a, .int .i64 b]) w := by
  simp [Instr.build, Instr.fill, go_sem, Tryz.runUnderlying78]
theorem build_src (a b : ByteArray) (w : World) : (Instr.build 76 [(0, .string a), (1, .string b)].toArray).run Tryz.prog w = .ok (.agg #[.string a, .string b]) w := by
  simp [Instr.build, Instr.fill, go_sem, Tryz.runUnderlying76]
section
variable {w : World}
set_option maxHeartbeats 8000000 in
theorem ac_answer {B b : Nat} {h : Hd} {lx : List Mr} {A : Acc} {v : Ov} {o : Opr} (hd : Drf w B b h lx A) (hf : Fit A) (fo : FitO o) :
    Calls Tryz.prog 37 #[.pointer (some ⟨b, 0, none⟩), .agg (opC v o).toArray] w fun e w' => Done w' b e (answerA A o) ∧ Keeps w w' (from_ B) := by
  have hnl := hf.nl
  have hz : (str o.name).size = o.name.length := str_size o.name
  have hnm := fo.nm
  refine calls_of_vc (args := [.pointer (some ⟨b, 0, none⟩), .agg (opC v o).toArray]) Tryz.func37 rfl (Nat.le_of_ble_eq_true rfl) ?_; refine Sat.go hmix ?_; conv => whnf
  have a_b1 := at_fresh w 28 (opC v o)
  have v_b1 := VarK.new w 28 (opC v o)
  have k_w1 : Keeps w (w.alloc (.cells (List.toArray (opC v o)) 28)) none_ := (Keeps.refl _ _).alloc _
  have z_w1 : (w.alloc (.cells (List.toArray (opC v o)) 28)).heap.size = w.heap.size + 1 := by simp
  generalize w.alloc (.cells (List.toArray (opC v o)) 28) = w1 at *
  generalize hs_b1 : w.heap.size = b1 at *
  have r_w1 : Keeps w1 w1 none_ := Keeps.refl _ _
  have kr1 : Keeps w1 w1 none_ := Keeps.refl _ _
  by_cases h1 : 1000 < o.name.length
  · have hres : answerA A o = .error 1 := by unfold answerA; rw [if_pos (.inl h1)]
    refine KGO ?_
    exact ⟨by rw [hres]; rfl, k_w1.of_none⟩
  refine KGO ?_
  refine CallS.of (Tryz.call38 _ _) (ac_within (w := w1) o.at_ 0 1099511627776) ?_
  rintro e w2 ⟨rfl, rfl⟩
  have K2 : Keeps w w1 none_ := k_w1
  refine ⟨_, rfl, ?_⟩; (first | refine Then.go hmix ?_ | refine Sat.go hmix ?_ | refine ResK.go ?_ | skip); conv => whnf
  by_cases h2 : 0 ≤ o.at_ ∧ o.at_ ≤ 1099511627776
  rotate_left
  · have hres : answerA A o = .error 1 := by unfold answerA; rw [if_pos (.inr h2)]
    rw [show decide (0 ≤ o.at_ ∧ o.at_ ≤ 1099511627776) = false from decide_eq_false h2]
    refine KGO ?_
    exact ⟨by rw [hres]; rfl, K2.of_none⟩
  have hres : answerA A o = .ok ({ A with seen := (seenA A.seen o).drop ((seenA A.seen o).length - 256) }, 0) := by unfold answerA; rw [if_neg (fun q => q.elim h1 fun q => q h2)]
  have hdA := at_mono hd.v.at K2
  rw [show decide (0 ≤ o.at_ ∧ o.at_ ≤ 1099511627776) = true from decide_eq_true h2]
  refine KGO ?_
  conv => arg 3; simp [ev, upd]
  have K3 := K2
  refine CallS.of (Tryz.call89 _ _) (dlf_Sn (w := w1) A.seen 90 (.pointer (some ⟨b1, 0, none⟩)) (fun s => decide (s.key = o.name)) (own_keep0 hd.o.n K3) (by omega) Tryz.call90 (fun s _ w' k => ac_answer1 s (v := v) (o := o) (at_keepc a_b1 k (fun e => by have := hd.lt b1 (Hd.all_n e); have := hd.v.lt; omega)))) ?_
  rintro e w3 ⟨v3, rfl, o3, k3, hb3⟩
  have hbw : b < w.heap.size := hd.v.lt
  have hb1 : ∀ q, own_ h.N.v q → q < b := fun q hq => hd.lt q (Hd.all_n hq)
  have a3 : At w3 b1 0 (opC v o) := at_keepc a_b1 k3 fun e => by have := hb1 b1 e; omega
  obtain ⟨a3', c3, rfl⟩ := own_shape o3
  generalize hl1 : (A.seen.filter fun s => !decide (s.key = o.name)) = l1 at *
  have hl1n : l1.length ≤ 100000 := by rw [← hl1]; exact Nat.le_trans (List.length_filter_le _ _) hnl
  refine ⟨_, rfl, ?_⟩; (first | refine Then.go hmix ?_ | refine Sat.go hmix ?_ | refine ResK.go ?_ | skip); conv => whnf
  refine KGO ?_
  refine RunV.of (build_sn _ _ _) ?_
  refine KGO ?_
  refine RunV.of (build_sn1 ⟨o.name, o.at_⟩ _) ?_
  have vb := VarK.new w3 78 (snC ⟨o.name, o.at_⟩)
  have k4 : Keeps w3 (w3.alloc (.cells (snC ⟨o.name, o.at_⟩).toArray 78)) none_ := (Keeps.refl _ _).alloc _
  generalize w3.alloc (.cells (snC ⟨o.name, o.at_⟩).toArray 78) = w4 at *
  generalize w3.heap.size = vbk at *
  refine KGO ?_
  refine app_Sn (own_keep0 o3 k4) (by have := hd.B; have := K2.size; have := k3.size; have := k4.size; omega) ⟨o.name, o.at_⟩ vb (by omega) fun v5 w5 o5 k5 => ?_
  have hl2 : l1 ++ [⟨o.name, o.at_⟩] = seenA A.seen o := by rw [← hl1]; rfl
  rw [hl2] at o5
  have hl2n : (seenA A.seen o).length ≤ 100001 := by rw [← hl2, List.length_append]; simp; omega
  have hl2p : 0 < (seenA A.seen o).length := by rw [← hl2, List.length_append]; simp
  generalize seenA A.seen o = l2 at *
  have k45 : Keeps w1 w5 (own_ h.N.v) := k3.trans' (k4.of_none.trans' (k5.mono fun q _ hq => by
    have e : (Value.slice a3' l1.length c3).ownBlock = some q := hq
    rw [hb3] at e; exact e))
  have hd1 := hd.keep K2
  have vA := hd1.v.keep k45 fun e => by have := hb1 b e; omega
  rcases own_blockK o5 with ⟨hq, h0⟩ | ⟨g, cap, cells, rfl, hBg, hv, hnc, hcm, hcl, htk⟩
  · omega
  have hz5 : w.heap.size ≤ w5.heap.size := Nat.le_trans K2.size k45.size
  have hgb : g ≠ b := fun e => by
    subst e
    have s1 := hv.shape
    rw [vA.shape] at s1
    injection s1 with s1
    injection s1 with s1
    exact absurd s1 (by decide)
  refine KGO ?_
  rw [show max ((l2.length : Nat) - 256 : Int) 0 = ((l2.length - 256 : Nat) : Int) by omega]
  refine Cut.from (by omega) hnc ?_
  refine KGO ?_
  rw [if_neg (by omega : ¬ l2.length - 256 = cap)]
  refine Store.cellK (i := 4) vA (Nat.le_of_ble_eq_true rfl) (by rfl) ⟨rfl, by simp, by simp⟩ fun w6 v6 k6 => ?_
  refine KGO ?_
  have hg6 : VarK w6 g 78 cells := hv.keep k6 hgb
  have P := hd1.o.setN (v := ⟨some ⟨g, 0, none⟩, l2.length, cap⟩) (l := l2) k45 o5
  have P6 := P.keep k6 fun q hq e => by
    have e : q = b := e
    subst e
    unfold Hd.all Hd.bs at hq
    simp only [List.mem_append, mem_otl] at hq
    rcases hq with (((hq | hq) | hq) | hq) | hq
    · have := hd.lt q (Hd.all_b hq); omega
    · have := hd.lt q (Hd.all_s hq); omega
    · have hq : (Value.slice (some ⟨g, 0, none⟩) l2.length cap).ownBlock = some q := hq
      injection hq with hq
      exact hgb hq
    · have := hd.lt q (Hd.all_m hq); omega
    · have := hd.lt q (List.mem_append_right _ hq); omega
  have R := P6.read
  have hdl : (l2.drop (l2.length - 256)).length = l2.length - (l2.length - 256) := List.length_drop
  rw [← hdl] at v6
  have hrn : ∀ u, VarK u g 78 cells → RowN u (.slice (some ⟨g, 0 + (l2.length - 256) * 2, none⟩) (l2.drop (l2.length - 256)).length (cap - (l2.length - 256))) (l2.drop (l2.length - 256)) := fun u hu => ⟨_, _, rfl, fun _ => ⟨g, _, rfl, hu.lt, fun i u' hi => by
    rw [← flatK_drop snC 2 lenSn, List.getElem?_drop, ← htk, List.getElem?_take] at hi
    split at hi
    · rw [Nat.add_assoc]
      exact hu.at _ _ hi
    · cases hi⟩⟩
  rw [hres]
  refine ⟨⟨rfl, ⟨h.B, h.M, h.S, ⟨some ⟨g, 0 + (l2.length - 256) * 2, none⟩, (l2.drop (l2.length - 256)).length, cap - (l2.length - 256)⟩⟩, v6, ⟨R.b, R.m, R.s, hrn _ hg6⟩, fun u ku => ?_⟩, (from_tr K2 (k45.mono fun q _ hq => (hd.o.n.lt q hq).1)).trans' (k6.mono fun q _ hq => ?_)⟩
  · have Q := P6.stab u ku
    exact ⟨Q.b, Q.m, Q.s, hrn u (hg6.keep ku fun e => by
      obtain ⟨cs, hb'⟩ := e
      have s1 := hg6.shape
      rcases hb' with hb' | hb'
      · rw [hb'.shape] at s1
        injection s1 with s1
        injection s1 with s1
        exact absurd s1 (by decide)
      · rw [hb'.shape] at s1
        injection s1 with s1
        injection s1 with s1
        exact absurd s1 (by decide))⟩
  · have e : q = b := hq
    have := hd.B
    show B ≤ q
    omega
end
end Go.Proofs.YtohhkegmbgancaaGreatDoor

-- alias Tryz
namespace Go.Proofs.YtohhkegmbgancaaGreatDoor
open Go.Shelf Go.RowKit Go.Pw Go.Vc Go.Cs Go.Lib
set_option linter.unusedVariables false
set_option maxRecDepth 100000
section
variable {w : World}
set_option maxHeartbeats 8000000 in
theorem ac_set {B b : Nat} {h : Hd} {lx : List Mr} {A : Acc} {v : Ov} {o : Opr} (hd : Drf w B b h lx A) (hf : Fit A) (fo : FitO o) (ha : AscS A.scripts) :
    Calls Tryz.prog 34 #[.pointer (some ⟨b, 0, none⟩), .agg (opC v o).toArray] w fun e w' => Done w' b e (setA A o) ∧ Keeps w w' (from_ B) := by
  have hsl := hf.sl
  have hz : (str o.text).size = o.text.length := str_size o.text
  have hnm := fo.nm
  have htx := fo.tx
  refine calls_of_vc (args := [.pointer (some ⟨b, 0, none⟩), .agg (opC v o).toArray]) Tryz.func34 rfl (Nat.le_of_ble_eq_true rfl) ?_; refine Sat.go hmix ?_; conv => whnf
  have a_b1 := at_fresh w 28 (opC v o)
  have v_b1 := VarK.new w 28 (opC v o)
  have k_w1 : Keeps w (w.alloc (.cells (List.toArray (opC v o)) 28)) none_ := (Keeps.refl _ _).alloc _
  have z_w1 : (w.alloc (.cells (List.toArray (opC v o)) 28)).heap.size = w.heap.size + 1 := by simp
  generalize w.alloc (.cells (List.toArray (opC v o)) 28) = w1 at *
  generalize hs_b1 : w.heap.size = b1 at *
  have r_w1 : Keeps w1 w1 none_ := Keeps.refl _ _
  refine KGO ?_
  refine CallS.of (Tryz.call86 _ _) (ac_script (w := w1) (A := A) o.name (hd.keep k_w1) hf.sl ha) ?_
  rintro e w2 ⟨rfl, hix, k2⟩
  have K2 := k_w1.trans0 k2
  have a2 := at_mono a_b1 k2
  have kr2 : Keeps w2 w2 none_ := Keeps.refl _ _
  have hd2 := hd.keep K2
  have hdA := hd2.v.at
  refine ⟨_, rfl, ?_⟩; (first | refine Then.go hmix ?_ | refine Sat.go hmix ?_ | refine ResK.go ?_ | skip); conv => whnf
  refine KGO ?_
  refine CallS.of (Tryz.call61 _ _) (ac_named (w := w2) o.name (by omega)) ?_
  rintro e w2' ⟨rfl, rfl⟩
  refine ⟨_, rfl, ?_⟩; (first | refine Then.go hmix ?_ | refine Sat.go hmix ?_ | refine ResK.go ?_ | skip); conv => whnf
  by_cases h1 : scB o.name = true
  rotate_left
  · have h1 : scB o.name = false := by simpa using h1
    have hres : setA A o = .error 1 := by unfold setA; rw [if_pos h1]
    rw [h1]
    refine KGO ?_
    exact ⟨by rw [hres]; rfl, K2.of_none⟩
  rw [h1]
  by_cases h2 : 32768 < o.text.length
  · have hres : setA A o = .error 16 := by unfold setA; rw [if_neg (by rw [h1]; simp), if_pos h2]
    refine KGO ?_
    exact ⟨by rw [hres]; rfl, K2.of_none⟩
  have hown : ∀ q, own_ h.S.v q → q < b := fun q hq => hd.lt q (Hd.all_s hq)
  have hbw : b < w.heap.size := hd.v.lt
  by_cases h3 : hasS A.scripts o.name = true
  · have hres : setA A o = .ok ({ A with scripts := A.scripts.set (idxS A.scripts o.name) ⟨o.name, o.text⟩ }, 0) := by unfold setA; rw [if_neg (by rw [h1]; simp), if_neg h2, if_pos h3]
    have h3' := h3
    rw [hasS_idx ha, decide_eq_true_eq] at h3'
    obtain ⟨hlt, hne⟩ := h3'
    rw [h3]
    generalize hie : idxS A.scripts o.name = i at *
    rcases own_blockK hd2.o.s with ⟨_, h0⟩ | ⟨g, cap, cells, heS, hBg, hvS, hnc, hcm, hcl, htk⟩
    · omega
    have heS' := heS
    injection heS with heS1 heS2 heS3
    have hdB := hdA
    unfold accC at hdB
    rw [heS1, heS2] at hdB
    refine KGO ?_
    refine Store.atK (i := 0 + i * 2 + 1) hvS (by rw [hcl]; omega) (by rfl) ⟨rfl, by simp, by simp⟩ fun wA vA kA => ?_
    rw [show 0 + i * 2 + 1 = i * 2 + 1 by omega] at vA
    have oA := own_setK (w := w2.drew) lenSrc (l := A.scripts) (k := i) (j := 1) (x := ⟨o.name, o.text⟩) hlt (by decide) (by rw [← hne]; rfl) hBg hnc hcm hcl htk vA
    have hg : h.S.v.ownBlock = some g := by rw [heS']; rfl
    have kA' : Keeps w2 wA (own_ h.S.v) := ((Keeps.refl w2 none_).drew.of_none).trans' (kA.mono fun q _ e => by have e : q = g := e; rw [e]; exact hg)
    have P := hd2.o.setS (v := h.S) (B' := B) kA' (l := A.scripts.set i ⟨o.name, o.text⟩) (by rw [heS']; unfold OwnSrc; rw [List.length_set]; exact oA)
    have vb := hd2.v.keep kA' fun e => by have := hown b e; omega
    refine KGO ?_
    rw [hres]
    exact ⟨⟨rfl, h, vb, P.read, P.stab⟩, from_tr K2 (kA'.mono fun q _ hq => (hd.o.s.lt q hq).1)⟩
  have h3 : hasS A.scripts o.name = false := by simpa using h3
  rw [h3]
  have hSn : h.S.n = A.scripts.length := by
    obtain ⟨a, c, e⟩ := own_shape hd.o.s
    injection e
  by_cases h4 : 16 ≤ A.scripts.length
  · have hres : setA A o = .error 3 := by unfold setA; rw [if_neg (by rw [h1]; simp), if_neg h2, if_neg (by rw [h3]; simp), if_pos h4]
    refine KGO ?_
    exact ⟨by rw [hres]; rfl, K2.of_none⟩
  have hres : setA A o = .ok ({ A with scripts := A.scripts.take (idxS A.scripts o.name) ++ ⟨o.name, o.text⟩ :: A.scripts.drop (idxS A.scripts o.name) }, 0) := by unfold setA; rw [if_neg (by rw [h1]; simp), if_neg h2, if_neg (by rw [h3]; simp), if_neg h4]
  generalize hie : idxS A.scripts o.name = i at *
  refine KGO ?_
  have hS1 : ∀ u, Keeps w2 u (own_ h.S.v) → At u b1 0 (opC v o) := fun u hu => at_keepc a2 hu fun e => by have := hown b1 e; omega
  have hS2 : ∀ u, Keeps w2 u (own_ h.S.v) → At u b 0 (accC h A) := fun u hu => at_keepc hdA hu fun e => by have := hown b e; omega
  refine Draw.heldEnd (fun u => Keeps w2 u (own_ h.S.v)) (fun _ => true) (by simp) (by decide +kernel) (by decide +kernel) (Keeps.refl _ _).drew ?_
  refine KGO ?_
  refine Held.one (by rfl) (fun u hu => hS2 u hu 2 _ rfl) ?_
  refine KGO ?_
  refine Held.one (by rfl) (fun u hu => hS1 u hu 4 _ rfl) ?_
  refine KGO ?_
  refine Held.one (by rfl) (fun u hu => hS1 u hu 6 _ rfl) ?_
  refine KGO ?_
  refine RunV.of (build_src _ _ _) ?_
  refine KGO ?_
  refine RunV.of (build_src1 ⟨o.name, o.text⟩ _) ?_
  have vb := VarK.new w2.drew 76 (srcC ⟨o.name, o.text⟩)
  have k4 : Keeps w2 (w2.drew.alloc (.cells (srcC ⟨o.name, o.text⟩).toArray 76)) none_ := (Keeps.refl w2 none_).drew.alloc _
  have hvk : w2.drew.heap.size = w2.heap.size := rfl
  generalize w2.drew.alloc (.cells (srcC ⟨o.name, o.text⟩).toArray 76) = w4 at *
  generalize w2.drew.heap.size = vbk at *
  have K4 := K2.trans0 k4
  have hd4 := hd.keep K4
  have hne : ∀ g, h.S.v.ownBlock = some g → g ≠ vbk := fun g hg => by
    have := hown g hg
    have := K2.size
    omega
  refine ⟨k4.of_none, ?_⟩
  refine KGO ?_
  refine CallS.of (Tryz.call87 _ _) (ins_Src (w := w4) A.scripts i ⟨o.name, o.text⟩ hd4.o.s (by have := hd4.B; have := hd4.v.lt; omega) hix hsl vb hne) ?_
  rintro e w5 ⟨v5, rfl, o5, k5⟩
  have k5 := Keeps.fresh k5
  obtain ⟨a5, c5, rfl⟩ := own_shape o5
  have vA := hd4.v.keep k5 fun e => by have := hown b e; omega
  have P := hd4.o.setS (v := ⟨a5, _, c5⟩) k5 o5
  have hnb := own_ne_of o5 vA (by decide)
  refine ⟨_, rfl, ?_⟩; (first | refine Then.go hmix ?_ | refine Sat.go hmix ?_ | refine ResK.go ?_ | skip); conv => whnf
  refine ⟨k4.of_none.trans' k5, ?_⟩
  refine KGO ?_
  refine Store.cellK (i := 2) vA (Nat.le_of_ble_eq_true rfl) (by rfl) ⟨rfl, by simp, by simp⟩ fun w6 vA6 k6 => ?_
  refine KGO ?_
  rw [hres]
  refine ⟨⟨rfl, fin_of (ly := lx) (h' := { h with S := ⟨a5, _, c5⟩ }) vA6 P k6 fun q hq => ?_⟩, (K4.of_none.trans' (k5.mono fun q _ hq => ?_)).trans' (k6.mono fun q _ hq => ?_)⟩
  · unfold Hd.all Hd.bs at hq
    simp only [List.mem_append, mem_otl] at hq
    rcases hq with (((hq | hq) | hq) | hq) | hq
    · have := hd.lt q (Hd.all_b hq); omega
    · exact hnb q hq
    · have := hd.lt q (Hd.all_n hq); omega
    · have := hd.lt q (Hd.all_m hq); omega
    · have := hd.lt q (List.mem_append_right _ hq); omega
  · exact (hd.o.s.lt q hq).1
  · have e : q = b := hq
    have := hd.B
    show B ≤ q
    omega
end
end Go.Proofs.YtohhkegmbgancaaGreatDoor
