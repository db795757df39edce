/- Helper text of this claim: Ad2, Ad3, Bw13, Bx10, Bw14, Ad4: lemmas and contracts that the proved statement rests on; no conditions of its own. -/
import Derived.Test.YtohhkegmbgancaaGreatDoorGAd1
import Derived.Test.YtohhkegmbgancaaGreatDoorGBw12
import Derived.Test.YtohhkegmbgancaaGreatDoorGCt0
import Derived.Lib.Split
import Derived.Lib.SplitLaws
import Derived.Lib.IndexLaws
import Derived.Lib.IndexBytes
import Derived.Shelf.Strings.SplitCore
import Derived.Shelf.Strings.Search3
import Derived.Shelf.Strings.Count
-- alias Tryz
namespace Go.Proofs.YtohhkegmbgancaaGreatDoor
open Go.Shelf Go.RowKit Go.Pw Go.Vc Go.Cs Go.Lib
set_option linter.unusedVariables false
set_option maxRecDepth 100000
theorem nd4 {o1 o2 o3 o4 : Option Nat} {l : List Nat} (nd : ((o1.toList ++ o2.toList ++ o3.toList ++ o4.toList) ++ l).Nodup) :
    (∀ k, o1 = some k → o2 ≠ some k ∧ o3 ≠ some k ∧ o4 ≠ some k ∧ k ∉ l) ∧ (∀ k, o2 = some k → o3 ≠ some k ∧ o4 ≠ some k ∧ k ∉ l) ∧ (∀ k, o3 = some k → o4 ≠ some k ∧ k ∉ l) ∧ (∀ k, o4 = some k → k ∉ l) := by
  have e : ∀ (o : Option Nat) k, o = some k → k ∈ o.toList := fun o k h => by rw [h]; simp
  rw [List.nodup_append] at nd
  obtain ⟨n1, _, n2⟩ := nd
  rw [List.nodup_append] at n1
  obtain ⟨n3, _, n4⟩ := n1
  rw [List.nodup_append] at n3
  obtain ⟨n5, _, n6⟩ := n3
  rw [List.nodup_append] at n5
  obtain ⟨_, _, n7⟩ := n5
  refine ⟨fun k h => ⟨fun q => ?_, fun q => ?_, fun q => ?_, fun q => ?_⟩, fun k h => ⟨fun q => ?_, fun q => ?_, fun q => ?_⟩, fun k h => ⟨fun q => ?_, fun q => ?_⟩, fun k h q => ?_⟩
  · exact n7 k (e _ _ h) k (e _ _ q) rfl
  · exact n6 k (List.mem_append_left _ (e _ _ h)) k (e _ _ q) rfl
  · exact n4 k (List.mem_append_left _ (List.mem_append_left _ (e _ _ h))) k (e _ _ q) rfl
  · exact n2 k (List.mem_append_left _ (List.mem_append_left _ (List.mem_append_left _ (e _ _ h)))) k q rfl
  · exact n6 k (List.mem_append_right _ (e _ _ h)) k (e _ _ q) rfl
  · exact n4 k (List.mem_append_left _ (List.mem_append_right _ (e _ _ h))) k (e _ _ q) rfl
  · exact n2 k (List.mem_append_left _ (List.mem_append_left _ (List.mem_append_right _ (e _ _ h)))) k q rfl
  · exact n4 k (List.mem_append_right _ (e _ _ h)) k (e _ _ q) rfl
  · exact n2 k (List.mem_append_left _ (List.mem_append_right _ (e _ _ h))) k q rfl
  · exact n2 k (List.mem_append_right _ (e _ _ h)) k q rfl
section
variable {w w' : World} {B : Nat} {h : Hd} {lx : List Mr} {A : Acc}
theorem not_bs {x : Mr} {k : Nat} (hx : x ∈ lx) (hk : k ∉ lx.flatMap Mr.bs) : x.b.v.ownBlock ≠ some k ∧ x.f.v.ownBlock ≠ some k :=
  ⟨fun e => hk (List.mem_flatMap.2 ⟨x, hx, by unfold Mr.bs; rw [List.mem_append, mem_otl, mem_otl]; exact .inl e⟩), fun e => hk (List.mem_flatMap.2 ⟨x, hx, by unfold Mr.bs; rw [List.mem_append, mem_otl, mem_otl]; exact .inr e⟩)⟩
/-- New mailboxes. -/
theorem AccP.setB (o : AccP w h lx A) {v : Sl} {l : List Bx} {B' : Nat} (hv : OwnB w B' v.v l) : AccP w { h with B := v } lx { A with boxes := l } :=
  ⟨own_base hv (Nat.zero_le _), o.s, o.n, o.m, o.ml, o.mb⟩
/-- The scripts' row has turned. -/
theorem AccO.setS (o : AccO w B h lx A) (k : Keeps w w' (own_ h.S.v)) {v : Sl} {l : List Sc} {B' : Nat} (hv : OwnSrc w' B' v.v l) : AccP w' { h with S := v } lx { A with scripts := l } := by
  obtain ⟨h1, h2, h3, h4⟩ := nd4 o.nd
  have o := o.p
  exact ⟨own_keep o.b k fun q hq e => (h1 q hq).1 e, own_base hv (Nat.zero_le _), own_keep o.n k fun q hq e => (h2 q e).1 hq, own_keep o.m k fun q hq e => (h2 q e).2.1 hq, o.ml, fun x hx => ⟨own_keep (o.mb x hx).1 k fun q hq e => (not_bs hx (h2 q e).2.2).1 hq, own_keep (o.mb x hx).2 k fun q hq e => (not_bs hx (h2 q e).2.2).2 hq⟩⟩
theorem AccO.setN (o : AccO w B h lx A) (k : Keeps w w' (own_ h.N.v)) {v : Sl} {l : List Sn} {B' : Nat} (hv : OwnSn w' B' v.v l) : AccP w' { h with N := v } lx { A with seen := l } := by
  obtain ⟨h1, h2, h3, h4⟩ := nd4 o.nd
  have o := o.p
  exact ⟨own_keep o.b k fun q hq e => (h1 q hq).2.1 e, own_keep o.s k fun q hq e => (h2 q hq).1 e, own_base hv (Nat.zero_le _), own_keep o.m k fun q hq e => (h3 q e).1 hq, o.ml, fun x hx => ⟨own_keep (o.mb x hx).1 k fun q hq e => (not_bs hx (h3 q e).2).1 hq, own_keep (o.mb x hx).2 k fun q hq e => (not_bs hx (h3 q e).2).2 hq⟩⟩
/-- The messages' row has turned; the rows of the messages have not. -/
theorem AccO.setM (o : AccO w B h lx A) (k : Keeps w w' (own_ h.M.v)) {v : Sl} {ly : List Mr} {l : List Ml} {B' : Nat} (hv : OwnMl w' B' v.v ly) (hl : ly.map (·.m) = l)
    (hy : ∀ y ∈ ly, y ∈ lx ∨ (OwnI w' 0 y.b.v y.m.boxes ∧ OwnT w' 0 y.f.v y.m.flags)) : AccP w' { h with M := v } ly { A with mails := l } := by
  obtain ⟨h1, h2, h3, h4⟩ := nd4 o.nd
  have o := o.p
  refine ⟨own_keep o.b k fun q hq e => (h1 q hq).2.2.1 e, own_keep o.s k fun q hq e => (h2 q hq).2.1 e, own_keep o.n k fun q hq e => (h3 q hq).1 e, own_base hv (Nat.zero_le _), hl, fun x hx => ?_⟩
  rcases hy x hx with hx | hx
  · exact ⟨own_keep (o.mb x hx).1 k fun q hq e => (not_bs hx (h4 q e)).1 hq, own_keep (o.mb x hx).2 k fun q hq e => (not_bs hx (h4 q e)).2 hq⟩
  · exact hx
/-- An end: the draft's cells are written, the rows stand. -/
theorem fin_of {w5 w6 : World} {b : Nat} {h' : Hd} {ly : List Mr} {A' : Acc} (hv : VarK w6 b 65 (accC h' A')) (P : AccP w5 h' ly A') (k : Keeps w5 w6 (one_ b)) (hne : ∀ q ∈ h'.all ly, q ≠ b) : ∃ h', VarK w6 b 65 (accC h' A') ∧ AccR w6 h' A' ∧ StabA w6 h' A' :=
  ⟨h', hv, (P.keep k fun q hq e => hne q hq e).read, (P.keep k fun q hq e => hne q hq e).stab⟩
theorem Drf.all {b : Nat} (d : Drf w B b h lx A) : ∀ k ∈ h.all lx, k < b := d.lt
end
section
variable {w : World}
set_option maxHeartbeats 8000000 in
theorem ac_move {B b : Nat} {h : Hd} {lx : List Mr} {A : Acc} {v : Ov} {o : Opr} (hd : Drf w B b h lx A) (hf : Fit A) (ho : OpR w v o) (fo : FitO o) :
    Calls Tryz.prog 28 #[.pointer (some ⟨b, 0, none⟩), .agg (opC v o).toArray] w fun e w' => Done w' b e (moveA A o) ∧ Keeps w w' (from_ B) := by
  have fml := hf.ml
  have fob := fo.b
  have hbn : v.b.n = o.boxes.length := by
    obtain ⟨a, c, e, _⟩ := ho.b
    injection e
  have hnil : o.boxes = [] ↔ v.b.n = 0 := by rw [hbn, List.length_eq_zero_iff]
  refine calls_of_vc (args := [.pointer (some ⟨b, 0, none⟩), .agg (opC v o).toArray]) Tryz.func28 rfl (Nat.le_of_ble_eq_true rfl) ?_; refine Sat.go hmix ?_; conv => whnf
  have a_b1 := at_fresh w 28 (opC v o)
  have v_b1 := VarK.new w 28 (opC v o)
  have k_w1 : Keeps w (w.alloc (.cells (List.toArray (opC v o)) 28)) none_ := (Keeps.refl _ _).alloc _
  have z_w1 : (w.alloc (.cells (List.toArray (opC v o)) 28)).heap.size = w.heap.size + 1 := by simp
  generalize w.alloc (.cells (List.toArray (opC v o)) 28) = w1 at *
  generalize hs_b1 : w.heap.size = b1 at *
  have r_w1 : Keeps w1 w1 none_ := Keeps.refl _ _
  refine KGO ?_
  refine CallS.of (Tryz.call75 _ _) (ac_of (w := w1) (v := v) (o := o) (hd.keep k_w1) hf.ml) ?_
  rintro e w2 ⟨hof, k2⟩
  have K2 := k_w1.trans0 k2
  have a2 := at_mono a_b1 k2
  cases hA : ofA A o with
  | error c =>
    rw [hA] at hof
    subst hof
    have hc := ofA_err hA
    have hres : moveA A o = .error c := by unfold moveA; rw [hA]
    refine ⟨_, rfl, ?_⟩; (first | refine Then.go hmix ?_ | refine Sat.go hmix ?_ | refine ResK.go ?_ | skip); conv => whnf
    refine KGO ?_
    exact ⟨by rw [hres]; rfl, K2.of_none⟩
  | ok m =>
    rw [hA] at hof
    obtain ⟨i, g, hi, rfl, hma, hxm, hid, hfirst⟩ := hof
    refine ⟨_, rfl, ?_⟩; (first | refine Then.go hmix ?_ | refine Sat.go hmix ?_ | refine ResK.go ?_ | skip); conv => whnf
    have kr2 : Keeps w2 w2 none_ := Keeps.refl _ _
    by_cases h1 : v.b.n = 0
    · have hres : moveA A o = .error 1 := by unfold moveA; rw [hA]; dsimp only; rw [if_pos (hnil.2 h1)]
      refine KGO ?_
      exact ⟨by rw [hres]; rfl, K2.of_none⟩
    have hdA := hd.v.at
    refine KGO ?_
    refine CallS.of (Tryz.call74 _ _) (ac_there (w := w2.drew) (h := h) (A := A) o.boxes (hd.o.read.b.keep K2.drew) (by have := hf.bl; omega) (ho.b.keep K2.drew) (by omega)) ?_
    rintro e w3 ⟨rfl, k3⟩
    have K3 := K2.drew.trans0 k3
    have a3 := at_mono a2 ((Keeps.refl w2 none_).drew.trans0 k3)
    refine ⟨_, rfl, ?_⟩; (first | refine Then.go hmix ?_ | refine Sat.go hmix ?_ | refine ResK.go ?_ | skip); conv => whnf
    by_cases h2 : thereB A.boxes o.boxes = true
    rotate_left
    · have h2 : thereB A.boxes o.boxes = false := by simpa using h2
      have hres : moveA A o = .error 5 := by unfold moveA; rw [hA]; dsimp only; rw [if_neg (fun e => h1 (hnil.1 e)), if_pos h2]
      rw [h2]
      refine KGO ?_
      exact ⟨by rw [hres]; rfl, K3.of_none⟩
    have hres : moveA A o = .ok ({ A with mails := updA A.mails o.id fun m => { m with boxes := sortI o.boxes, mod := A.st } }, 0) := by unfold moveA; rw [hA]; dsimp only; rw [if_neg (fun e => h1 (hnil.1 e)), if_neg (by rw [h2]; simp)]
    rw [h2]
    refine KGO ?_
    have hgM0 : h.M.v.ownBlock = some g := by
      have e : h.M.v = .slice (some ⟨g, 0, none⟩) h.M.n h.M.c := by show Value.slice h.M.a h.M.n h.M.c = _; rw [hma]
      rw [e]; rfl
    have hgb0 : g < b := hd.lt g (Hd.all_m hgM0)
    have hbw : b < w.heap.size := hd.v.lt
    have hd3 := at_mono hdA K3
    have hS1 : ∀ u, Keeps w3 u (one_ g) → At u b1 0 (opC v o) := fun u hu => at_keepc a3 hu fun e => by have e : b1 = g := e; omega
    have hS2 : ∀ u, Keeps w3 u (one_ g) → At u b 0 (accC h A) := fun u hu => at_keepc hd3 hu fun e => by have e : b = g := e; omega
    refine Draw.held (fun u => Keeps w3 u (one_ g)) (fun _ => true) (by decide +kernel) (Keeps.refl _ _).drew ?_
    refine KGO ?_
    refine Held.one (by rfl) (fun u hu => hS1 u hu 39 _ rfl) ?_
    refine KGO ?_
    refine CallS.of (Tryz.call71 _ _) (ac_risingI (w := w3.drew) o.boxes (ho.b.keep K3.drew) (by omega)) ?_
    rintro e w4 ⟨v4, rfl, o4, k4⟩
    obtain ⟨a4, c4, rfl⟩ := own_shape o4
    have J4 : Keeps w3 w4 none_ := (Keeps.refl w3 none_).drew.trans0 k4
    have K4 := K3.trans0 J4
    have kS : Keeps w3 w4 (one_ g) := J4.of_none
    refine ⟨_, rfl, ?_⟩; (first | refine Then.go hmix ?_ | refine Sat.go hmix ?_ | refine ResK.go ?_ | skip); conv => whnf
    refine ⟨kS, ?_⟩
    refine KGO ?_
    refine Held.one (by rfl) (fun u hu => hS2 u hu 7 _ rfl) ?_
    refine KGO ?_
    generalize hx : lx[i] = x at *
    subst hxm
    have oM := own_keep0 hd.o.m K4
    rcases own_blockK oM with ⟨_, h0⟩ | ⟨gM, cap, cells, heM, hBg, hvM, hnc, hcm, hcl, htk⟩
    · omega
    have heM' := heM
    injection heM with heM1 heM2 heM3
    rw [hma] at heM1
    injection heM1 with heM1
    injection heM1 with heM1
    subst heM1
    refine Store.atK (i := 0 + i * 38 + 33) hvM (by rw [hcl]; omega) (by rfl) ⟨rfl, by simp, by simp⟩ fun wA vA kA => ?_
    refine ⟨(kS.trans' kA), ?_⟩
    rw [show 0 + i * 38 + 33 = i * 38 + 33 by omega] at vA
    have oA := own_setK (w := w4) lenMl (l := lx) (k := i) (j := 33) (x := ⟨x.m, ⟨a4, (sortI o.boxes).length, c4⟩, x.f⟩) hi (by decide) (by rw [hx]; rfl) hBg hnc hcm hcl htk vA
    rcases own_blockK oA with ⟨hq, _⟩ | ⟨gA, capA, cellsA, heA, hBA, hvA, hncA, hcmA, hclA, htkA⟩
    · cases hq
    injection heA with heA1 heA2 heA3
    injection heA1 with heA1
    injection heA1 with heA1
    subst heA1; subst heA3
    refine KGO ?_
    refine Store.atK (i := 0 + i * 38 + 37) hvA (by rw [hclA]; omega) (by rfl) ⟨rfl, by simp, by simp⟩ fun wB vB kB => ?_
    refine ⟨(kS.trans' kA).trans' kB, ?_⟩
    rw [show 0 + i * 38 + 37 = i * 38 + 37 by omega] at vB
    have oB := own_setK (w := wA) lenMl (l := lx.set i ⟨x.m, ⟨a4, (sortI o.boxes).length, c4⟩, x.f⟩) (k := i) (j := 37) (x := ⟨{ x.m with boxes := sortI o.boxes, mod := A.st }, ⟨a4, (sortI o.boxes).length, c4⟩, x.f⟩) (by rw [List.length_set]; exact hi) (by decide) (by rw [List.getElem_set_self]; rfl) hBA (by rw [List.length_set]; exact hncA) hcmA hclA (by rw [List.length_set]; exact htkA) vB
    rw [List.length_set, List.set_set] at oB
    have kAB := kA.trans' kB
    have hrowB : OwnMl wB B h.M.v (lx.set i ⟨{ x.m with boxes := sortI o.boxes, mod := A.st }, ⟨a4, (sortI o.boxes).length, c4⟩, x.f⟩) := by
      rw [heM']
      unfold OwnMl
      rw [List.length_set]
      exact oB
    have hgM : h.M.v.ownBlock = some g := by rw [heM']; rfl
    have hneM := mail_ne hd.o K4 kAB hgM
    have hgb : g < w.heap.size := by have := hd.lt g (List.mem_append_left _ (List.mem_append_right _ (mem_otl.2 hgM))); have := hd.v.lt; omega
    refine KGO ?_
    refine ⟨?_, keeps_from K4 kAB hBg⟩
    rw [hres]
    refine ⟨rfl, fin_upd hd K4 kAB hgM hrowB (fun y hy => ?_) ?_⟩
    · rcases List.mem_or_eq_of_mem_set hy with hy | rfl
      · exact hneM y hy
      · have hx2 := hneM x (by rw [← hx]; exact List.getElem_mem hi)
        exact ⟨own_base (own_ne o4 kAB fun k hk => by have := (o4.lt k hk).1; have := K3.drew.size; omega) (Nat.zero_le _), hx2.2⟩
    · rw [← upd_eq hd.o.ml hi (by rw [hx]; exact hid) hfirst (fun m => { m with boxes := sortI o.boxes, mod := A.st }) (by rw [hx])]
end
end Go.Proofs.YtohhkegmbgancaaGreatDoor

-- alias Tryz
namespace Go.Proofs.YtohhkegmbgancaaGreatDoor
open Go.Shelf Go.RowKit Go.Pw Go.Vc Go.Cs Go.Lib
set_option linter.unusedVariables false
set_option maxRecDepth 100000
section
variable {w : World}
set_option maxHeartbeats 8000000 in
theorem ac_destroy {B b : Nat} {h : Hd} {lx : List Mr} {A : Acc} {v : Ov} {o : Opr} (hd : Drf w B b h lx A) (hf : Fit A) :
    Calls Tryz.prog 29 #[.pointer (some ⟨b, 0, none⟩), .agg (opC v o).toArray] w fun e w' => Done w' b e (destroyA A o) ∧ Keeps w w' (from_ B) := by
  have fml := hf.ml
  refine calls_of_vc (args := [.pointer (some ⟨b, 0, none⟩), .agg (opC v o).toArray]) Tryz.func29 rfl (Nat.le_of_ble_eq_true rfl) ?_; refine Sat.go hmix ?_; conv => whnf
  have a_b1 := at_fresh w 28 (opC v o)
  have v_b1 := VarK.new w 28 (opC v o)
  have k_w1 : Keeps w (w.alloc (.cells (List.toArray (opC v o)) 28)) none_ := (Keeps.refl _ _).alloc _
  have z_w1 : (w.alloc (.cells (List.toArray (opC v o)) 28)).heap.size = w.heap.size + 1 := by simp
  generalize w.alloc (.cells (List.toArray (opC v o)) 28) = w1 at *
  generalize hs_b1 : w.heap.size = b1 at *
  have r_w1 : Keeps w1 w1 none_ := Keeps.refl _ _
  refine KGO ?_
  refine CallS.of (Tryz.call75 _ _) (ac_of (w := w1) (v := v) (o := o) (hd.keep k_w1) hf.ml) ?_
  rintro e w2 ⟨hof, k2⟩
  have K2 := k_w1.trans0 k2
  have a2 := at_mono a_b1 k2
  cases hA : ofA A o with
  | error c =>
    rw [hA] at hof
    subst hof
    have hc := ofA_err hA
    have hres : destroyA A o = .error c := by unfold destroyA; rw [hA]
    refine ⟨_, rfl, ?_⟩; (first | refine Then.go hmix ?_ | refine Sat.go hmix ?_ | refine ResK.go ?_ | skip); conv => whnf
    refine KGO ?_
    exact ⟨by rw [hres]; rfl, K2.of_none⟩
  | ok m =>
    rw [hA] at hof
    obtain ⟨i, g, hi, rfl, hma, hxm, hid, hfirst⟩ := hof
    have hres : destroyA A o = .ok ({ A with mails := delA A.mails o.id }, 0) := by unfold destroyA; rw [hA]
    refine ⟨_, rfl, ?_⟩; (first | refine Then.go hmix ?_ | refine Sat.go hmix ?_ | refine ResK.go ?_ | skip); conv => whnf
    have kr2 : Keeps w2 w2 none_ := Keeps.refl _ _
    have hdA := hd.v.at
    refine KGO ?_
    refine CallS.of (Tryz.call40 _ _) (ac_place (w := w2.drew) (h := h) (A := A) o.id (hd.o.read.keep K2.drew) (by omega)) ?_
    rintro e w3 ⟨rfl, k3⟩
    have K3 := K2.drew.trans0 k3
    refine ⟨_, rfl, ?_⟩; (first | refine Then.go hmix ?_ | refine Sat.go hmix ?_ | refine ResK.go ?_ | skip); conv => whnf
    have hlen : lx.length = A.mails.length := by rw [← hd.o.ml, List.length_map]
    have hxj : ∀ j (hj : j < lx.length), A.mails[j]'(by omega) = (lx[j]).m := fun j hj => by simp [← hd.o.ml]
    have hpl : placeL A.mails o.id = (i : Nat) := by
      rcases place_find A.mails o.id with ⟨hp, hfd⟩ | ⟨i', hi', hp, hfd, hid', hfirst'⟩
      · exfalso
        have := List.find?_eq_none.1 hfd (A.mails[i]'(by omega)) (List.getElem_mem _)
        apply this
        rw [hxj i hi, hxm]
        simpa using hid
      · rw [hp]
        congr 1
        rcases Nat.lt_trichotomy i' i with q | q | q
        · exact absurd (by rw [← hxj i' (by omega)]; exact hid') (hfirst i' q)
        · exact q
        · exact absurd (by rw [hxj i hi, hxm]; exact hid) (hfirst' i q)
    rw [hpl]
    refine KGO ?_
    have o3 := own_keep0 hd.o.m K3
    refine CallS.of (Tryz.call79 _ _) (del_Ml (w := w3) lx i o3 hi (by omega)) ?_
    rintro e w4 ⟨v4, rfl, o4, k4, hb4⟩
    have hd3 := hd.keep K3
    obtain ⟨a4, c4, rfl⟩ := own_shape o4
    have hown : ∀ q, own_ h.M.v q → q < b := fun q hq => hd.lt q (Hd.all_m hq)
    have vA := hd3.v.keep k4 fun e => by have := hown b e; omega
    have P := hd3.o.setM (v := ⟨a4, _, c4⟩) k4 o4 (l := delA A.mails o.id) (by
      rw [List.map_append, List.map_take, List.map_drop, hd.o.ml]
      exact (del_take o.id A.mails i (by omega) (by rw [hxj i hi, hxm]; exact hid) fun j hj => by rw [hxj j (by omega)]; exact hfirst j hj).symm) fun y hy => .inl (by
        rcases List.mem_append.1 hy with hy | hy
        · exact List.mem_of_mem_take hy
        · exact List.mem_of_mem_drop hy)
    refine ⟨_, rfl, ?_⟩; (first | refine Then.go hmix ?_ | refine Sat.go hmix ?_ | refine ResK.go ?_ | skip); conv => whnf
    refine KGO ?_
    refine Store.cellK (i := 1) vA (Nat.le_of_ble_eq_true rfl) (by rfl) ⟨rfl, by simp, by simp⟩ fun w5 vA5 k5 => ?_
    refine KGO ?_
    rw [hres]
    refine ⟨⟨rfl, fin_of (h' := { h with M := ⟨a4, _, c4⟩ }) vA5 P k5 fun q hq => ?_⟩, (K3.of_none.trans' (k4.mono fun q _ hq => ?_)).trans' (k5.mono fun q _ hq => ?_)⟩
    · have hall : q ∈ h.all lx ∨ (Value.slice a4 (lx.take i ++ lx.drop (i + 1)).length c4).ownBlock = some q := by
        unfold Hd.all Hd.bs at hq
        simp only [List.mem_append, mem_otl] at hq
        rcases hq with (((hq | hq) | hq) | hq) | hq
        · exact .inl (Hd.all_b hq)
        · exact .inl (Hd.all_s hq)
        · exact .inl (Hd.all_n hq)
        · exact .inr hq
        · obtain ⟨x, hx, hq⟩ := List.mem_flatMap.1 hq
          refine .inl (List.mem_append_right _ (List.mem_flatMap.2 ⟨x, ?_, hq⟩))
          rcases List.mem_append.1 hx with hx | hx
          · exact List.mem_of_mem_take hx
          · exact List.mem_of_mem_drop hx
      rcases hall with hq | hq
      · have := hd.lt q hq; omega
      · rw [hb4] at hq
        have := hown q hq; omega
    · exact (hd.o.m.lt q hq).1
    · have e : q = b := hq
      have := hd.B
      show B ≤ q
      omega
/-- New mailboxes, or the error. -/
theorem ac_boxes {B B2 b c : Nat} {h : Hd} {lx : List Mr} {A : Acc} {v : Value} (l : List Bx) (hd : Drf w B b h lx A) (hv : OwnB w B2 v l) (hB : b < B2) :
    Calls Tryz.prog 80 #[.pointer (some ⟨b, 0, none⟩), v, .int .i64 (c : Nat)] w fun e w' => Done w' b e (boxesA A (l, c)) ∧ Keeps w w' (from_ B) := by
  obtain ⟨a, cp, rfl⟩ := own_shape hv
  refine calls_of_vc (args := [.pointer (some ⟨b, 0, none⟩), .slice a l.length cp, .int .i64 (c : Nat)]) Tryz.func80 rfl (Nat.le_of_ble_eq_true rfl) ?_; refine Sat.go hmix ?_; conv => whnf
  by_cases h0 : c = 0
  · subst h0
    refine KGO ?_
    refine Store.cellK (i := 0) hd.v (Nat.le_of_ble_eq_true rfl) (by rfl) ⟨rfl, by simp, by simp⟩ fun w5 vA5 k5 => ?_
    refine KGO ?_
    have hres : boxesA A (l, 0) = .ok ({ A with boxes := l }, 0) := by simp [boxesA]
    rw [hres]
    refine ⟨⟨rfl, fin_of (h' := { h with B := ⟨a, _, cp⟩ }) vA5 (hd.o.p.setB hv) k5 fun q hq => ?_⟩, k5.mono fun q _ hq => ?_⟩
    · unfold Hd.all Hd.bs at hq
      simp only [List.mem_append, mem_otl] at hq
      rcases hq with (((hq | hq) | hq) | hq) | hq
      · have := (hv.lt q hq).1; omega
      · have := hd.lt q (Hd.all_s hq); omega
      · have := hd.lt q (Hd.all_n hq); omega
      · have := hd.lt q (Hd.all_m hq); omega
      · have := hd.lt q (List.mem_append_right _ hq); omega
    · have e : q = b := hq
      have := hd.B
      show B ≤ q
      omega
  · have hres : boxesA A (l, c) = .error c := by simp [boxesA, h0]
    rw [hres]
    refine KGO ?_
    exact ⟨rfl, Keeps.refl _ _⟩
end
end Go.Proofs.YtohhkegmbgancaaGreatDoor

-- alias Tryz
namespace Go.Proofs.YtohhkegmbgancaaGreatDoor
open Go.RowKit Go.Pw Go.Vc Go.Cs Go.Lib
set_option linter.unusedVariables false
set_option maxRecDepth 100000
section
end
end Go.Proofs.YtohhkegmbgancaaGreatDoor

namespace Go.Cs
open Go.Lib
set_option linter.unusedVariables false
end Go.Cs

-- alias Tryz
namespace Go.Proofs.YtohhkegmbgancaaGreatDoor
open Go.RowKit Go.Pw Go.Vc Go.Cs Go.Lib
set_option linter.unusedVariables false
set_option maxRecDepth 100000
section
end
end Go.Proofs.YtohhkegmbgancaaGreatDoor

-- alias Tryz
namespace Go.Proofs.YtohhkegmbgancaaGreatDoor
open Go.Shelf Go.RowKit Go.Pw Go.Vc Go.Cs Go.Lib
set_option linter.unusedVariables false
set_option maxRecDepth 100000
theorem Done.returned {w : World} {b : Nat} {e : Ending} {r : Except Nat (Acc × Int)} (h : Done w b e r) : ∃ n c : Int, e = .returned (.tuple #[.int .i64 n, .int .i64 c]) := by
  cases r with
  | error c => exact ⟨_, _, h⟩
  | ok r => exact ⟨_, _, h.1⟩
section
variable {w : World}
theorem from_tr {B : Nat} {w w1 w2 : World} (k : Keeps w w1 none_) (k2 : Keeps w1 w2 (from_ B)) : Keeps w w2 (from_ B) := k.of_none.trans' k2
set_option maxHeartbeats 4000000 in
theorem ac_name {B b : Nat} {h : Hd} {lx : List Mr} {A : Acc} {v : Ov} {o : Opr} (hd : Drf w B b h lx A) (hf : Fit A) (fo : FitO o) (hE : BEnv w) :
    Calls Tryz.prog 31 #[.pointer (some ⟨b, 0, none⟩), .agg (opC v o).toArray] w fun e w' => Done w' b e (nameA A o) ∧ Keeps w w' (from_ B) := by
  refine calls_of_vc (args := [.pointer (some ⟨b, 0, none⟩), .agg (opC v o).toArray]) Tryz.func31 rfl (Nat.le_of_ble_eq_true rfl) ?_; refine Sat.go hmix ?_; conv => whnf
  have a_b1 := at_fresh w 28 (opC v o)
  have v_b1 := VarK.new w 28 (opC v o)
  have k_w1 : Keeps w (w.alloc (.cells (List.toArray (opC v o)) 28)) none_ := (Keeps.refl _ _).alloc _
  have z_w1 : (w.alloc (.cells (List.toArray (opC v o)) 28)).heap.size = w.heap.size + 1 := by simp
  generalize w.alloc (.cells (List.toArray (opC v o)) 28) = w1 at *
  generalize hs_b1 : w.heap.size = b1 at *
  have r_w1 : Keeps w1 w1 none_ := Keeps.refl _ _
  have hdA := hd.v.at
  refine KGO ?_
  refine CallS.of (Tryz.call81 _ _) (bx_Name (w := w1.drew) A.boxes o.box o.name (hd.o.read.b.keep k_w1.drew) hf.bl hf.bs fo.nm (hE.keep k_w1.drew)) ?_
  rintro e w2 ⟨v2, rfl, o2, k2⟩
  have K2 := k_w1.drew.trans0 k2
  have hbw : b < w.heap.size := hd.v.lt
  obtain ⟨a2, c2, rfl⟩ := own_shape o2
  refine ⟨_, rfl, ?_⟩; (first | refine Then.go hmix ?_ | refine Sat.go hmix ?_ | refine ResK.go ?_ | skip); conv => whnf
  refine KGO ?_
  refine CallS.of (Tryz.call80 _ _) (ac_boxes (w := w2) (c := (nameL A.boxes o.box o.name).2) (nameL A.boxes o.box o.name).1 (hd.keep K2) o2 (by have := k_w1.drew.size; omega)) ?_
  rintro e w3 ⟨hD, k3⟩
  obtain ⟨n, c, rfl⟩ := hD.returned
  refine ⟨_, rfl, ?_⟩; (first | refine Then.go hmix ?_ | refine Sat.go hmix ?_ | refine ResK.go ?_ | skip); conv => whnf
  refine KGO ?_
  exact ⟨hD, from_tr K2 k3⟩
set_option maxHeartbeats 4000000 in
theorem ac_hang {B b : Nat} {h : Hd} {lx : List Mr} {A : Acc} {v : Ov} {o : Opr} (hd : Drf w B b h lx A) (hf : Fit A) (hE : BEnv w) :
    Calls Tryz.prog 32 #[.pointer (some ⟨b, 0, none⟩), .agg (opC v o).toArray] w fun e w' => Done w' b e (hangA A o) ∧ Keeps w w' (from_ B) := by
  refine calls_of_vc (args := [.pointer (some ⟨b, 0, none⟩), .agg (opC v o).toArray]) Tryz.func32 rfl (Nat.le_of_ble_eq_true rfl) ?_; refine Sat.go hmix ?_; conv => whnf
  have a_b1 := at_fresh w 28 (opC v o)
  have v_b1 := VarK.new w 28 (opC v o)
  have k_w1 : Keeps w (w.alloc (.cells (List.toArray (opC v o)) 28)) none_ := (Keeps.refl _ _).alloc _
  have z_w1 : (w.alloc (.cells (List.toArray (opC v o)) 28)).heap.size = w.heap.size + 1 := by simp
  generalize w.alloc (.cells (List.toArray (opC v o)) 28) = w1 at *
  generalize hs_b1 : w.heap.size = b1 at *
  have r_w1 : Keeps w1 w1 none_ := Keeps.refl _ _
  have hdA := hd.v.at
  refine KGO ?_
  refine CallS.of (Tryz.call82 _ _) (bx_Move (w := w1.drew) A.boxes o.box o.up (hd.o.read.b.keep k_w1.drew) hf.bl hf.bs (hE.keep k_w1.drew)) ?_
  rintro e w2 ⟨v2, rfl, o2, k2⟩
  have K2 := k_w1.drew.trans0 k2
  have hbw : b < w.heap.size := hd.v.lt
  obtain ⟨a2, c2, rfl⟩ := own_shape o2
  refine ⟨_, rfl, ?_⟩; (first | refine Then.go hmix ?_ | refine Sat.go hmix ?_ | refine ResK.go ?_ | skip); conv => whnf
  refine KGO ?_
  refine CallS.of (Tryz.call80 _ _) (ac_boxes (w := w2) (c := (moveL A.boxes o.box o.up).2) (moveL A.boxes o.box o.up).1 (hd.keep K2) o2 (by have := k_w1.drew.size; omega)) ?_
  rintro e w3 ⟨hD, k3⟩
  obtain ⟨n, c, rfl⟩ := hD.returned
  refine ⟨_, rfl, ?_⟩; (first | refine Then.go hmix ?_ | refine Sat.go hmix ?_ | refine ResK.go ?_ | skip); conv => whnf
  refine KGO ?_
  exact ⟨hD, from_tr K2 k3⟩
set_option maxHeartbeats 8000000 in
theorem ac_add {B b : Nat} {h : Hd} {lx : List Mr} {A : Acc} {v : Ov} {o : Opr} (hd : Drf w B b h lx A) (hf : Fit A) (fo : FitO o) (hE : BEnv w) :
    Calls Tryz.prog 30 #[.pointer (some ⟨b, 0, none⟩), .agg (opC v o).toArray] w fun e w' => Done w' b e (addA A o) ∧ Keeps w w' (from_ B) := by
  have hnb := hf.nb
  refine calls_of_vc (args := [.pointer (some ⟨b, 0, none⟩), .agg (opC v o).toArray]) Tryz.func30 rfl (Nat.le_of_ble_eq_true rfl) ?_; refine Sat.go hmix ?_; conv => whnf
  have a_b1 := at_fresh w 28 (opC v o)
  have v_b1 := VarK.new w 28 (opC v o)
  have k_w1 : Keeps w (w.alloc (.cells (List.toArray (opC v o)) 28)) none_ := (Keeps.refl _ _).alloc _
  have z_w1 : (w.alloc (.cells (List.toArray (opC v o)) 28)).heap.size = w.heap.size + 1 := by simp
  generalize w.alloc (.cells (List.toArray (opC v o)) 28) = w1 at *
  generalize hs_b1 : w.heap.size = b1 at *
  have r_w1 : Keeps w1 w1 none_ := Keeps.refl _ _
  have hdA := hd.v.at
  by_cases h1 : 1099511627776 ≤ A.nb
  · have hres : addA A o = .error 3 := by unfold addA; rw [if_pos h1]
    refine KGO ?_
    exact ⟨by rw [hres]; rfl, k_w1.of_none⟩
  refine KGO ?_
  refine CallS.of (Tryz.call25 _ _) (bx_Add (w := w1.drew) A.boxes o.up o.name o.role A.nb (hd.o.read.b.keep k_w1.drew) hf.bl hf.bs fo.nm (hE.keep k_w1.drew)) ?_
  rintro e w2 ⟨v2, rfl, o2, k2⟩
  have K2 := k_w1.drew.trans0 k2
  have hbw : b < w.heap.size := hd.v.lt
  have hz1 := k_w1.drew.size
  obtain ⟨a2, c2, rfl⟩ := own_shape o2
  refine ⟨_, rfl, ?_⟩; (first | refine Then.go hmix ?_ | refine Sat.go hmix ?_ | refine ResK.go ?_ | skip); conv => whnf
  by_cases h2 : (addL A.boxes o.up o.name o.role A.nb).2 = 0
  rotate_left
  · have hres : addA A o = .error (addL A.boxes o.up o.name o.role A.nb).2 := by unfold addA; rw [if_neg h1, if_pos h2]
    generalize addL A.boxes o.up o.name o.role A.nb = r at *
    refine KGO ?_
    exact ⟨by rw [hres]; rfl, K2.of_none⟩
  have hres : addA A o = .ok ({ A with boxes := (addL A.boxes o.up o.name o.role A.nb).1, nb := A.nb + 1 }, A.nb) := by unfold addA; rw [if_neg h1, if_neg (fun e => e h2)]
  rw [h2]
  generalize addL A.boxes o.up o.name o.role A.nb = r at *
  refine KGO ?_
  refine Store.cellK (i := 0) (hd.v.keep0 K2) (Nat.le_of_ble_eq_true rfl) (by rfl) ⟨rfl, by simp, by simp⟩ fun w3 v3 k3 => ?_
  have hd3 := v3.at
  refine KGO ?_
  refine Store.cellK (i := 6) v3 (Nat.le_of_ble_eq_true rfl) (by rfl) ⟨rfl, by simp, by simp⟩ fun w4 v4 k4 => ?_
  have hd4 := v4.at
  refine KGO ?_
  rw [hres]
  have k34 := k3.trans' k4
  refine ⟨⟨?_, fin_of (w5 := w2) (ly := lx) (h' := { h with B := ⟨a2, _, c2⟩ }) (A' := { A with boxes := r.1, nb := A.nb + 1 }) v4 ?_ k34 fun q hq => ?_⟩, from_tr K2 (k34.mono fun q _ hq => ?_)⟩
  · rw [show A.nb + 1 - 1 = A.nb by omega]
  · have := (hd.keep K2).o.p.setB (v := ⟨a2, _, c2⟩) o2
    exact ⟨this.b, this.s, this.n, this.m, this.ml, this.mb⟩
  · unfold Hd.all Hd.bs at hq
    simp only [List.mem_append, mem_otl] at hq
    rcases hq with (((hq | hq) | hq) | hq) | hq
    · have := (o2.lt q hq).1; omega
    · have := hd.lt q (Hd.all_s hq); omega
    · have := hd.lt q (Hd.all_n hq); omega
    · have := hd.lt q (Hd.all_m hq); omega
    · have := hd.lt q (List.mem_append_right _ hq); omega
  · have e : q = b := hq
    have := hd.B
    show B ≤ q
    omega
end
end Go.Proofs.YtohhkegmbgancaaGreatDoor
