/- Helper text of this claim: lemmas and contracts that the proved statement rests on; no conditions of its own. -/
import Derived.Test.YtcdpocffoapbeaaGreatDoorRows
import Derived.Lib.LaidU8
import Derived.Test.YtcdpocffoapbeaaGreatDoorGMlO
namespace Go.Proofs.YtcdpocffoapbeaaGreatDoor
set_option linter.unusedVariables false
set_option maxHeartbeats 16000000
open Go.Shelf Go.RowKit Go.Pw Go.Vc Go.Cs Go.Lib Go.Cd Go.Mg
set_option linter.unusedVariables false
set_option maxRecDepth 100000
theorem picks2 (l : List Int) (hl : l.length ≤ 1000000) : ∃ (i j : Int) (b : Bool), (∀ (w : World) (v : Value), RowI w v l → Calls Tryz.prog 10 #[v] w fun e w' => e = .returned (.tuple #[.int .i64 i, .int .i64 j, .bool b]) ∧ Kp w w' n_) ∧
  ∀ (w : World) (v : Value), RowI w v l → Calls Tryz.prog 11 #[v] w fun e w' => e = .returned (.tuple #[.int .i64 i, .int .i64 j, .bool b]) ∧ Kp w w' n_ := by
 cases h : pickL l with
 | none => exact ⟨0, 0, false, fun w v hr => by have := zgR l hr hl; rw [h] at this; exact this, fun w v hr => by have := zhX l hr hl; rw [h] at this; exact this⟩
 | some i => exact ⟨(i : Nat), ((i + 1 : Nat) : Int), true, fun w v hr => by have := zgR l hr hl; rw [h] at this; exact this, fun w v hr => by have := zhX l hr hl; rw [h] at this; exact this⟩
section
variable {w : World}
theorem zkK {vl vd vs : Value} (l : List (Sv × Sgm)) (dead sizes : List Int) (hl : RowO w vl (fun p : Sv × Sgm => sgC p.1) l) (hx : ∀ p ∈ l, SgR w p) (hll : l.length ≤ 10000000000000) (rd : RowI w vd dead) (hdl : dead.length ≤ 17592186044416) (rs : RowI w vs sizes) (hsl : sizes.length ≤ 17592186044416) (hE : CEnv w) :
  Calls Tryz.prog 3 #[vl, vd, vs] w fun e w' => e = .returned (.bool true) ∧ Kp w w' n_ := by
 have hl0 := hl
 have rd0 := rd
 have rs0 := rs
 obtain ⟨al, cl, rfl, hra⟩ := hl
 obtain ⟨ad, cd, rfl, _⟩ := rd
 obtain ⟨as_, cs, rfl, _⟩ := rs
 refine zaa (args := [.slice al l.length cl, .slice ad dead.length cd, .slice as_ sizes.length cs]) Tryz.func3 rfl NL ?_; refine GW ?_
 refine KGO ?_
 refine CallS.of (Tryz.call8 _ _) (zlj (w := w) hE) ?_
 rintro e w1 ⟨rfl, k1⟩
 refine RT ?_
 refine KGO ?_
 refine CallS.of (Tryz.call9 _ _) (zlX (w := w1) l dead (hl0.keep k1) (fun p hp => (hx p hp).keep k1) hll (rd0.keep k1) (by omega)) ?_
 rintro e w2 ⟨⟨q, rfl, hq⟩, k2⟩
 have K2 := k1.trans0 k2
 refine RT ?_
 cases q with
 | false =>
  refine KGO ?_
  exact ⟨rfl, K2⟩
 | true =>
 obtain ⟨h5, h50, hlit⟩ := hq rfl
 by_cases h100 : 100 < sizes.length
 ·refine KGO ?_
  exact ⟨rfl, K2⟩
 have hbd : ∀ p ∈ l, Bd p.2 50 80 3000 := fun p hp => zlP (hlit p hp)
 clear hq hlit
 refine KGO ?_
 obtain ⟨i, j, b, hp1, hp2⟩ := picks2 sizes (by omega)
 refine CallS.of (Tryz.call10 _ _) (hp1 w2 _ (rs0.keep K2)) ?_
 rintro e w3 ⟨rfl, k3⟩
 have K3 := K2.trans0 k3
 refine RT ?_
 refine KGO ?_
 refine CallS.of (Tryz.call11 _ _) (hp2 w3 _ (rs0.keep K3)) ?_
 rintro e w4 ⟨rfl, k4⟩
 have K4 := K3.trans0 k4
 refine RT ?_
 have hall : ∀ p ∈ l, RdS w4 p.1 p.2 := fun p hp => (hx p hp).1.keep K4
 have hb1 : ∀ p ∈ l, Bd p.2 100000 100000 10000 := fun p hp => (hbd p hp).mono (by decide) (by decide) (by decide)
 have hb2 : ∀ p ∈ l, Bd p.2 1000000 1000000 100000 := fun p hp => (hbd p hp).mono (by decide) (by decide) (by decide)
 have hbA := zjB dead (l.map (·.2)) ⟨[], []⟩ 50 80 3000 0 0 0 (zei _ _ _) (fun s hs => by
  obtain ⟨p, hp, rfl⟩ := List.mem_map.1 hs
  exact hbd p hp)
 rw [List.length_map] at hbA
 have hA1 := hbA.t
 have hA2 := hbA.d
 rw [show (l.map (·.2)).foldl (fun a s => twoS a s dead) ⟨[], []⟩ = allS (l.map (·.2)) dead from rfl] at hA1 hA2
 clear hp1 hp2 hbA k1 k2 k3 k4 K2 K3
 have hbb : (b != b) = false := by cases b <;> rfl
 refine KGO ?_
 refine CallS.of (Tryz.call13 _ _) (zkd (w := w4) l dead (hl0.keep K4) hall hb2 (by omega) (rd0.keep K4) (by omega) (hE.keep K4)) ?_
 rintro e w5 ⟨h1, rfl, o1, k5⟩
 have K5 := K4.trans0 k5
 refine RT ?_
 refine KGO ?_
 refine CallS.of (Tryz.call14 _ _) (znS (w := w5) l dead (hl0.keep K5) (fun p hp => (hall p hp).keep k5) hb1 (by omega) (rd0.keep K5) (by omega)) ?_
 rintro e w6 ⟨h2, rfl, o2, k6⟩
 have K6 := K5.trans0 k6
 refine RT ?_
 refine KGO ?_
 refine CallS.of (Tryz.call12 _ _) (zcJ (w := w6) h1 h2 _ _ (o1.keep k6).rd o2.rd (by omega) (by omega) (by omega)) ?_
 rintro e w7 ⟨rfl, k7⟩
 rw [decide_eq_true rfl]
 have K7 := K6.trans0 k7
 refine RT ?_
 clear o1 o2 k5 k6 k7 K5 K6 hA1 hA2 hb1 hall
 have q7 := Kp.refl w7 n_
 have kd := q7.drew
 by_cases hl2 : l.length < 2
 ·refine KGO ?_
  refine Draw.held (fun u => Kp w7 u n_) (fun _ => true) (by decide +kernel) kd ?_
  refine KGO ?_
  exact ⟨rfl, K7.drew⟩
 obtain ⟨g, o, rfl, hg, hat⟩ := hra (by omega)
 have h0l : 0 < l.length := by omega
 have h1l : 1 < l.length := by omega
 have hat7 : At w7 g o (l.flatMap fun p : Sv × Sgm => sgC p.1) := zam hat K7
 have e0 : At w7 g (o + 0 * 2) (sgC l[0].1) := fun j v hv => zdj hat7 (fun _ => rfl) h0l j v hv
 have e1 : At w7 g (o + 1 * 2) (sgC l[1].1) := fun j v hv => zdj hat7 (fun _ => rfl) h1l j v hv
 have b0 := hbd l[0] (List.getElem_mem h0l)
 have b1 := hbd l[1] (List.getElem_mem h1l)
 have r0 := (hx l[0] (List.getElem_mem h0l)).1
 have r1 := (hx l[1] (List.getElem_mem h1l)).1
 have hbt := zot b0 b1 dead
 have t1 := hbt.t
 have t2 := hbt.d
 clear hat hat7
 refine KGO ?_
 refine Draw.held (fun u => Kp w7 u n_) (fun _ => true) (by decide +kernel) kd ?_
 refine KGO ?_
 refine CallS.of (Tryz.call15 _ _) (zlK (w := w7.drew) l[0].1 l[1].1 l[0].2 l[1].2 dead (r0.keep K7.drew) (r1.keep K7.drew) (sm_of b0 (by decide) (by decide) (by decide)) (sm_of b1 (by decide) (by decide) (by decide)) (rd0.keep K7.drew) (by omega) (hE.keep K7.drew)) ?_
 rintro e w8 ⟨h3, rfl, o3, k8⟩
 have J8 := kd.trans0 k8
 refine RT ?_
 refine ⟨J8, ?_⟩
 refine KGO ?_
 refine CallS.of (Tryz.call16 _ _) (zjQ (w := w8) l[0].1 l[1].1 l[0].2 l[1].2 dead (r0.keep (K7.trans0 J8)) (r1.keep (K7.trans0 J8)) (b0.mono (by decide) (by decide) (by decide)) (b1.mono (by decide) (by decide) (by decide)) (rd0.keep (K7.trans0 J8)) (by omega)) ?_
 rintro e w9 ⟨h4, rfl, o4, k9⟩
 rw [zhR] at o4
 have J9 := J8.trans0 k9
 refine RT ?_
 refine ⟨J9, ?_⟩
 refine KGO ?_
 refine CallS.of (Tryz.call12 _ _) (zcJ (w := w9) h3 h4 _ _ (o3.keep k9).rd o4.rd (by omega) (by omega) (by omega)) ?_
 rintro e w10 ⟨rfl, k10⟩
 rw [decide_eq_true rfl]
 have J10 := J9.trans0 k10
 refine RT ?_
 refine ⟨J10, ?_⟩
 refine KGO ?_
 exact ⟨rfl, K7.trans0 J10⟩
end
end Go.Proofs.YtcdpocffoapbeaaGreatDoor
namespace Go.Proofs.YtcdpocffoapbeaaGreatDoor
set_option linter.unusedVariables false
set_option maxHeartbeats 16000000
open Go.Shelf Go.RowKit Go.Pw Go.Vc Go.Cs Go.Lib
set_option maxRecDepth 100000
set_option linter.unusedVariables false
theorem zjU {P : Program} {w : World} {name : String} {g : Nat} {tS tE : TypeId} {fs : Array Field} {k : IntKind} {zs : List (List Int)} {rest : List (DataW Unit)}
  (h : VarReads P w name (.slice (zs.map fun r => .agg (r.map fun z => .lit (.int k z))) rest)) (hn : P.globalNamed name = some g) (hy : (P.globals[g]?).map (·.type) = some tS)
  (hS : P.underlying tS = some (.slice tE)) (hE : P.underlying tE = some (.struct fs)) (hf : ∀ (i : Nat) (f : Field), fs[i]? = some f → P.underlying f.type = some (.int k) ∧ f.offset = i ∧ P.cellsOf f.type = 1)
  (hc : P.cellsOf tE = fs.size) (h0 : 0 < fs.size) (hz : 0 < zs.length) : ∃ b o c, w.cell? ⟨g, 0, none⟩ = some (.slice (some ⟨b, o, none⟩) zs.length c) ∧ ∀ i, i < zs.length → At w b (o + i * fs.size) ((zs.getD i []).map fun z => Value.int k z) := by
 obtain ⟨g', t, cs, fuel, p, hg, hty, hvar, hd⟩ := h
 obtain rfl := Option.some.inj (hn.symm.trans hg)
 obtain rfl := Option.some.inj (hy.symm.trans hty)
 rcases DataW.trod_slice hS hd with ⟨_, hx⟩ | ⟨a, len, cap, el, rs, m, rfl, hcs, hx, _, hlc, _, hel, helem, hsp, _⟩
 ·cases hx
 have hx1 := congrArg Prod.fst hx
 simp only [DataW.slice.injEq] at hx1
 obtain ⟨eE, eR⟩ := hx1
 have hlen : len = zs.length := by
  have := congrArg List.length eE
  simp at this
  omega
 subst hlen
 have hrange : ∀ i (hi : i < zs.length) j v, (zs[i].map fun z => Value.int k z)[j]? = some v → w.cell? ((a.add (i * fs.size)).add j) = some v := by
  intro i hi j v hv
  have h1 := helem i hi
  rw [hc] at h1
  obtain ⟨b, hb⟩ : ∃ b, el[i]? = some b := ⟨el[i]'(by omega), List.getElem?_eq_getElem (by omega)⟩
  rw [hb] at h1
  obtain ⟨ce, hce, hte⟩ := Option.bind_eq_some_iff.1 h1
  have hb1 : b.1 = .agg (zs[i].map fun z => .lit (.int k z)) := by
   have := congrArg (·[i]?) eE
   simpa [hb, hi] using this.symm
  have hcs := ints_of_struct (p := b.2) hE hf hc (by rw [← hb1]; exact hte)
  obtain ⟨_, hl, hcc⟩ := World.cells?_some hce
  have hj : j < fs.size := by
   have := (List.getElem?_eq_some_iff.1 hv).1
   rw [← hcs, hl] at this
   exact this
  rw [hcc j hj, hcs, hv]
 obtain ⟨R, oR, sR⟩ := a
 obtain rfl : sR = none := by
  have hl0 : 0 < (zs[0].map fun z => Value.int k z).length := by
   have h1 := helem 0 hz
   rw [hc] at h1
   obtain ⟨b, hb⟩ : ∃ b, el[0]? = some b := ⟨el[0]'(by omega), List.getElem?_eq_getElem (by omega)⟩
   rw [hb] at h1
   obtain ⟨ce, hce, hte⟩ := Option.bind_eq_some_iff.1 h1
   have hb1 : b.1 = .agg (zs[0].map fun z => .lit (.int k z)) := by
    have := congrArg (·[0]?) eE
    simpa [hb, hz] using this.symm
   have hcs := ints_of_struct (p := b.2) hE hf hc (by rw [← hb1]; exact hte)
   obtain ⟨_, hl, _⟩ := World.cells?_some hce
   rw [← hcs, hl]; exact h0
  have h00 := hrange 0 hz 0 _ (List.getElem?_eq_getElem hl0)
  have : (Addr.add (Addr.add ⟨R, oR, sR⟩ (0 * fs.size)) 0) = ⟨R, oR, sR⟩ := by simp [Addr.add]
  rw [this] at h00
  exact cell_spot h00
 refine ⟨R, oR, cap, ?_, fun i hi j v hj => ?_⟩
 ·rw [World.var?_cell hg hvar 0, ← Array.getElem?_toList, hcs]
  rfl
 ·rw [List.getD_eq_getElem?_getD, List.getElem?_eq_getElem hi, Option.getD_some] at hj
  have := hrange i hi j v hj
  rw [Addr.add_lit, Addr.add_lit] at this
  exact this
def foldZ : List (List Int) := foldT.map fun x => [x.1, x.2.1, x.2.2.1, x.2.2.2]
theorem zmO : (Rows.laid_pouch_fold_spans : DataW Unit) = .slice (foldZ.map fun r => .agg (r.map fun z => .lit (.int .i32 z))) [] := by kernel_rfl
theorem zkA {W : World} (h : VarReads Tryz.prog W "pouch/fold.spans" Rows.laid_pouch_fold_spans) : FoldTab W := by
 rw [zmO] at h
 obtain ⟨b, o, c, h1, h2⟩ := zjU h (by kernel_rfl) (by kernel_rfl) Tryz.underlying195 Tryz.underlying197 (fun j f hj => by
   match j, hj with
   | 0, hj => simp at hj; subst hj; exact ⟨Tryz.underlying21, rfl, by kernel_rfl⟩
   | 1, hj => simp at hj; subst hj; exact ⟨Tryz.underlying21, rfl, by kernel_rfl⟩
   | 2, hj => simp at hj; subst hj; exact ⟨Tryz.underlying21, rfl, by kernel_rfl⟩
   | 3, hj => simp at hj; subst hj; exact ⟨Tryz.underlying21, rfl, by kernel_rfl⟩
   | j + 4, hj => simp at hj) (by kernel_rfl) (by decide) (by decide)
 refine ⟨b, o, c, h1, fun i hi => ?_⟩
 have := h2 i hi
 have e : (foldZ.getD i []).map (fun z => Value.int .i32 z) = spF (foldSp i) := by
  have : ∀ i : Fin 17, (foldZ.getD i.val []) = [(foldSp i.val).1, (foldSp i.val).2.1, (foldSp i.val).2.2.1, (foldSp i.val).2.2.2] := by decide
  have := this ⟨i, hi⟩
  rw [show foldZ.getD i [] = _ from this]; rfl
 rw [e] at this
 exact this
def cutZ : List (List Int) := cutT.map fun x => [x.1, x.2.1, x.2.2]
theorem znv : (Rows.laid_pouch_cut_spans : DataW Unit) = .slice (cutZ.map fun r => .agg (r.map fun z => .lit (.int .i64 z))) [] := by kernel_rfl
theorem zna {W : World} (h : VarReads Tryz.prog W "pouch/cut.spans" Rows.laid_pouch_cut_spans) : CutTab W := by
 rw [znv] at h
 obtain ⟨b, o, c, h1, h2⟩ := zjU h (by kernel_rfl) (by kernel_rfl) Tryz.underlying181 Tryz.underlying183 (fun j f hj => by
   match j, hj with
   | 0, hj => simp at hj; subst hj; exact ⟨Tryz.underlying3, rfl, by kernel_rfl⟩
   | 1, hj => simp at hj; subst hj; exact ⟨Tryz.underlying3, rfl, by kernel_rfl⟩
   | 2, hj => simp at hj; subst hj; exact ⟨Tryz.underlying3, rfl, by kernel_rfl⟩
   | j + 3, hj => simp at hj) (by kernel_rfl) (by decide) (by decide)
 refine ⟨b, o, c, h1, fun i hi => ?_⟩
 have := h2 i hi
 have e : (cutZ.getD i []).map (fun z => Value.int .i64 z) = spV (cutSp i) := by
  have : ∀ i : Fin 19, (cutZ.getD i.val []) = [(cutSp i.val).1, (cutSp i.val).2.1, (cutSp i.val).2.2] := by decide
  have := this ⟨i, hi⟩
  rw [show cutZ.getD i [] = _ from this]; rfl
 rw [e] at this
 exact this
end Go.Proofs.YtcdpocffoapbeaaGreatDoor
