/- Helper lemmas that the proved statement rests on; no conditions of their own. -/
import Derived.Test.YtennokckmjcefaaGreatDoorCards
import Derived.Test.YtennokckmjcefaaGreatDoorRows
import Derived.Lib.LaidU8
import Derived.Test.YtennokckmjcefaaGreatDoorGNe1
set_option linter.unusedVariables false
set_option maxRecDepth 100000
namespace Go.Proofs.YtennokckmjcefaaGreatDoor
open Go.Shelf Go.RowKit Go.Pw Go.Vc Go.Cs Go.Lib Go.Cd Go.Mg
structure Am where
 op : Int
 doc : Int
 t0 : List UInt8
 t1 : List UInt8
 t2 : List UInt8
 t3 : List UInt8
 t4 : List UInt8
 t5 : List UInt8
 field : Int
 word : List UInt8
 words : List (List UInt8)
deriving Inhabited
def Am.tx (a : Am) : List (List UInt8) := [a.t0, a.t1, a.t2, a.t3, a.t4, a.t5]
def actC (p : Sl × Am) : List Value := [.int .i64 p.2.op, .int .i64 p.2.doc, .string (str p.2.t0), .string (str p.2.t1), .string (str p.2.t2), .string (str p.2.t3), .string (str p.2.t4), .string (str p.2.t5), .int .i64 p.2.field, .string (str p.2.word), .slice p.1.a p.1.n p.1.c]
structure RowA (w : World) (v : Value) (lx : List (Sl × Am)) : Prop where
 row : RowO w v actC lx
 ws : ∀ p ∈ lx, RowO w p.1.v txC p.2.words
 cp : ∀ p ∈ lx, CapK p.1.v
theorem RowA.keep {w w' : World} {v : Value} {lx : List (Sl × Am)} (h : RowA w v lx) (k : Kp w w' n_) : RowA w' v lx := ⟨h.row.keep k, fun p hp => (h.ws p hp).keep k, h.cp⟩
def sumT (l : List (List UInt8)) : Nat := (l.map List.length).sum
def wA (a : Am) : Nat := sumT a.tx + a.word.length + 10 * a.words.length + sumT a.words
section
end
end Go.Proofs.YtennokckmjcefaaGreatDoor
namespace Go.Proofs.YtennokckmjcefaaGreatDoor
open Go.Shelf Go.RowKit Go.Pw Go.Vc Go.Cs Go.Lib Go.Mg
instance : Inhabited Ent := ⟨⟨0, 0, []⟩⟩
instance : Inhabited (Sv × Sgm) := ⟨(default, ⟨[], []⟩)⟩
section
end
end Go.Proofs.YtennokckmjcefaaGreatDoor
namespace Go.Proofs.YtennokckmjcefaaGreatDoor
open Go.Shelf Go.RowKit Go.Pw Go.Vc Go.Cs Go.Lib Go.Mg Go.ChangeShapes Go.WideShapes Go.ChangeAt
section
end
section
variable {W : World}
instance : Inhabited (Sl × Am) := ⟨(⟨none, 0, 0⟩, default)⟩
end
end Go.Proofs.YtennokckmjcefaaGreatDoor
namespace Go.Proofs.YtennokckmjcefaaGreatDoor
open Go.Shelf Go.RowKit Go.Pw Go.Vc Go.Cs Go.Lib
theorem zjH {P : Program} {w : World} {name : String} {g : Nat} {tS tE : TypeId} {fs : Array Field} {k : IntKind} {zs : List (List Int)} {rest : List (DataW Unit)}
  (h : VarReads P w name (.slice (zs.map fun r => .agg (r.map fun z => .lit (.int k z))) rest)) (hn : P.globalNamed name = some g) (hy : (P.globals[g]?).map (·.type) = some tS)
  (hS : P.underlying tS = some (.slice tE)) (hE : P.underlying tE = some (.struct fs)) (hf : ∀ (i : Nat) (f : Field), fs[i]? = some f → P.underlying f.type = some (.int k) ∧ f.offset = i ∧ P.cellsOf f.type = 1)
  (hc : P.cellsOf tE = fs.size) (h0 : 0 < fs.size) (hz : 0 < zs.length) : ∃ b o c, w.cell? ⟨g, 0, none⟩ = some (.slice (some ⟨b, o, none⟩) zs.length c) ∧ ∀ i, i < zs.length → At w b (o + i * fs.size) ((zs.getD i []).map fun z => Value.int k z) := by
 obtain ⟨g', t, cs, fuel, p, hg, hty, hvar, hd⟩ := h
 obtain rfl := Option.some.inj (hn.symm.trans hg)
 obtain rfl := Option.some.inj (hy.symm.trans hty)
 rcases DataW.trod_slice hS hd with ⟨_, hx⟩ | ⟨a, len, cap, el, rs, m, rfl, hcs, hx, _, hlc, _, hel, helem, hsp, _⟩
 ·cases hx
 have hx1 := congrArg Prod.fst hx
 simp only [DataW.slice.injEq] at hx1
 obtain ⟨eE, eR⟩ := hx1
 have hlen : len = zs.length := by
  have := congrArg List.length eE
  simp at this
  omega
 subst hlen
 have hrange : ∀ i (hi : i < zs.length) j v, (zs[i].map fun z => Value.int k z)[j]? = some v → w.cell? ((a.add (i * fs.size)).add j) = some v := by
  intro i hi j v hv
  have h1 := helem i hi
  rw [hc] at h1
  obtain ⟨b, hb⟩ : ∃ b, el[i]? = some b := ⟨el[i]'(by omega), List.getElem?_eq_getElem (by omega)⟩
  rw [hb] at h1
  obtain ⟨ce, hce, hte⟩ := Option.bind_eq_some_iff.1 h1
  have hb1 : b.1 = .agg (zs[i].map fun z => .lit (.int k z)) := by
   have := congrArg (·[i]?) eE
   simpa [hb, hi] using this.symm
  have hcs := ints_of_struct (p := b.2) hE hf hc (by rw [← hb1]; exact hte)
  obtain ⟨_, hl, hcc⟩ := World.cells?_some hce
  have hj : j < fs.size := by
   have := (List.getElem?_eq_some_iff.1 hv).1
   rw [← hcs, hl] at this
   exact this
  rw [hcc j hj, hcs, hv]
 obtain ⟨R, oR, sR⟩ := a
 obtain rfl : sR = none := by
  have hl0 : 0 < (zs[0].map fun z => Value.int k z).length := by
   have h1 := helem 0 hz
   rw [hc] at h1
   obtain ⟨b, hb⟩ : ∃ b, el[0]? = some b := ⟨el[0]'(by omega), List.getElem?_eq_getElem (by omega)⟩
   rw [hb] at h1
   obtain ⟨ce, hce, hte⟩ := Option.bind_eq_some_iff.1 h1
   have hb1 : b.1 = .agg (zs[0].map fun z => .lit (.int k z)) := by
    have := congrArg (·[0]?) eE
    simpa [hb, hz] using this.symm
   have hcs := ints_of_struct (p := b.2) hE hf hc (by rw [← hb1]; exact hte)
   obtain ⟨_, hl, _⟩ := World.cells?_some hce
   rw [← hcs, hl]; exact h0
  have h00 := hrange 0 hz 0 _ (List.getElem?_eq_getElem hl0)
  have : (Addr.add (Addr.add ⟨R, oR, sR⟩ (0 * fs.size)) 0) = ⟨R, oR, sR⟩ := by simp [Addr.add]
  rw [this] at h00
  exact cell_spot h00
 refine ⟨R, oR, cap, ?_, fun i hi j v hj => ?_⟩
 ·rw [World.var?_cell hg hvar 0, ← Array.getElem?_toList, hcs]
  rfl
 ·rw [List.getD_eq_getElem?_getD, List.getElem?_eq_getElem hi, Option.getD_some] at hj
  have := hrange i hi j v hj
  rw [Addr.add_lit, Addr.add_lit] at this
  exact this
def foldZ : List (List Int) := foldT.map fun x => [x.1, x.2.1, x.2.2.1, x.2.2.2]
theorem zmd : (Rows.laid_pouch_fold_spans : DataW Unit) = .slice (foldZ.map fun r => .agg (r.map fun z => .lit (.int .i32 z))) [] := by kernel_rfl
theorem zkY {W : World} (h : VarReads Tryz.prog W "pouch/fold.spans" Rows.laid_pouch_fold_spans) : FoldTab W := by
 rw [zmd] at h
 obtain ⟨b, o, c, h1, h2⟩ := zjH h (by kernel_rfl) (by kernel_rfl) Tryz.underlying254 Tryz.underlying256 (fun j f hj => by
   match j, hj with
   | 0, hj => simp at hj; subst hj; exact ⟨Tryz.underlying21, rfl, by kernel_rfl⟩
   | 1, hj => simp at hj; subst hj; exact ⟨Tryz.underlying21, rfl, by kernel_rfl⟩
   | 2, hj => simp at hj; subst hj; exact ⟨Tryz.underlying21, rfl, by kernel_rfl⟩
   | 3, hj => simp at hj; subst hj; exact ⟨Tryz.underlying21, rfl, by kernel_rfl⟩
   | j + 4, hj => simp at hj) (by kernel_rfl) (by decide) (by decide)
 refine ⟨b, o, c, h1, fun i hi => ?_⟩
 have := h2 i hi
 have e : (foldZ.getD i []).map (fun z => Value.int .i32 z) = spF (foldSp i) := by
  have : ∀ i : Fin 17, (foldZ.getD i.val []) = [(foldSp i.val).1, (foldSp i.val).2.1, (foldSp i.val).2.2.1, (foldSp i.val).2.2.2] := by decide
  have := this ⟨i, hi⟩
  rw [show foldZ.getD i [] = _ from this]; rfl
 rw [e] at this
 exact this
def cutZ : List (List Int) := cutT.map fun x => [x.1, x.2.1, x.2.2]
theorem zoj : (Rows.laid_pouch_cut_spans : DataW Unit) = .slice (cutZ.map fun r => .agg (r.map fun z => .lit (.int .i64 z))) [] := by kernel_rfl
theorem zlM {W : World} (h : VarReads Tryz.prog W "pouch/cut.spans" Rows.laid_pouch_cut_spans) : CutTab W := by
 rw [zoj] at h
 obtain ⟨b, o, c, h1, h2⟩ := zjH h (by kernel_rfl) (by kernel_rfl) Tryz.underlying227 Tryz.underlying229 (fun j f hj => by
   match j, hj with
   | 0, hj => simp at hj; subst hj; exact ⟨Tryz.underlying3, rfl, by kernel_rfl⟩
   | 1, hj => simp at hj; subst hj; exact ⟨Tryz.underlying3, rfl, by kernel_rfl⟩
   | 2, hj => simp at hj; subst hj; exact ⟨Tryz.underlying3, rfl, by kernel_rfl⟩
   | j + 3, hj => simp at hj) (by kernel_rfl) (by decide) (by decide)
 refine ⟨b, o, c, h1, fun i hi => ?_⟩
 have := h2 i hi
 have e : (cutZ.getD i []).map (fun z => Value.int .i64 z) = spV (cutSp i) := by
  have : ∀ i : Fin 19, (cutZ.getD i.val []) = [(cutSp i.val).1, (cutSp i.val).2.1, (cutSp i.val).2.2] := by decide
  have := this ⟨i, hi⟩
  rw [show cutZ.getD i [] = _ from this]; rfl
 rw [e] at this
 exact this
end Go.Proofs.YtennokckmjcefaaGreatDoor
