/- Helper text of this claim: Bq8, TabF, Bl7, Bl8, Tabs2: lemmas and contracts that the proved statement rests on; no conditions of its own. -/
import Derived.Test.YtdghfagipheabaaGreatDoorBq7
import Derived.Test.YtdghfagipheabaaGreatDoorGBw14
import Derived.Test.YtdghfagipheabaaGreatDoorGOpn
import Derived.Test.YtdghfagipheabaaGreatDoorGCw3
import Derived.Test.YtdghfagipheabaaGreatDoorRows
import Derived.Lib.LaidU8
import Derived.Test.YtdghfagipheabaaGreatDoorGShf
import Derived.PinnedBridge
-- alias Tryz
namespace Go.Proofs.YtdghfagipheabaaGreatDoor
open Go.RowKit Go.Pw Go.Vc Go.Cs Go.Lib Go.ChangeShapes Go.WideShapes Go.ChangeAt
set_option linter.unusedVariables false
set_option maxRecDepth 100000
theorem capok_of {W : World} {H : Type} {enc : TypeId × Value → H} {v : Value} {d : DataW H} {ps : List MemPlace} (hs : v.cells.toList = [v]) (ht : DataW.Trod enc Tryz.prog W 0 (fun _ => true) true 22 v d ps) : CapOk v := by
  obtain ⟨fuel, hf⟩ := ht
  rcases DataW.trod_slice Tryz.underlying22 hf with ⟨hcs, _⟩ | ⟨x0, len, cap, _, _, _, _, hcs, _, _, hl, _⟩
  · rw [hs] at hcs
    intro a n c e
    rw [e] at hcs
    simp only [List.cons.injEq, Value.slice.injEq] at hcs
    obtain ⟨⟨rfl, rfl, rfl⟩, _⟩ := hcs
    exact ⟨Nat.le_refl _, fun _ => rfl⟩
  · rw [hs] at hcs
    intro a n c e
    rw [e] at hcs
    simp only [List.cons.injEq, Value.slice.injEq] at hcs
    obtain ⟨⟨rfl, rfl, rfl⟩, _⟩ := hcs
    exact ⟨hl, fun h => by cases h⟩
section
variable {w w' : World}
set_option maxHeartbeats 2000000 in
theorem lw_twin {v : Value} (l : List Bx) (x : ActB) (hv : RowB w v l) (hcp : CapOk v) (hl : l.length ≤ 1000) (hs : SmallB l) (hn : x.Name.length ≤ 1000000) :
    Calls Tryz.prog 7 #[v, .agg (actCells x).toArray] w fun e w' => ∃ v', e = .returned (.tuple #[v', .int .i64 ((doneL l x).2 : Nat)]) ∧ OwnB w' w.heap.size v' (doneL l x).1 ∧ Keeps w w' none_ := by
  have hv0 := hv
  obtain ⟨a, cap, rfl, hr⟩ := hv
  refine calls_of_vc (args := [.slice a l.length cap, .agg #[.int .i64 x.Do, .int .i64 x.Id, .int .i64 x.Up, .string (str x.Name), .string (str x.Role)]]) Tryz.func7 rfl (Nat.le_of_ble_eq_true rfl) ?_; refine Sat.go hmix ?_; conv => whnf
  rw [show w.alloc (.cells #[.int .i64 x.Do, .int .i64 x.Id, .int .i64 x.Up, .string (str x.Name), .string (str x.Role)] 24) = w.alloc (.cells (List.toArray [.int .i64 x.Do, .int .i64 x.Id, .int .i64 x.Up, .string (str x.Name), .string (str x.Role)]) 24) from rfl]
  have a_b0 := at_fresh w 24 [.int .i64 x.Do, .int .i64 x.Id, .int .i64 x.Up, .string (str x.Name), .string (str x.Role)]
  have k_w0 : Keeps w (w.alloc (.cells (List.toArray [.int .i64 x.Do, .int .i64 x.Id, .int .i64 x.Up, .string (str x.Name), .string (str x.Role)]) 24)) none_ := (Keeps.refl _ _).alloc _
  have z_w0 : (w.alloc (.cells (List.toArray [.int .i64 x.Do, .int .i64 x.Id, .int .i64 x.Up, .string (str x.Name), .string (str x.Role)]) 24)).heap.size = w.heap.size + 1 := by simp
  generalize w.alloc (.cells (List.toArray [.int .i64 x.Do, .int .i64 x.Id, .int .i64 x.Up, .string (str x.Name), .string (str x.Role)]) 24) = w0 at *
  generalize hs_b0 : w.heap.size = b0 at *
  have hv1 := hv0.keep k_w0
  refine KGO ?_
  rw [and3]
  by_cases h0 : x.Do % 4 = 0
  · refine KGO ?_
    rw [doneL, if_pos h0]
    refine CallS.of (Tryz.call18 _ _) (rq_Add (w := w0) l x.Up x.Name x.Role x.Id hv1 hcp hl hs hn) ?_
    rintro e w2 ⟨v1, rfl, o1, k1⟩
    obtain ⟨a1, c1, rfl⟩ := own_shape o1
    refine ⟨_, rfl, ?_⟩; (first | refine Then.go hmix ?_ | refine Sat.go hmix ?_ | refine ResK.go ?_ | skip); conv => whnf
    refine KGO ?_
    exact ⟨_, rfl, own_base o1 (by omega), k_w0.trans0 k1⟩
  by_cases h1 : x.Do % 4 = 1
  · refine KGO ?_
    rw [doneL, if_neg h0, if_pos h1]
    refine CallS.of (Tryz.call19 _ _) (rq_Name (w := w0) l x.Id x.Name hv1 hl hs hn) ?_
    rintro e w2 ⟨v1, rfl, o1, k1⟩
    obtain ⟨a1, c1, rfl⟩ := own_shape o1
    refine ⟨_, rfl, ?_⟩; (first | refine Then.go hmix ?_ | refine Sat.go hmix ?_ | refine ResK.go ?_ | skip); conv => whnf
    refine KGO ?_
    exact ⟨_, rfl, own_base o1 (by omega), k_w0.trans0 k1⟩
  by_cases h2 : x.Do % 4 = 2
  · refine KGO ?_
    rw [doneL, if_neg h0, if_neg h1, if_pos h2]
    refine CallS.of (Tryz.call20 _ _) (rq_Move (w := w0) l x.Id x.Up hv1 hl hs) ?_
    rintro e w2 ⟨v1, rfl, o1, k1⟩
    obtain ⟨a1, c1, rfl⟩ := own_shape o1
    refine ⟨_, rfl, ?_⟩; (first | refine Then.go hmix ?_ | refine Sat.go hmix ?_ | refine ResK.go ?_ | skip); conv => whnf
    refine KGO ?_
    exact ⟨_, rfl, own_base o1 (by omega), k_w0.trans0 k1⟩
  refine KGO ?_
  rw [doneL, if_neg h0, if_neg h1, if_neg h2]
  refine CallS.of (Tryz.call21 _ _) (rq_Drop (w := w0) l x.Id hv1 hcp hl hs) ?_
  rintro e w2 ⟨v1, rfl, o1, k1⟩
  obtain ⟨a1, c1, rfl⟩ := own_shape o1
  refine ⟨_, rfl, ?_⟩; (first | refine Then.go hmix ?_ | refine Sat.go hmix ?_ | refine ResK.go ?_ | skip); conv => whnf
  refine KGO ?_
  exact ⟨_, rfl, own_base o1 (by omega), k_w0.trans0 k1⟩
theorem done_len (l : List Bx) (x : ActB) : (doneL l x).1.length ≤ l.length + 1 := by
  unfold doneL
  split
  · rw [add_res]; split
    · rw [ins_len]; exact Nat.le_refl _
    · simp
  split
  · rw [name_res]; split
    · unfold setName; rw [List.length_map]; omega
    · simp
  split
  · rw [move_res]; split
    · unfold setUp; rw [List.length_map]; omega
    · simp
  · rw [drop_res]; split
    · have : (delL l x.Id).length ≤ l.length := List.length_filter_le _ _
      omega
    · simp
set_option maxHeartbeats 4000000 in
theorem lw_Changes41 {v : Value} (l : List Bx) (x : ActB) (hv : RowB w v l) (hcp : CapOk v) (hlen : l.length ≤ 9223372036854775807) (hE : BEnv w) :
    Calls Tryz.prog 3 #[v, .agg (actCells x).toArray] w fun e w' => e = .returned (.bool true) ∧ Keeps w w' none_ := by
  have hv0 := hv
  obtain ⟨a, cap, rfl, hr⟩ := hv
  refine calls_of_vc (args := [.slice a l.length cap, .agg #[.int .i64 x.Do, .int .i64 x.Id, .int .i64 x.Up, .string (str x.Name), .string (str x.Role)]]) Tryz.func3 rfl (Nat.le_of_ble_eq_true rfl) ?_; refine Sat.go hmix ?_; conv => whnf
  rw [show w.alloc (.cells #[.int .i64 x.Do, .int .i64 x.Id, .int .i64 x.Up, .string (str x.Name), .string (str x.Role)] 24) = w.alloc (.cells (List.toArray [.int .i64 x.Do, .int .i64 x.Id, .int .i64 x.Up, .string (str x.Name), .string (str x.Role)]) 24) from rfl]
  have a_b0 := at_fresh w 24 [.int .i64 x.Do, .int .i64 x.Id, .int .i64 x.Up, .string (str x.Name), .string (str x.Role)]
  have k_w0 : Keeps w (w.alloc (.cells (List.toArray [.int .i64 x.Do, .int .i64 x.Id, .int .i64 x.Up, .string (str x.Name), .string (str x.Role)]) 24)) none_ := (Keeps.refl _ _).alloc _
  have z_w0 : (w.alloc (.cells (List.toArray [.int .i64 x.Do, .int .i64 x.Id, .int .i64 x.Up, .string (str x.Name), .string (str x.Role)]) 24)).heap.size = w.heap.size + 1 := by simp
  generalize w.alloc (.cells (List.toArray [.int .i64 x.Do, .int .i64 x.Id, .int .i64 x.Up, .string (str x.Name), .string (str x.Role)]) 24) = w0 at *
  generalize hs_b0 : w.heap.size = b0 at *
  refine CallS.of (Tryz.call4 _ _) (lw_small (w := w0) (hE.keep k_w0)) ?_
  rintro e w1 ⟨rfl, j1⟩
  have K1 := k_w0.trans0 j1
  refine ⟨_, rfl, ?_⟩; (first | refine Then.go hmix ?_ | refine Sat.go hmix ?_ | refine ResK.go ?_ | skip); conv => whnf
  refine KGO ?_
  refine CallS.of (Tryz.call5 _ _) (lw_few (w := w1) l (hv0.keep K1) hlen) ?_
  rintro e w2 ⟨⟨q, rfl, hq⟩, j2⟩
  have K2 := K1.trans0 j2
  have J2 := j1.trans0 j2
  refine ⟨_, rfl, ?_⟩; (first | refine Then.go hmix ?_ | refine Sat.go hmix ?_ | refine ResK.go ?_ | skip); conv => whnf
  cases q with
  | false =>
    refine KGO ?_
    exact ⟨rfl, K2⟩
  | true =>
    obtain ⟨hs, h70⟩ := small_few (hq rfl)
    have hsz := str_size x.Name
    have hsz2 := str_size x.Role
    have c2 := at_mono a_b0 J2
    by_cases q1 : 200 < x.Name.length
    · refine KGO ?_
      exact ⟨rfl, K2⟩
    by_cases q2 : 200 < x.Role.length
    · refine KGO ?_
      exact ⟨rfl, K2⟩
    refine KGO ?_
    refine CallS.of (Tryz.call6 _ _) (lw_done (w := w2) l x (hv0.keep K2) (by omega) hs (by omega) (by omega) (hE.keep K2)) ?_
    rintro e w3 ⟨v3, rfl, o3, j3⟩
    have K3 := K2.trans0 j3
    have J3 := J2.trans0 j3
    obtain ⟨a3, c3, rfl⟩ := own_shape o3
    refine ⟨_, rfl, ?_⟩; (first | refine Then.go hmix ?_ | refine Sat.go hmix ?_ | refine ResK.go ?_ | skip); conv => whnf
    refine KGO ?_
    refine CallS.of (Tryz.call7 _ _) (lw_twin (w := w3) l x (hv0.keep K3) hcp (by omega) hs (by omega)) ?_
    rintro e w4 ⟨v4, rfl, o4, j4⟩
    have K4 := K3.trans0 j4
    obtain ⟨a4, c4, rfl⟩ := own_shape o4
    have hdl := done_len l x
    refine ⟨_, rfl, ?_⟩; (first | refine Then.go hmix ?_ | refine Sat.go hmix ?_ | refine ResK.go ?_ | skip); conv => whnf
    refine KGO ?_
    refine CallS.of (Tryz.call8 _ _) (rf_Same (w := w4) (doneL l x).1 (doneL l x).1 (own_rowO (own_keep0 o3 j4)) (own_rowO o4) (by omega)) ?_
    rintro e w5 ⟨rfl, j5⟩
    rw [decide_eq_true rfl]
    refine ⟨_, rfl, ?_⟩; (first | refine Then.go hmix ?_ | refine Sat.go hmix ?_ | refine ResK.go ?_ | skip); conv => whnf
    refine KGO ?_
    exact ⟨rfl, K4.trans0 j5⟩
end
end Go.Proofs.YtdghfagipheabaaGreatDoor

-- alias Tryz
namespace Go.Proofs.YtdghfagipheabaaGreatDoor
open Go.Shelf Go.RowKit Go.Pw Go.Vc Go.Cs Go.Lib
set_option maxRecDepth 100000
set_option linter.unusedVariables false
/-- A variable that is a slice of structs of integers, laid: its cells. -/
theorem rows_tab {P : Program} {w : World} {name : String} {g : Nat} {tS tE : TypeId} {fs : Array Field} {k : IntKind} {zs : List (List Int)} {rest : List (DataW Unit)}
    (h : VarReads P w name (.slice (zs.map fun r => .agg (r.map fun z => .lit (.int k z))) rest)) (hn : P.globalNamed name = some g) (hy : (P.globals[g]?).map (·.type) = some tS)
    (hS : P.underlying tS = some (.slice tE)) (hE : P.underlying tE = some (.struct fs)) (hf : ∀ (i : Nat) (f : Field), fs[i]? = some f → P.underlying f.type = some (.int k) ∧ f.offset = i ∧ P.cellsOf f.type = 1)
    (hc : P.cellsOf tE = fs.size) (h0 : 0 < fs.size) (hz : 0 < zs.length) : ∃ b o c, w.cell? ⟨g, 0, none⟩ = some (.slice (some ⟨b, o, none⟩) zs.length c) ∧ ∀ i, i < zs.length → At w b (o + i * fs.size) ((zs.getD i []).map fun z => Value.int k z) := by
  obtain ⟨g', t, cs, fuel, p, hg, hty, hvar, hd⟩ := h
  obtain rfl := Option.some.inj (hn.symm.trans hg)
  obtain rfl := Option.some.inj (hy.symm.trans hty)
  rcases DataW.trod_slice hS hd with ⟨_, hx⟩ | ⟨a, len, cap, el, rs, m, rfl, hcs, hx, _, hlc, _, hel, helem, hsp, _⟩
  · cases hx
  have hx1 := congrArg Prod.fst hx
  simp only [DataW.slice.injEq] at hx1
  obtain ⟨eE, eR⟩ := hx1
  have hlen : len = zs.length := by
    have := congrArg List.length eE
    simp at this
    omega
  subst hlen
  have hrange : ∀ i (hi : i < zs.length) j v, (zs[i].map fun z => Value.int k z)[j]? = some v → w.cell? ((a.add (i * fs.size)).add j) = some v := by
    intro i hi j v hv
    have h1 := helem i hi
    rw [hc] at h1
    obtain ⟨b, hb⟩ : ∃ b, el[i]? = some b := ⟨el[i]'(by omega), List.getElem?_eq_getElem (by omega)⟩
    rw [hb] at h1
    obtain ⟨ce, hce, hte⟩ := Option.bind_eq_some_iff.1 h1
    have hb1 : b.1 = .agg (zs[i].map fun z => .lit (.int k z)) := by
      have := congrArg (·[i]?) eE
      simpa [hb, hi] using this.symm
    have hcs := ints_of_struct (p := b.2) hE hf hc (by rw [← hb1]; exact hte)
    obtain ⟨_, hl, hcc⟩ := World.cells?_some hce
    have hj : j < fs.size := by
      have := (List.getElem?_eq_some_iff.1 hv).1
      rw [← hcs, hl] at this
      exact this
    rw [hcc j hj, hcs, hv]
  obtain ⟨R, oR, sR⟩ := a
  obtain rfl : sR = none := by
    have hl0 : 0 < (zs[0].map fun z => Value.int k z).length := by
      have h1 := helem 0 hz
      rw [hc] at h1
      obtain ⟨b, hb⟩ : ∃ b, el[0]? = some b := ⟨el[0]'(by omega), List.getElem?_eq_getElem (by omega)⟩
      rw [hb] at h1
      obtain ⟨ce, hce, hte⟩ := Option.bind_eq_some_iff.1 h1
      have hb1 : b.1 = .agg (zs[0].map fun z => .lit (.int k z)) := by
        have := congrArg (·[0]?) eE
        simpa [hb, hz] using this.symm
      have hcs := ints_of_struct (p := b.2) hE hf hc (by rw [← hb1]; exact hte)
      obtain ⟨_, hl, _⟩ := World.cells?_some hce
      rw [← hcs, hl]; exact h0
    have h00 := hrange 0 hz 0 _ (List.getElem?_eq_getElem hl0)
    have : (Addr.add (Addr.add ⟨R, oR, sR⟩ (0 * fs.size)) 0) = ⟨R, oR, sR⟩ := by simp [Addr.add]
    rw [this] at h00
    exact cell_spot h00
  refine ⟨R, oR, cap, ?_, fun i hi j v hj => ?_⟩
  · rw [World.var?_cell hg hvar 0, ← Array.getElem?_toList, hcs]
    rfl
  · rw [List.getD_eq_getElem?_getD, List.getElem?_eq_getElem hi, Option.getD_some] at hj
    have := hrange i hi j v hj
    rw [Addr.add_lit, Addr.add_lit] at this
    exact this
def foldZ : List (List Int) := foldT.map fun x => [x.1, x.2.1, x.2.2.1, x.2.2.2]
theorem fold_laid : (Rows.laid_pouch_fold_spans : DataW Unit) = .slice (foldZ.map fun r => .agg (r.map fun z => .lit (.int .i32 z))) [] := by kernel_rfl
theorem fold_reads {W : World} (h : VarReads Tryz.prog W "pouch/fold.spans" Rows.laid_pouch_fold_spans) : FoldTab W := by
  rw [fold_laid] at h
  obtain ⟨b, o, c, h1, h2⟩ := rows_tab h (by kernel_rfl) (by kernel_rfl) Tryz.underlying89 Tryz.underlying91 (fun j f hj => by
      match j, hj with
      | 0, hj => simp at hj; subst hj; exact ⟨Tryz.underlying21, rfl, by kernel_rfl⟩
      | 1, hj => simp at hj; subst hj; exact ⟨Tryz.underlying21, rfl, by kernel_rfl⟩
      | 2, hj => simp at hj; subst hj; exact ⟨Tryz.underlying21, rfl, by kernel_rfl⟩
      | 3, hj => simp at hj; subst hj; exact ⟨Tryz.underlying21, rfl, by kernel_rfl⟩
      | j + 4, hj => simp at hj) (by kernel_rfl) (by decide) (by decide)
  refine ⟨b, o, c, h1, fun i hi => ?_⟩
  have := h2 i hi
  have e : (foldZ.getD i []).map (fun z => Value.int .i32 z) = spF (foldSp i) := by
    have : ∀ i : Fin 17, (foldZ.getD i.val []) = [(foldSp i.val).1, (foldSp i.val).2.1, (foldSp i.val).2.2.1, (foldSp i.val).2.2.2] := by decide
    have := this ⟨i, hi⟩
    rw [show foldZ.getD i [] = _ from this]; rfl
  rw [e] at this
  exact this
end Go.Proofs.YtdghfagipheabaaGreatDoor

-- alias Tryz
namespace Go.Proofs.YtdghfagipheabaaGreatDoor
open Go.Shelf Go.RowKit Go.Pw Go.Vc Go.Cs Go.Lib
set_option maxRecDepth 100000
set_option linter.unusedVariables false
/-- A variable that is a slice of strings, laid: its cells. -/
theorem texts_tab {P : Program} {w : World} {name : String} {g : Nat} {tS tE : TypeId} {zs : List (List UInt8)} {rest : List (DataW Unit)}
    (h : VarReads P w name (.slice (zs.map fun z => .lit (.string z)) rest)) (hn : P.globalNamed name = some g) (hy : (P.globals[g]?).map (·.type) = some tS)
    (hS : P.underlying tS = some (.slice tE)) (hE : P.underlying tE = some .string)
    (hc : P.cellsOf tE = 1) (hz : 0 < zs.length) : ∃ b o c, w.cell? ⟨g, 0, none⟩ = some (.slice (some ⟨b, o, none⟩) zs.length c) ∧ b < w.heap.size ∧ At w b o (zs.map sv) := by
  obtain ⟨g', t, cs, fuel, p, hg, hty, hvar, hd⟩ := h
  obtain rfl := Option.some.inj (hn.symm.trans hg)
  obtain rfl := Option.some.inj (hy.symm.trans hty)
  rcases DataW.trod_slice hS hd with ⟨_, hx⟩ | ⟨a, len, cap, el, rs, m, rfl, hcs, hx, _, hlc, _, hel, helem, hsp, _⟩
  · cases hx
  have hx1 := congrArg Prod.fst hx
  simp only [DataW.slice.injEq] at hx1
  obtain ⟨eE, eR⟩ := hx1
  have hlen : len = zs.length := by
    have := congrArg List.length eE
    simp at this
    omega
  subst hlen
  have hrange : ∀ i (hi : i < zs.length), w.cell? (a.add i) = some (sv zs[i]) := by
    intro i hi
    have h1 := helem i hi
    rw [hc, Nat.mul_one] at h1
    obtain ⟨b, hb⟩ : ∃ b, el[i]? = some b := ⟨el[i]'(by omega), List.getElem?_eq_getElem (by omega)⟩
    rw [hb] at h1
    obtain ⟨ce, hce, hte⟩ := Option.bind_eq_some_iff.1 h1
    have hb1 : b.1 = .lit (.string zs[i]) := by
      have := congrArg (·[i]?) eE
      simpa [hb, hi] using this.symm
    obtain ⟨s, e, gg, _⟩ := DataW.trod_string hE hte
    have hs : s.data.toList = zs[i] := by
      have := congrArg Prod.fst gg
      rw [hb1] at this
      first | (simpa using this.symm) | (simpa using this)
    obtain ⟨_, hl, hcc⟩ := World.cells?_some hce
    have := hcc 0 (by omega)
    rw [e] at this
    have e0 : (a.add i).add 0 = a.add i := by simp [Addr.add]
    rw [e0] at this
    rw [this, ← hs]; rfl
  obtain ⟨R, oR, sR⟩ := a
  obtain rfl : sR = none := by
    have h00 := hrange 0 hz
    have : (Addr.add ⟨R, oR, sR⟩ 0) = ⟨R, oR, sR⟩ := by simp [Addr.add]
    rw [this] at h00
    exact cell_spot h00
  refine ⟨R, oR, cap, ?_, ?_, fun i v hi => ?_⟩
  · rw [World.var?_cell hg hvar 0, ← Array.getElem?_toList, hcs]
    rfl
  · exact cell_lt (hrange 0 hz)
  · rw [List.getElem?_map] at hi
    obtain ⟨x, hx, rfl⟩ := Option.map_eq_some_iff.1 hi
    obtain ⟨hi2, rfl⟩ := List.getElem?_eq_some_iff.1 hx
    have := hrange i hi2
    rw [Addr.add_lit] at this
    exact this
theorem roles_laid : (Rows.laid_pouch_box_roles : DataW Unit) = .slice (rolesL.map fun z => .lit (.string z)) [] := by kernel_rfl
theorem roles_reads {W : World} (h : VarReads Tryz.prog W "pouch/box.roles" Rows.laid_pouch_box_roles) : RolesTab W := by
  rw [roles_laid] at h
  exact texts_tab h (by kernel_rfl) (by kernel_rfl) Tryz.underlying44 Tryz.underlying9 (by kernel_rfl) (by decide)
end Go.Proofs.YtdghfagipheabaaGreatDoor

-- alias Tryz
namespace Go.Proofs.YtdghfagipheabaaGreatDoor
open Go.RowKit Go.Pw Go.Vc Go.Cs Go.Lib
set_option linter.unusedVariables false
set_option maxRecDepth 100000
instance : Inhabited Bx := ⟨bx0⟩
instance : Inhabited ActB := ⟨⟨0, 0, 0, [], []⟩⟩
theorem opens_box {W : World} : Opens Tryz.prog W 39 boxCells (fun _ => True) := by
  refine @Opens.imp _ _ _ _ _ (fun y : Int × Int × ByteArray × ByteArray × Unit => (fun z : Int => [Value.int .i64 z]) y.1 ++ (fun y : Int × ByteArray × ByteArray × Unit => (fun z : Int => [Value.int .i64 z]) y.1 ++ (fun y : ByteArray × ByteArray × Unit => (fun z : ByteArray => [Value.string z]) y.1 ++ (fun y : ByteArray × Unit => (fun z : ByteArray => [Value.string z]) y.1 ++ (fun _ : Unit => ([] : List Value)) y.2) y.2) y.2) y.2) (fun y : Int × Int × ByteArray × ByteArray × Unit => (fun z : Int => -9223372036854775808 ≤ z ∧ z ≤ 9223372036854775807) y.1 ∧ (fun y : Int × ByteArray × ByteArray × Unit => (fun z : Int => -9223372036854775808 ≤ z ∧ z ≤ 9223372036854775807) y.1 ∧ (fun y : ByteArray × ByteArray × Unit => (fun z : ByteArray => z.size ≤ 140737488355328) y.1 ∧ (fun y : ByteArray × Unit => (fun z : ByteArray => z.size ≤ 140737488355328) y.1 ∧ (fun _ : Unit => True) y.2) y.2) y.2) y.2) _ _ (@opens_struct _ _ _ _ 4 (Int × Int × ByteArray × ByteArray × Unit) _ _ Tryz.underlying39 (by kernel_rfl) ?h) (fun y => (⟨y.1, y.2.1, L y.2.2.1, L y.2.2.2.1⟩ : Bx)) (fun _ => rfl) (fun _ _ => trivial)
  refine @opens_cons _ _ _ _ _ _ 1 _ _ (fun z : Int => [Value.int .i64 z]) (fun z : Int => -9223372036854775808 ≤ z ∧ z ≤ 9223372036854775807) (fun y : Int × ByteArray × ByteArray × Unit => (fun z : Int => [Value.int .i64 z]) y.1 ++ (fun y : ByteArray × ByteArray × Unit => (fun z : ByteArray => [Value.string z]) y.1 ++ (fun y : ByteArray × Unit => (fun z : ByteArray => [Value.string z]) y.1 ++ (fun _ : Unit => ([] : List Value)) y.2) y.2) y.2) (fun y : Int × ByteArray × ByteArray × Unit => (fun z : Int => -9223372036854775808 ≤ z ∧ z ≤ 9223372036854775807) y.1 ∧ (fun y : ByteArray × ByteArray × Unit => (fun z : ByteArray => z.size ≤ 140737488355328) y.1 ∧ (fun y : ByteArray × Unit => (fun z : ByteArray => z.size ≤ 140737488355328) y.1 ∧ (fun _ : Unit => True) y.2) y.2) y.2) rfl ?_ ?_ ?_
  · kernel_rfl
  · exact @opens_int _ _ _ Tryz.underlying3
  refine @opens_cons _ _ _ _ _ _ 1 _ _ (fun z : Int => [Value.int .i64 z]) (fun z : Int => -9223372036854775808 ≤ z ∧ z ≤ 9223372036854775807) (fun y : ByteArray × ByteArray × Unit => (fun z : ByteArray => [Value.string z]) y.1 ++ (fun y : ByteArray × Unit => (fun z : ByteArray => [Value.string z]) y.1 ++ (fun _ : Unit => ([] : List Value)) y.2) y.2) (fun y : ByteArray × ByteArray × Unit => (fun z : ByteArray => z.size ≤ 140737488355328) y.1 ∧ (fun y : ByteArray × Unit => (fun z : ByteArray => z.size ≤ 140737488355328) y.1 ∧ (fun _ : Unit => True) y.2) y.2) rfl ?_ ?_ ?_
  · kernel_rfl
  · exact @opens_int _ _ _ Tryz.underlying3
  refine @opens_cons _ _ _ _ _ _ 1 _ _ (fun z : ByteArray => [Value.string z]) (fun z : ByteArray => z.size ≤ 140737488355328) (fun y : ByteArray × Unit => (fun z : ByteArray => [Value.string z]) y.1 ++ (fun _ : Unit => ([] : List Value)) y.2) (fun y : ByteArray × Unit => (fun z : ByteArray => z.size ≤ 140737488355328) y.1 ∧ (fun _ : Unit => True) y.2) rfl ?_ ?_ ?_
  · kernel_rfl
  · exact @opens_string _ _ _ Tryz.underlying9
  refine @opens_cons _ _ _ _ _ _ 1 _ _ (fun z : ByteArray => [Value.string z]) (fun z : ByteArray => z.size ≤ 140737488355328) (fun _ : Unit => ([] : List Value)) (fun _ : Unit => True) rfl ?_ ?_ ?_
  · kernel_rfl
  · exact @opens_string _ _ _ Tryz.underlying9
  exact @opens_nil _ _ _
theorem opens_act {W : World} : Opens Tryz.prog W 24 actCells (fun _ => True) := by
  refine @Opens.imp _ _ _ _ _ (fun y : Int × Int × Int × ByteArray × ByteArray × Unit => (fun z : Int => [Value.int .i64 z]) y.1 ++ (fun y : Int × Int × ByteArray × ByteArray × Unit => (fun z : Int => [Value.int .i64 z]) y.1 ++ (fun y : Int × ByteArray × ByteArray × Unit => (fun z : Int => [Value.int .i64 z]) y.1 ++ (fun y : ByteArray × ByteArray × Unit => (fun z : ByteArray => [Value.string z]) y.1 ++ (fun y : ByteArray × Unit => (fun z : ByteArray => [Value.string z]) y.1 ++ (fun _ : Unit => ([] : List Value)) y.2) y.2) y.2) y.2) y.2) (fun y : Int × Int × Int × ByteArray × ByteArray × Unit => (fun z : Int => -9223372036854775808 ≤ z ∧ z ≤ 9223372036854775807) y.1 ∧ (fun y : Int × Int × ByteArray × ByteArray × Unit => (fun z : Int => -9223372036854775808 ≤ z ∧ z ≤ 9223372036854775807) y.1 ∧ (fun y : Int × ByteArray × ByteArray × Unit => (fun z : Int => -9223372036854775808 ≤ z ∧ z ≤ 9223372036854775807) y.1 ∧ (fun y : ByteArray × ByteArray × Unit => (fun z : ByteArray => z.size ≤ 140737488355328) y.1 ∧ (fun y : ByteArray × Unit => (fun z : ByteArray => z.size ≤ 140737488355328) y.1 ∧ (fun _ : Unit => True) y.2) y.2) y.2) y.2) y.2) _ _ (@opens_struct _ _ _ _ 5 (Int × Int × Int × ByteArray × ByteArray × Unit) _ _ Tryz.underlying24 (by kernel_rfl) ?h) (fun y => (⟨y.1, y.2.1, y.2.2.1, L y.2.2.2.1, L y.2.2.2.2.1⟩ : ActB)) (fun _ => rfl) (fun _ _ => trivial)
  refine @opens_cons _ _ _ _ _ _ 1 _ _ (fun z : Int => [Value.int .i64 z]) (fun z : Int => -9223372036854775808 ≤ z ∧ z ≤ 9223372036854775807) (fun y : Int × Int × ByteArray × ByteArray × Unit => (fun z : Int => [Value.int .i64 z]) y.1 ++ (fun y : Int × ByteArray × ByteArray × Unit => (fun z : Int => [Value.int .i64 z]) y.1 ++ (fun y : ByteArray × ByteArray × Unit => (fun z : ByteArray => [Value.string z]) y.1 ++ (fun y : ByteArray × Unit => (fun z : ByteArray => [Value.string z]) y.1 ++ (fun _ : Unit => ([] : List Value)) y.2) y.2) y.2) y.2) (fun y : Int × Int × ByteArray × ByteArray × Unit => (fun z : Int => -9223372036854775808 ≤ z ∧ z ≤ 9223372036854775807) y.1 ∧ (fun y : Int × ByteArray × ByteArray × Unit => (fun z : Int => -9223372036854775808 ≤ z ∧ z ≤ 9223372036854775807) y.1 ∧ (fun y : ByteArray × ByteArray × Unit => (fun z : ByteArray => z.size ≤ 140737488355328) y.1 ∧ (fun y : ByteArray × Unit => (fun z : ByteArray => z.size ≤ 140737488355328) y.1 ∧ (fun _ : Unit => True) y.2) y.2) y.2) y.2) rfl ?_ ?_ ?_
  · kernel_rfl
  · exact @opens_int _ _ _ Tryz.underlying3
  refine @opens_cons _ _ _ _ _ _ 1 _ _ (fun z : Int => [Value.int .i64 z]) (fun z : Int => -9223372036854775808 ≤ z ∧ z ≤ 9223372036854775807) (fun y : Int × ByteArray × ByteArray × Unit => (fun z : Int => [Value.int .i64 z]) y.1 ++ (fun y : ByteArray × ByteArray × Unit => (fun z : ByteArray => [Value.string z]) y.1 ++ (fun y : ByteArray × Unit => (fun z : ByteArray => [Value.string z]) y.1 ++ (fun _ : Unit => ([] : List Value)) y.2) y.2) y.2) (fun y : Int × ByteArray × ByteArray × Unit => (fun z : Int => -9223372036854775808 ≤ z ∧ z ≤ 9223372036854775807) y.1 ∧ (fun y : ByteArray × ByteArray × Unit => (fun z : ByteArray => z.size ≤ 140737488355328) y.1 ∧ (fun y : ByteArray × Unit => (fun z : ByteArray => z.size ≤ 140737488355328) y.1 ∧ (fun _ : Unit => True) y.2) y.2) y.2) rfl ?_ ?_ ?_
  · kernel_rfl
  · exact @opens_int _ _ _ Tryz.underlying3
  refine @opens_cons _ _ _ _ _ _ 1 _ _ (fun z : Int => [Value.int .i64 z]) (fun z : Int => -9223372036854775808 ≤ z ∧ z ≤ 9223372036854775807) (fun y : ByteArray × ByteArray × Unit => (fun z : ByteArray => [Value.string z]) y.1 ++ (fun y : ByteArray × Unit => (fun z : ByteArray => [Value.string z]) y.1 ++ (fun _ : Unit => ([] : List Value)) y.2) y.2) (fun y : ByteArray × ByteArray × Unit => (fun z : ByteArray => z.size ≤ 140737488355328) y.1 ∧ (fun y : ByteArray × Unit => (fun z : ByteArray => z.size ≤ 140737488355328) y.1 ∧ (fun _ : Unit => True) y.2) y.2) rfl ?_ ?_ ?_
  · kernel_rfl
  · exact @opens_int _ _ _ Tryz.underlying3
  refine @opens_cons _ _ _ _ _ _ 1 _ _ (fun z : ByteArray => [Value.string z]) (fun z : ByteArray => z.size ≤ 140737488355328) (fun y : ByteArray × Unit => (fun z : ByteArray => [Value.string z]) y.1 ++ (fun _ : Unit => ([] : List Value)) y.2) (fun y : ByteArray × Unit => (fun z : ByteArray => z.size ≤ 140737488355328) y.1 ∧ (fun _ : Unit => True) y.2) rfl ?_ ?_ ?_
  · kernel_rfl
  · exact @opens_string _ _ _ Tryz.underlying9
  refine @opens_cons _ _ _ _ _ _ 1 _ _ (fun z : ByteArray => [Value.string z]) (fun z : ByteArray => z.size ≤ 140737488355328) (fun _ : Unit => ([] : List Value)) (fun _ : Unit => True) rfl ?_ ?_ ?_
  · kernel_rfl
  · exact @opens_string _ _ _ Tryz.underlying9
  exact @opens_nil _ _ _
theorem boxes_of {W : World} {H : Type} {enc : TypeId × Value → H} {v : Value} {d : DataW H} {ps : List MemPlace} (hs : v.cells.toList = [v]) (ht : DataW.Trod enc Tryz.prog W 0 (fun _ => true) true 22 v d ps) (hsz : ∀ n ∈ d.weights Tryz.prog 22, n ≤ reachBytes) :
    ∃ l : List Bx, RowB W v l ∧ l.length ≤ 9223372036854775807 := by
  have op := @opens_slice Tryz.prog W 22 _ Bx _ _ _ 4 48 Tryz.underlying22 (@opens_box W) (fun _ => rfl) (by decide) (by kernel_rfl) (by kernel_rfl) (by decide)
  obtain ⟨⟨v1, l⟩, e, h1, h2, _⟩ := opens_param (@op) ht hsz
  rw [hs] at e
  obtain rfl : v = v1 := by simpa using e
  exact ⟨l, h1, by dsimp only at h2; omega⟩
end Go.Proofs.YtdghfagipheabaaGreatDoor

-- alias Tryz
namespace Go.Proofs.YtdghfagipheabaaGreatDoor
open Go.Shelf Go.RowKit Go.Pw Go.Vc Go.Cs Go.Lib
set_option maxRecDepth 100000
theorem u8x2 : U8Extra Tryz.prog ren197 := ⟨by kernel_rfl, by kernel_rfl, by kernel_rfl, by kernel_rfl, by kernel_rfl, by kernel_rfl, by kernel_rfl⟩
theorem acc_eq2 : (Rows.laid_unicode_utf8_acceptRanges : DataW Unit) = acceptData := by kernel_rfl
theorem fst_eq2 : Rows.laid_unicode_utf8_first = firstData := Pinned.utf8First_eq
/-- What the row's listed tables give. -/
theorem tabs_of2 {W : World} (h3 : VarReads Tryz.prog W "unicode/utf8.first" Rows.laid_unicode_utf8_first) (h4 : VarReads Tryz.prog W "unicode/utf8.acceptRanges" Rows.laid_unicode_utf8_acceptRanges) : Tabs W := by
  rw [acc_eq2] at h4
  rw [fst_eq2] at h3
  exact utf8Tabs_of_reads { lays197 with } u8x2 h3 h4
end Go.Proofs.YtdghfagipheabaaGreatDoor
