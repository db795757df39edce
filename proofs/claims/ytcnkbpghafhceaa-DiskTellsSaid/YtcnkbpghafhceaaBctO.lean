/- Helper text of this claim: BctO: lemmas and contracts that the proved statement rests on; no conditions of its own. -/
import Derived.Test.YtcnkbpghafhceaaBctL
import Derived.Test.YtcnkbpghafhceaaFr
import Derived.Deep.Slices
namespace Go.Proofs.Ytcnkbpghafhceaa
open Go.ChangeShapes Go.WideShapes Go.ChangeAt Go.RowKit Go.Pw Go.Pw.Dk
set_option linter.unusedVariables false
theorem weightsAll_mem {H : Type} {P : Program} {e : TypeId} : ∀ {l : List (DataW H)} {d : DataW H}, d ∈ l → ∀ n ∈ d.weights P e, n ∈ DataW.weightsAll P e l
  | [], d, h, n, hn => by cases h
  | a :: r, d, h, n, hn => by
    show n ∈ DataW.weights P e a ++ DataW.weightsAll P e r
    rw [List.mem_append]
    rcases List.mem_cons.1 h with rfl | h
    · exact .inl hn
    · exact .inr (weightsAll_mem h n hn)
section
variable {H : Type} {enc : TypeId × Value → H} {W : World}
/-- A slice of integers that came in. -/
theorem intsNe_of {fuel : Nat} {v : Value} {x : DataW H × List MemPlace} (hf : DataW.trod enc Try.prog W 0 (fun _ => true) true fuel 22 [v] = some x) (hsz : ∀ n ∈ x.1.weights Try.prog 22, n ≤ reachBytes) :
    ∃ kl, IntsNe W.heap.size W v kl ∧ kl.length ≤ 140737488351232 := by
  rcases open_ints Try.underlying22 Try.underlying3 (by kernel_rfl) hf with ⟨hcs, hx⟩ | ⟨x0, l, c, zs, hcs, hb, hl, hm, hz, hx, hcell, hwz⟩
  · simp only [List.cons.injEq, and_true] at hcs
    subst hcs
    exact ⟨[], .inl ⟨none, 0, rfl, rfl⟩, by simp⟩
  · simp only [List.cons.injEq, and_true] at hcs
    subst hcs
    have hzl : zs.length = c := by simpa using hz
    subst hx
    have hw := hsz _ (List.mem_cons_self ..)
    have hbytes : Try.prog.bytesOf 3 = 8 := by kernel_rfl
    rw [hbytes] at hw
    have hlen : l * 8 ≤ reachBytes := by
      refine Nat.le_trans (Nat.mul_le_mul_right 8 ?_) hw
      simp [lits]; omega
    have hl2 : l ≤ 140737488351232 := by unfold reachBytes at hlen; omega
    by_cases h0 : l = 0
    · subst h0; exact ⟨[], .inl ⟨_, _, rfl, rfl⟩, by simp⟩
    · have hc := hcell 0 (by omega)
      obtain ⟨b, off, spot⟩ := x0
      have hspot : spot = none := by simpa [Addr.add] using World.cell?_spot hc
      subst hspot
      have hlt : b < W.heap.size := by have := Pw.cell_lt hc; simpa [Addr.add] using this
      refine ⟨zs.take l, .inr ⟨b, off, c, by rw [List.length_take]; congr 1; omega, hlt, by omega, by rw [List.length_take]; omega, fun i hi => ?_⟩, by rw [List.length_take]; omega⟩
      rw [List.length_take] at hi
      have := hcell i (by omega)
      have e : (zs.take l).getD i 0 = zs.getD i 0 := by
        simp only [List.getD_eq_getElem?_getD, List.getElem?_take]; rw [if_pos (by omega)]
      have ea : Addr.add ⟨b, off, none⟩ i = ⟨b, off + i, none⟩ := Go.Vc.add_none _ _ _
      rw [e, ← ea]; exact this
theorem act_of {fuel : Nat} {cs : List Value} {x : DataW H × List MemPlace} (hf : DataW.trod enc Try.prog W 0 (fun _ => true) true fuel 41 cs = some x) (hsz : ∀ n ∈ x.1.weights Try.prog 41, n ≤ reachBytes) :
    ∃ y, cs = cellsA y ∧ OkA W y := by
  obtain ⟨ys, n, _, hx, hlen, hyl, hfld⟩ := DataW.trod_struct Try.underlying41 hf
  have hc41 : Try.prog.cellsOf 41 = 6 := by kernel_rfl
  have c3 : Try.prog.cellsOf 3 = 1 := by kernel_rfl
  have c9 : Try.prog.cellsOf 9 = 1 := by kernel_rfl
  have c22 : Try.prog.cellsOf 22 = 1 := by kernel_rfl
  rw [hc41] at hlen
  have hyl : ys.length = 6 := hyl
  match cs, hlen with
  | [v0, v1, v2, v3, v4, v5], _ =>
    match ys, hyl with
    | [y0, y1, y2, y3, y4, y5], _ =>
      have f0 : DataW.trod enc Try.prog W 0 (fun _ => true) true n 3 (([v0, v1, v2, v3, v4, v5].drop 0).take (Try.prog.cellsOf 3)) = some y0 := hfld 0 _ rfl
      have f1 : DataW.trod enc Try.prog W 0 (fun _ => true) true n 3 (([v0, v1, v2, v3, v4, v5].drop 1).take (Try.prog.cellsOf 3)) = some y1 := hfld 1 _ rfl
      have f2 : DataW.trod enc Try.prog W 0 (fun _ => true) true n 3 (([v0, v1, v2, v3, v4, v5].drop 2).take (Try.prog.cellsOf 3)) = some y2 := hfld 2 _ rfl
      have f3 : DataW.trod enc Try.prog W 0 (fun _ => true) true n 3 (([v0, v1, v2, v3, v4, v5].drop 3).take (Try.prog.cellsOf 3)) = some y3 := hfld 3 _ rfl
      have f4 : DataW.trod enc Try.prog W 0 (fun _ => true) true n 9 (([v0, v1, v2, v3, v4, v5].drop 4).take (Try.prog.cellsOf 9)) = some y4 := hfld 4 _ rfl
      have f5 : DataW.trod enc Try.prog W 0 (fun _ => true) true n 22 (([v0, v1, v2, v3, v4, v5].drop 5).take (Try.prog.cellsOf 22)) = some y5 := hfld 5 _ rfl
      rw [c3] at f0 f1 f2 f3
      rw [c9] at f4
      rw [c22] at f5
      obtain ⟨z0, e0, _, w0⟩ := DataW.trod_int Try.underlying3 f0
      obtain ⟨z1, e1, _, w1⟩ := DataW.trod_int Try.underlying3 f1
      obtain ⟨z2, e2, _, w2⟩ := DataW.trod_int Try.underlying3 f2
      obtain ⟨z3, e3, _, w3⟩ := DataW.trod_int Try.underlying3 f3
      obtain ⟨s, e4, g4, w4⟩ := DataW.trod_string Try.underlying9 f4
      simp only [List.drop_succ_cons, List.drop_zero, List.take_succ_cons, List.take_zero, List.cons.injEq, and_true] at e0 e1 e2 e3 e4 f5
      subst e0; subst e1; subst e2; subst e3; subst e4
      have hw : ∀ (j : Nat) (t : TypeId) (d : DataW H), ([3, 3, 3, 3, 9, 22] : List TypeId)[j]? = some t → [y0.1, y1.1, y2.1, y3.1, y4.1, y5.1][j]? = some d → ∀ m ∈ d.weights Try.prog t, m ≤ reachBytes := fun j t d ht hd m hm => by
        refine hsz m ?_
        rw [hx]
        show m ∈ DataW.weights Try.prog 41 (.agg [y0.1, y1.1, y2.1, y3.1, y4.1, y5.1])
        unfold DataW.weights
        rw [Try.underlying41]
        exact DataW.weights_mem_each ht hd m hm
      obtain ⟨kl, hk, hkn⟩ := intsNe_of f5 (hw 5 22 _ rfl rfl)
      have hs := hw 4 9 _ rfl rfl s.size (by
        have g4 : y4 = (.lit (.string s.data.toList), []) := by simpa using g4
        rw [g4]; simp [DataW.weights])
      refine ⟨⟨z0, z1, z2, z3, s, v5, kl⟩, rfl, bounds_i64 w0, bounds_i64 w1, bounds_i64 w2, bounds_i64 w3, hs, hkn, hk⟩
theorem acts_of {a : Option Addr} {len cap : Nat} {d : DataW H} {ps : List MemPlace} (h : DataW.Trod enc Try.prog W 0 (fun _ => true) true 37 (.slice a len cap) d ps) (hsz : ∀ n ∈ d.weights Try.prog 37, n ≤ reachBytes) :
    ∃ xs, Acts W a len xs := by
  obtain ⟨fuel, hf⟩ := h
  rcases DataW.trod_slice Try.underlying37 hf with ⟨hcs, hx⟩ | ⟨x0, l, c, elems, rest, n, _, hcs, hx, hb, hl, hm, hel, hat, hsp, _⟩
  · simp only [Value.cells, List.cons.injEq, and_true, Value.slice.injEq] at hcs
    obtain ⟨rfl, rfl, rfl⟩ := hcs
    exact ⟨[], rfl, by simp [big], fun i hi => by simp at hi, fun i hi => by omega⟩
  · simp only [Value.cells, List.cons.injEq, and_true, Value.slice.injEq] at hcs
    obtain ⟨rfl, rfl, rfl⟩ := hcs
    have hc41 : Try.prog.cellsOf 41 = 6 := by kernel_rfl
    simp only [Prod.mk.injEq] at hx
    have hd := hx.1
    subst hd
    rw [hc41] at hat
    have hbytes : Try.prog.bytesOf 41 = 72 := by kernel_rfl
    have hmax : len ≤ 140737488351232 := by
      have hw := hsz _ (List.mem_cons_self ..)
      rw [hbytes, List.length_map, List.length_map] at hw
      unfold reachBytes at hw; omega
    have each : ∀ i, i < len → ∃ y : ActD, OkA W y ∧ ∃ lb lo, some x0 = some ⟨lb, lo, none⟩ ∧ lb < W.heap.size ∧ Go.Vc.At W lb (lo + i * 6) (cellsA y) := fun i hi => by
      have hy : elems[i]? = some (elems[i]'(by omega)) := List.getElem?_eq_getElem (by omega)
      have hbi := hat i hi
      rw [hy, Option.bind_eq_some_iff] at hbi
      obtain ⟨cs, hcs, ht⟩ := hbi
      obtain ⟨y, rfl, hok⟩ := act_of ht (fun m hm => hsz m (by
        show m ∈ DataW.weights Try.prog 37 (.slice _ _)
        unfold DataW.weights
        rw [Try.underlying37]
        exact List.mem_cons_of_mem _ (List.mem_append_left _ (weightsAll_mem (List.mem_map.2 ⟨_, List.getElem_mem (by omega), rfl⟩) m hm))))
      obtain ⟨_, hcl, hcat⟩ := World.cells?_some hcs
      refine ⟨y, hok, ?_⟩
      obtain ⟨b, off, spot⟩ := x0
      have h0 := hcat 0 (by omega)
      rw [show (cellsA y)[0]? = some (.int .i64 y.Do) from rfl] at h0
      have hspot : spot = none := by
        have := World.cell?_spot h0
        by_cases hi0 : i = 0
        · subst hi0; simpa [Addr.add] using this
        · exact Classical.byContradiction fun hne => by
            have hh := hat 0 (by omega)
            have hy0 : elems[0]? = some (elems[0]'(by omega)) := List.getElem?_eq_getElem (by omega)
            rw [hy0, Option.bind_eq_some_iff] at hh
            obtain ⟨cs0, hcs0, ht0⟩ := hh
            obtain ⟨_, hcl0, hcat0⟩ := World.cells?_some hcs0
            have h00 := hcat0 0 (by omega)
            have hcs0l : 0 < cs0.length := by omega
            rw [List.getElem?_eq_getElem hcs0l] at h00
            have := World.cell?_spot h00
            exact hne (by simpa [Addr.add] using this)
      subst hspot
      have hlt := Pw.cell_lt h0
      rw [Go.Vc.add_none, Go.Vc.add_none] at hlt
      refine ⟨b, off, rfl, hlt, fun j v hj => ?_⟩
      have hj6 : j < 6 := by
        have := (List.getElem?_eq_some_iff.1 hj).1; simpa [cellsA] using this
      have := hcat j hj6
      rw [Go.Vc.add_none, Go.Vc.add_none, hj] at this
      exact this
    obtain ⟨f, hfx⟩ := Go.Deep.choose_lt each
    refine ⟨(List.range len).map f, by simp, hmax, fun i hi => ?_, fun i hi => ?_⟩
    · have hi : i < len := by simpa using hi
      have e : ((List.range len).map f).getD i default = f i := by simp [List.getD_eq_getElem?_getD, hi]
      rw [e]; exact (hfx i hi).1
    · have e : ((List.range len).map f).getD i default = f i := by simp [List.getD_eq_getElem?_getD, hi]
      rw [e]; exact (hfx i hi).2
end
end Go.Proofs.Ytcnkbpghafhceaa
