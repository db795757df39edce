/- Helper text of this claim: TxO: lemmas and contracts that the proved statement rests on; no conditions of its own. -/
import Derived.Test.YtmipmlcolaaonaaDoorGsr
import Derived.Deep.Slices
import Derived.Test.YtmipmlcolaaonaaDoorRows
import Derived.ProofKit
import Derived.Lay
import Derived.SevenTiedAt
import Derived.OpenShut
import Derived.ChangeOld
-- alias Tryd
namespace Go.Proofs.YtmipmlcolaaonaaDoor
open Go.ChangeShapes Go.WideShapes Go.ChangeAt Go.RowKit Go.Pw Go.Vc Go.Cs
set_option linter.unusedVariables false
set_option maxRecDepth 100000
theorem weightsAll_mem {H : Type} {P : Program} {e : TypeId} : ∀ {l : List (DataW H)} {d : DataW H}, d ∈ l → ∀ n ∈ d.weights P e, n ∈ DataW.weightsAll P e l
  | [], d, h, n, hn => by cases h
  | a :: r, d, h, n, hn => by
    show n ∈ DataW.weights P e a ++ DataW.weightsAll P e r
    rw [List.mem_append]
    rcases List.mem_cons.1 h with rfl | h
    · exact .inl hn
    · exact .inr (weightsAll_mem h n hn)
section
variable {H : Type} {enc : TypeId × Value → H} {W : World}
/-- A slice of strings that came in. -/
theorem texts_of {a : Option Addr} {len cap : Nat} {d : DataW H} {ps : List MemPlace} (h : DataW.Trod enc Tryd.prog W 0 (fun _ => true) true 37 (.slice a len cap) d ps) (hsz : ∀ n ∈ d.weights Tryd.prog 37, n ≤ reachBytes) :
    ∃ ws : List (List UInt8), len = ws.length ∧ RdO W (.slice a len cap) ws.length (ws.map sv) ∧ ws.length ≤ 140737488351232 ∧ ∀ x ∈ ws, x.length ≤ 140737488355328 := by
  obtain ⟨fuel, hf⟩ := h
  rcases DataW.trod_slice Tryd.underlying37 hf with ⟨hcs, hx⟩ | ⟨x0, l, c, elems, rest, n, _, hcs, hx, hb, hl, hm, hel, hat, hsp, _⟩
  · simp only [Value.cells, List.cons.injEq, and_true, Value.slice.injEq] at hcs
    obtain ⟨rfl, rfl, rfl⟩ := hcs
    exact ⟨[], rfl, ⟨none, 0, rfl, fun h => by simp at h⟩, Nat.zero_le _, by simp⟩
  · simp only [Value.cells, List.cons.injEq, and_true, Value.slice.injEq] at hcs
    obtain ⟨rfl, rfl, rfl⟩ := hcs
    have hc1 : Tryd.prog.cellsOf 9 = 1 := by kernel_rfl
    simp only [Prod.mk.injEq] at hx
    have hd := hx.1
    subst hd
    rw [hc1] at hat
    have hbytes : Tryd.prog.bytesOf 9 = 16 := by kernel_rfl
    have hmax : len ≤ 140737488351232 := by
      have hw := hsz _ (List.mem_cons_self ..)
      rw [hbytes, List.length_map, List.length_map] at hw
      unfold reachBytes at hw; omega
    have each : ∀ i, i < len → ∃ y : List UInt8, y.length ≤ 140737488355328 ∧ ∃ lb lo, some x0 = some ⟨lb, lo, none⟩ ∧ lb < W.heap.size ∧ W.cell? ⟨lb, lo + i, none⟩ = some (sv y) := fun i hi => by
      have hy : elems[i]? = some (elems[i]'(by omega)) := List.getElem?_eq_getElem (by omega)
      have hbi := hat i hi
      rw [hy, Option.bind_eq_some_iff] at hbi
      obtain ⟨cs, hcs, ht⟩ := hbi
      obtain ⟨s, e4, g4, w4⟩ := DataW.trod_string Tryd.underlying9 ht
      subst e4
      have hs : s.size ≤ reachBytes := hsz s.size (by
        show s.size ∈ DataW.weights Tryd.prog 37 (.slice _ _)
        unfold DataW.weights
        rw [Tryd.underlying37]
        refine List.mem_cons_of_mem _ (List.mem_append_left _ (weightsAll_mem (List.mem_map.2 ⟨elems[i]'(by omega), List.getElem_mem (by omega), rfl⟩) s.size ?_))
        have e : (elems[i]'(by omega)) = (.lit (.string s.data.toList), []) := by simpa using g4
        rw [e]; simp [DataW.weights])
      obtain ⟨_, hcl, hcat⟩ := World.cells?_some hcs
      have h0 := hcat 0 (by omega)
      have h0 : W.cell? (Addr.add (Addr.add x0 (i * 1)) 0) = some (.string s) := h0
      obtain ⟨b, off, spot⟩ := x0
      have hspot : spot = none := by
        have := World.cell?_spot h0
        by_cases hi0 : i = 0
        · subst hi0; simpa [Addr.add] using this
        · exact Classical.byContradiction fun hne => by
            have hh := hat 0 (by omega)
            have hy0 : elems[0]? = some (elems[0]'(by omega)) := List.getElem?_eq_getElem (by omega)
            rw [hy0, Option.bind_eq_some_iff] at hh
            obtain ⟨cs0, hcs0, ht0⟩ := hh
            obtain ⟨_, hcl0, hcat0⟩ := World.cells?_some hcs0
            have h00 := hcat0 0 (by omega)
            have hcs0l : 0 < cs0.length := by omega
            rw [List.getElem?_eq_getElem hcs0l] at h00
            have := World.cell?_spot h00
            exact hne (by simpa [Addr.add] using this)
      subst hspot
      rw [Go.Vc.add_none, Go.Vc.add_none, Nat.mul_one, Nat.add_zero] at h0
      have hlt := Pw.cell_lt h0
      refine ⟨L s, by rw [L_len]; unfold reachBytes at hs; omega, b, off, rfl, hlt, ?_⟩
      rw [h0]; rfl
    obtain ⟨f, hfx⟩ := Go.Deep.choose_lt each
    refine ⟨(List.range len).map f, by simp, ⟨some x0, cap, by rw [List.length_map, List.length_range], fun h0 => ?_⟩, by rw [List.length_map, List.length_range]; exact hmax, fun x hx => ?_⟩
    · have h0 : 0 < len := by simpa using h0
      obtain ⟨_, lb, lo, he, hlb, _⟩ := hfx 0 h0
      refine ⟨lb, lo, he, hlb, fun i v hv => ?_⟩
      rw [List.getElem?_map, List.getElem?_map] at hv
      by_cases hi : i < len
      · obtain ⟨_, lb2, lo2, he2, _, hc2⟩ := hfx i hi
        rw [he] at he2
        injection he2 with he2
        injection he2 with e1 e2
        subst e1; subst e2
        rw [hc2, ← hv]
        simp [List.getElem?_range hi]
      · rw [List.getElem?_eq_none (by simp; omega)] at hv; simp at hv
    · obtain ⟨i, hi, rfl⟩ := List.mem_map.1 hx
      exact (hfx i (by simpa using hi)).1
end
end Go.Proofs.YtmipmlcolaaonaaDoor
