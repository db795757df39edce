/- Helper text of this claim: WsB: lemmas and contracts that the proved statement rests on; no conditions of its own. -/
import Derived.Test.YtmipmlcolaaonaaDoorWsK
set_option linter.unusedVariables false
namespace Go.Vc
open Go Go.Pw Go.RowKit
/-- Bytes in cells from the block's head on, not frozen. -/
def Bs (w : World) (b : Nat) (l : List UInt8) : Prop := At w b 0 (Lib.byteCells l) ∧ ∀ j, j < l.length → w.frozen? ⟨b, 0 + j, none⟩ = false
theorem Bs.store {w : World} {b i : Nat} {l : List UInt8} (h : Bs w b l) (hi : i < l.length) (x : UInt8) : (∃ u, w.cell? ⟨b, 0 + i, none⟩ = some u) ∧ w.frozen? ⟨b, 0 + i, none⟩ = false ∧ Bs (w.setCell ⟨b, 0 + i, none⟩ (.int .u8 (x.toNat : Int))) b (l.set i x) := by
  have hc : w.cell? ⟨b, 0 + i, none⟩ = some (.int .u8 (l[i].toNat : Int)) := h.1 i _ (by simp [Lib.byteCells, hi])
  refine ⟨⟨_, hc⟩, h.2 i hi, fun j v hj => ?_, fun j hj => ?_⟩
  · by_cases e : i = j
    · subst e
      simp [Lib.byteCells, hi] at hj
      rw [cell_set_eq hc, hj]
    · have : (⟨b, 0 + i, none⟩ : Addr) ≠ ⟨b, 0 + j, none⟩ := fun e' => by injection e'; omega
      rw [World.cell?_setCell_other (h := this)]
      refine h.1 j v ?_
      simpa [Lib.byteCells, List.getElem?_set_ne e] using hj
  · rw [World.frozen?_setCell]
    rw [List.length_set] at hj
    exact h.2 j hj
theorem Bs.cell {w : World} {b i : Nat} {l : List UInt8} (h : Bs w b l) (hi : i < l.length) : w.cell? ⟨b, 0 + i, none⟩ = some (.int .u8 (((l.getD i 0).toNat : Nat) : Int)) := h.1 i _ (by simp [Lib.byteCells, hi, List.getD])
theorem Bs.keep {w w' : World} {b : Nat} {l : List UInt8} {c : Nat → Prop} (h : Bs w b l) (k : Keeps w w' c) (hb : b < w.heap.size) (hc : ¬ c b) : Bs w' b l :=
  ⟨fun i v hi => by rw [k.cell (p := ⟨b, 0 + i, none⟩) hb hc]; exact h.1 i v hi, fun j hj => by rw [k.frozen (p := ⟨b, 0 + j, none⟩) hb hc]; exact h.2 j hj⟩
theorem bytes_made (w : World) (e : TypeId) (s : ByteArray) : Bs (Lib.bytesWorld w e s) w.heap.size (s.data.toList) ∧ Keeps w (Lib.bytesWorld w e s) none_ := by
  have hl : s.data.toList.length = s.size := rfl
  refine ⟨⟨fun i v hi => ?_, fun j hj => ?_⟩, ⟨rfl, rfl, rfl, by rw [Lib.bytesWorld_size]; omega, fun k hk _ => Lib.bytesWorld_at_old w e s k hk⟩⟩
  · have hlt : i < s.size := by
      have := (List.getElem?_eq_some_iff.1 hi).1
      rw [Lib.byteCells_length] at this; exact this
    rw [Nat.zero_add, Lib.bytesWorld_cell w e s i hlt, ← hi]
    simp [Lib.byteCells, List.getD, List.getElem?_eq_getElem (by omega : i < s.data.toList.length)]
  · rw [hl] at hj
    unfold World.frozen?
    dsimp only
    rw [Lib.bytesWorld_at_new]
    have : s.size ≤ (Lib.bytesCells w e s).size := by
      unfold Lib.bytesCells
      rw [Array.size_append, Array.size_map]
      exact Nat.le_add_right _ _
    simp only [Bool.and_eq_false_iff, decide_eq_false_iff_not]
    omega
theorem RunV.back {P : Program} {w : World} {src dst e : TypeId} {b cap : Nat} {l : List UInt8} {K : Value → World → Prop} (hs : P.underlying src = some (.slice e)) (he : P.underlying e = some (.int .u8)) (hd : P.underlying dst = some .string)
    (h : Bs w b l) (k : K (.string ⟨l.toArray⟩) w) : RunV P (convert src dst (.slice (some ⟨b, 0, none⟩) l.length cap)) w K :=
  ⟨_, _, run_convert_bytes_back w src dst e ⟨b, 0, none⟩ cap l hs he hd (fun j hj => by rw [add_none]; exact h.1 j _ (by simp [Lib.byteCells, hj])), k⟩
end Go.Vc
namespace Go.Vc
open Go
theorem half_eq (i j : Nat) (h : i + j ≤ 1000000000000) : IntKind.i64.wrap ((IntKind.u64.wrap ((i : Int) + (j : Int))).fdiv (2 ^ min (Int.toNat 1) IntKind.u64.bits)) = (((i + j) / 2 : Nat) : Int) := by
  have h1 : IntKind.u64.wrap ((i : Int) + (j : Int)) = ((i + j : Nat) : Int) := by
    unfold IntKind.wrap; simp [IntKind.signed, IntKind.bits]; omega
  have h2 : (2 : Int) ^ min (Int.toNat 1) IntKind.u64.bits = 2 := by decide
  rw [h1, h2, Int.fdiv_eq_ediv_of_nonneg _ (by omega)]
  rw [wrap_i64 _ (by omega)]
  omega
end Go.Vc
