/- Helper text of this claim: Wc8: lemmas and contracts that the proved statement rests on; no conditions of its own. -/
import Derived.Test.YtmipmlcolaaonaaDoorWc7
import Derived.Laws.MakeOwn
namespace Go.Vc
open Go Go.Pw
set_option linter.unusedVariables false
def makeT (P : Program) (t : TypeId) : Option (TypeId × Value × Nat) :=
  match P.underlying t with
  | some (.slice e) => (match P.info? e with
      | some i => (match Nat.beq i.size 1, i.zero with
          | true, some z => some (e, z, i.bytes)
          | _, _ => none)
      | none => none)
  | _ => none
theorem madeCells_one (z : Value) (n : Nat) (hz : z.cells = #[z]) : madeCells z.cells n = Array.replicate n z := by
  unfold madeCells
  rw [hz]
  apply Array.ext
  · simp
  · intro i h1 h2
    simp [Nat.mod_one]
theorem RunV.make {P : Program} {t e : TypeId} {z : Value} {bytes : Nat} {k k' : IntKind} {w : World} {K : Value → World → Prop} (l c : Nat) (hm : makeT P t = some (e, z, bytes)) (hz : z.cells = #[z]) (hl : l ≤ c) (hb : bytes * c ≤ 281474976710656) (h63 : c ≤ 9223372036854775807)
    (q : K (.slice (some ⟨w.heap.size, 0, none⟩) l c) (w.alloc (.cells (Array.replicate c z) e))) : RunV P (Instr.makeSlice t (.int k (l : Int)) (.int k' (c : Int))) w K := by
  unfold makeT at hm
  split at hm
  · rename_i e' ht
    split at hm
    · rename_i i hi
      split at hm
      · rename_i z' h1 hz'
        simp only [Option.some.injEq, Prod.mk.injEq] at hm
        obtain ⟨rfl, rfl, rfl⟩ := hm
        have h1 : i.size = 1 := Nat.eq_of_beq_eq_true h1
        have hb' : (i.bytes : Int) * (c : Int) ≤ 281474976710656 := by
          have h : ((i.bytes * c : Nat) : Int) ≤ 281474976710656 := by omega
          rwa [Int.natCast_mul] at h
        have hr := run_make (P := P) w t e' i z' ht hi hz' k k' l c (by omega) (by omega) hb' (by omega)
        simp only [Int.toNat_natCast, h1, Nat.mul_one, madeCells_one z' c hz] at hr
        exact ⟨_, _, hr, q⟩
      · cases hm
    · cases hm
  · cases hm
end Go.Vc
