/- Helper text of this claim: RefT: lemmas and contracts that the proved statement rests on; no conditions of its own. -/
import Derived.Test.YtcnkbpghafhceaaRefU
/-! The reference's Copy (function 27): the makers' order is open. -/
namespace Go.Proofs.Ytcnkbpghafhceaa
open Go.RowKit Go.Pw Go.Pw.Dk Go.Vc
set_option linter.unusedVariables false
set_option maxRecDepth 100000
theorem info64 : (Try.prog.info? 64).map (fun i => (i.zero, i.size, i.bytes)) = some (some (.agg #[.string ⟨#[]⟩, .string ⟨#[]⟩]), 2, 32) := by kernel_rfl
/-- The cells of the files. -/
def filesL (A R : Nat → ByteArray) : List Value := (List.range 16).map fun k => if k % 2 = 0 then Value.string (A (k / 2)) else .string (R (k / 2))
section
variable {w u : World} {b bf cap : Nat} {D : St} {A R : Nat → ByteArray} {K : Value → World → Prop} {cs : Array Bool}
theorem own_kept {e size n : Nat} {base : Nat} {v : Value} {xs : List Value} {u' : World} (h : u.ownsRow base e size v n xs) {row : Option Nat} (g : u.grownBy u' row) (hne : v.ownBlock = none ∨ v.ownBlock ≠ row) : u'.ownsRow base e size v n xs := h.kept g hne
theorem app_files (h : RefC w b bf cap A R D) (k : Keeps w u none_) (g c : Nat) (ho : u.ownsRow w.heap.size 64 2 (.slice (some ⟨g, 0, none⟩) 0 c) 0 [])
    (hk : ∀ v' u', u'.ownsRow w.heap.size 64 2 v' 8 (filesL A R) → u.grownBy u' (some g) → K v' u') :
    RunN Try.prog (builtin .append #[60, 60] 60 cs [.slice (some ⟨g, 0, none⟩) 0 c, .slice (some ⟨bf, 0, none⟩) 8 cap].toArray) u K := by
  obtain ⟨i0, hi, hz0, hz1, hz2⟩ := info_parts info64
  have h' := h.keep0 k
  refine RunN.append w.heap.size 64 i0 _ 2 32 Try.underlying60 hi hz0 hz1 hz2 rfl (by decide) _ 0 [] ho ⟨bf, 0, none⟩ 8 cap (filesL A R) (by simp [filesL]) (fun j x hx => ?_) (fun x hx => ?_) (by decide) (by decide) k.size (fun v' w' h1 h2 _ => hk v' w' (by simpa using h1) h2)
  · rw [add_none]
    simp only [filesL, List.getElem?_map, Option.map_eq_some_iff] at hx
    obtain ⟨k, hk, rfl⟩ := hx
    obtain ⟨hj, hk⟩ := List.getElem?_eq_some_iff.1 hk
    simp only [List.length_range] at hj
    simp only [List.getElem_range] at hk
    subst hk
    split
    · rename_i he
      have := h'.ca (j / 2) (by omega)
      rw [show 0 + j / 2 * 2 = 0 + j from by omega] at this; exact this
    · rename_i he
      have := h'.cr (j / 2) (by omega)
      rw [show 0 + j / 2 * 2 + 1 = 0 + j from by omega] at this; exact this
  · simp only [filesL, List.mem_map] at hx
    obtain ⟨k, _, rfl⟩ := hx
    split <;> rfl
theorem app_kept {kv : Value} (h : RefC w b bf cap A R D) (k : Keeps w u none_) (hv : Ints 3 w kv D.kl) (hn : D.kl.length ≤ 1000000000000) (g c : Nat) (ho : u.ownsRow w.heap.size 3 1 (.slice (some ⟨g, 0, none⟩) 0 c) 0 [])
    (hk : ∀ v' u', u'.ownsRow w.heap.size 3 1 v' D.kl.length (D.kl.map (Value.int .i64)) → u.grownBy u' (some g) → K v' u') :
    RunN Try.prog (builtin .append #[22, 22] 22 cs [.slice (some ⟨g, 0, none⟩) 0 c, kv].toArray) u K := by
  obtain ⟨i0, hi, hz0, hz1, hz2⟩ := info_parts info3'
  have hv' : Ints 3 u kv D.kl := hv.keep k (fun _ _ _ => id)
  rcases hv' with ⟨rfl, hnil⟩ | ⟨kb, ko, kc, kn, rfl, h2, h3, h4⟩
  · refine RunN.append_none w.heap.size 3 i0 1 Try.underlying22 hi _ 0 [] ho ?_
    exact hk _ _ (by rw [hnil]; exact ho) ⟨rfl, rfl, rfl, Nat.le_refl _, fun _ _ _ => rfl⟩
  · refine RunN.append w.heap.size 3 i0 _ 1 8 Try.underlying22 hi hz0 hz1 hz2 rfl (by decide) _ 0 [] ho ⟨kb, ko, none⟩ D.kl.length kc (D.kl.map (Value.int .i64)) (by simp) (fun j x hx => ?_) (fun x hx => ?_) (by unfold maxLen; omega) (by omega) k.size (fun v' w' h1 h2 _ => hk v' w' (by simpa using h1) h2)
    · rw [add_none]
      simp only [List.getElem?_map, Option.map_eq_some_iff] at hx
      obtain ⟨z, hz, rfl⟩ := hx
      obtain ⟨hj, hz⟩ := List.getElem?_eq_some_iff.1 hz
      have := h4 j hj
      rw [show D.kl.getD j 0 = z from by simp [List.getD_eq_getElem?_getD, List.getElem?_eq_getElem hj, hz]] at this
      exact this
    · obtain ⟨z, _, rfl⟩ := List.mem_map.1 hx; rfl
/-- The end: the struct is boxed. -/
theorem copy_fin {sF sI : Value} (h : RefC w b bf cap A R D) (k : Keeps w u none_) (hF : u.ownsRow w.heap.size 64 2 sF 8 (filesL A R)) (hI : u.ownsRow w.heap.size 3 1 sI D.kl.length (D.kl.map (Value.int .i64))) :
    ∃ bf' cap', RefAt (u.alloc (.cells #[sF, .int .i64 D.lost, .bool D.down, .int .i64 D.armed, sI] 62)) u.heap.size bf' cap' D ∧ w.heap.size ≤ u.heap.size ∧ w.heap.size ≤ bf' ∧ Keeps w (u.alloc (.cells #[sF, .int .i64 D.lost, .bool D.down, .int .i64 D.armed, sI] 62)) none_ := by
  have hints := ints_owns hI
  have hx : At (u.alloc (.cells #[sF, .int .i64 D.lost, .bool D.down, .int .i64 D.armed, sI] 62)) u.heap.size 0 [sF, .int .i64 D.lost, .bool D.down, .int .i64 D.armed, sI] := at_cells (heap_alloc_new _ _)
  obtain ⟨hl, ⟨_, h0⟩ | ⟨g, c, cur, rfl, hb, hg, h1, h2, h3, h4⟩⟩ := hF
  · omega
  have hg' : (u.alloc (.cells #[.slice (some ⟨g, 0, none⟩) 8 c, .int .i64 D.lost, .bool D.down, .int .i64 D.armed, sI] 62)).heap[g]? = some (.cells cur 64 (0, 0)) := by
    rw [RowKit.Below.heap_alloc _ _ _ (Array.getElem?_eq_some_iff.1 hg).1]; exact hg
  have hcell : ∀ j, j < 16 → (u.alloc (.cells #[.slice (some ⟨g, 0, none⟩) 8 c, .int .i64 D.lost, .bool D.down, .int .i64 D.armed, sI] 62)).cell? ⟨g, j, none⟩ = (filesL A R)[j]? := fun j hj => by
    unfold World.cell?
    rw [hg']
    simp only [Option.isSome_none, Bool.false_eq_true, if_false]
    rw [← h4, List.getElem?_take, if_pos (by omega)]
    simp
  refine ⟨g, c, ⟨A, R, ?_⟩, k.size, hb, k.alloc _⟩
  refine ⟨?_, fun i => World.frozen?_alloc_new _ _ _ _, ⟨cur.size, by unfold World.shape?; rw [hg']⟩, fun i => ?_, hx 0 _ rfl, fun i hi => ?_, fun i hi => ?_, hx 1 _ rfl, hx 2 _ rfl, hx 3 _ rfl, ⟨_, hx 4 _ rfl, ?_⟩, h.rel, h.ok⟩
  · rw [shape_new]; rfl
  · unfold World.frozen?; rw [hg']; simp
  · rw [hcell _ (by omega)]; simp [filesL, show i * 2 < 16 by omega]
  · rw [hcell _ (by omega)]
    simp only [filesL, List.getElem?_map]
    rw [List.getElem?_range (by omega)]
    simp only [Option.map_some]
    rw [if_neg (by omega), show (0 + i * 2 + 1) / 2 = i by omega]
  · exact hints.keep ((Keeps.refl u none_).alloc _) (fun _ _ _ => id)
end
end Go.Proofs.Ytcnkbpghafhceaa
