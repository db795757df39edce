/- Helper text of this claim: C7: lemmas and contracts that the proved statement rests on; no conditions of its own. -/
import Derived.Test.YtcnkbpghafhceaaC6
namespace Go.Proofs.Ytcnkbpghafhceaa
open Go.RowKit Go.Pw Go.Pw.Dk
theorem setRow_new (w : World) (c c' : Array Value) (t : TypeId) : (w.alloc (.cells c t)).setRow w.heap.size c' = w.alloc (.cells c' t) := by
  unfold World.setRow World.alloc
  congr 1
  refine Array.ext_getElem? fun k => ?_
  simp only [Array.getElem?_modify, Array.getElem?_push]
  by_cases h : w.heap.size = k
  · subst h; simp
  · simp [h, Ne.symm h]
def diskCells (D : St) (kv : Value) : Array Value := #[.string (D.S 0), .int .i64 (D.L 0), .string (D.S 1), .int .i64 (D.L 1), .string (D.S 2), .int .i64 (D.L 2), .string (D.S 3), .int .i64 (D.L 3), .string (D.S 4), .int .i64 (D.L 4), .string (D.S 5), .int .i64 (D.L 5), .string (D.S 6), .int .i64 (D.L 6), .string (D.S 7), .int .i64 (D.L 7), .int .i64 D.lost, .bool D.down, .int .i64 D.armed, kv]
theorem DiskAt.row {w : World} {b : Nat} {D : St} (h : DiskAt w b D) {kv : Value} (hk : w.cell? ⟨b, 19, none⟩ = some kv) : ∃ fr, w.heap[b]? = some (.cells (diskCells D kv) 55 fr) := by
  have hs := h.sh
  unfold World.shape? at hs
  split at hs
  · rename_i cs ty fr heq
    simp only [Option.some.injEq, Prod.mk.injEq] at hs
    obtain ⟨rfl, hsz⟩ := hs
    refine ⟨fr, ?_⟩
    rw [heq]
    have e : cs = diskCells D kv := by
      refine Array.ext_getElem? fun i => ?_
      have hc : ∀ o v, w.cell? ⟨b, o, none⟩ = some v → cs[o]? = some v := fun o v hv => by
        unfold World.cell? at hv; rw [heq] at hv; simpa using hv
      by_cases hi : i < 20
      · rcases i with _ | _ | _ | _ | _ | _ | _ | _ | _ | _ | _ | _ | _ | _ | _ | _ | _ | _ | _ | _ | i
        · exact hc _ _ (h.s 0 (by omega))
        · exact hc _ _ (h.l 0 (by omega))
        · exact hc _ _ (h.s 1 (by omega))
        · exact hc _ _ (h.l 1 (by omega))
        · exact hc _ _ (h.s 2 (by omega))
        · exact hc _ _ (h.l 2 (by omega))
        · exact hc _ _ (h.s 3 (by omega))
        · exact hc _ _ (h.l 3 (by omega))
        · exact hc _ _ (h.s 4 (by omega))
        · exact hc _ _ (h.l 4 (by omega))
        · exact hc _ _ (h.s 5 (by omega))
        · exact hc _ _ (h.l 5 (by omega))
        · exact hc _ _ (h.s 6 (by omega))
        · exact hc _ _ (h.l 6 (by omega))
        · exact hc _ _ (h.s 7 (by omega))
        · exact hc _ _ (h.l 7 (by omega))
        · exact hc _ _ h.lost
        · exact hc _ _ h.down
        · exact hc _ _ h.armed
        · exact hc _ _ hk
        · omega
      · rw [Array.getElem?_eq_none (by omega), Array.getElem?_eq_none (by simp [diskCells]; omega)]
    rw [e]
  · cases hs
theorem DiskAt.ofRow {w : World} {b : Nat} {D : St} {kv : Value} (h : w.heap[b]? = some (.cells (diskCells D kv) 55 (0, 0))) (hk : Ints 3 w kv D.kl) (ok : D.ok) : DiskAt w b D := by
  have hc : ∀ o, w.cell? ⟨b, o, none⟩ = (diskCells D kv)[o]? := fun o => by unfold World.cell?; rw [h]; rfl
  refine ⟨by unfold World.shape?; rw [h]; rfl, fun i => by unfold World.frozen?; rw [h]; simp, fun i hi => ?_, fun i hi => ?_, by rw [hc]; rfl, by rw [hc]; rfl, by rw [hc]; rfl, ⟨kv, by rw [hc]; rfl, hk⟩, ok⟩
  · rw [hc]; rcases i with _ | _ | _ | _ | _ | _ | _ | _ | i <;> first | rfl | omega
  · rw [hc]; rcases i with _ | _ | _ | _ | _ | _ | _ | _ | i <;> first | rfl | omega
set_option maxHeartbeats 1000000 in
theorem c_copy (b : Nat) (D : St) (w : World) (h : DiskAt w b D) :
    Calls Try.prog 19 #[.pointer (some ⟨b, 0, none⟩)] w fun e w' => e = .returned (.pointer (some ⟨w.heap.size, 0, none⟩)) ∧ DiskAt w' w.heap.size D ∧ DiskAt w' b D ∧ Keeps w w' none_ := by
  have H := Lib.hid h
  obtain ⟨kv, k1, k2⟩ := h.keep
  have hkv : kv.oneCell' = true := by
    rcases k2 with ⟨e, _⟩ | ⟨_, _, _, _, e, _⟩ <;> rw [e] <;> rfl
  have hall : (diskCells D kv).all (·.oneCell') = true := by
    cases kv <;> first | (simp [diskCells, Value.oneCell']; done) | cases hkv
  obtain ⟨fr, hrow⟩ := h.row k1
  have K2 := Lib.hid k2; have HR := Lib.hid hrow; have HA := Lib.hid hall
  clear k2 h hrow hall k1 hkv
  go_enter Try.func19, Try.ntmps19
  go_wp2_with (first | ((with_reducible show wpList _ _ _ _ _ _); refine wpList_load_row rfl 55 (.tmp 5) rfl b rfl 55 (diskCells D kv) fr _ HR.out Try.underlying55 rfl (by kernel_rfl) ?_) | ((with_reducible show wpList _ _ _ _ _ _); refine wpList_store_row rfl 55 (.tmp 3) (.tmp 6) rfl w.heap.size (diskCells D kv) rfl rfl 55 _ (heap_alloc_new _ _) (by kernel_rfl) rfl HA.out ?_; rw [setRow_new]))
  go_outline
  go_ret
  have K : Keeps w (w.alloc (.cells (diskCells D kv) 55)) none_ := (Keeps.refl _ _).alloc _
  exact ⟨rfl, DiskAt.ofRow (heap_alloc_new _ _) (K2.out.keep K (fun _ _ _ => id)) H.out.ok, H.out.kept K id (fun _ _ _ => id), K⟩
end Go.Proofs.Ytcnkbpghafhceaa
