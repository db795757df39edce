/- Helper text of this claim: C10: lemmas and contracts that the proved statement rests on; no conditions of its own. -/
import Derived.Test.YtcnkbpghafhceaaLosesWalk
namespace Go.Proofs.Ytcnkbpghafhceaa
open Go.RowKit Go.Pw Go.Pw.Dk
theorem ints_owns {w : World} {base : Nat} {v : Value} {zs : List Int} (h : w.ownsRow base 3 1 v zs.length (zs.map (Value.int .i64))) : Ints 3 w v zs := by
  obtain ⟨_, ⟨h1, h2⟩ | ⟨g, cap, cur, h1, h2, h3, h4, h5, h6, h7⟩⟩ := h
  · exact .inl ⟨h1, List.eq_nil_of_length_eq_zero h2⟩
  · refine .inr ⟨g, 0, cap, cur.size, h1, by unfold World.shape?; rw [h3], by unfold maxLen at h5; omega, fun i hi => ?_⟩
    unfold World.cell?
    rw [h3]
    simp only [Nat.zero_add, Option.isSome_none, Bool.false_eq_true, if_false]
    have : (cur.toList.take (zs.length * 1))[i]? = some (.int .i64 (zs.getD i 0)) := by
      rw [h7]; simp [hi]
    rw [List.getElem?_take, if_pos (by omega)] at this
    simpa using this
theorem info3 : (Try.prog.info? 3).map (fun i => (i.zero, i.size, i.bytes)) = some (some (.int .i64 0), 1, 8) := by kernel_rfl
theorem ints_nil (T : TypeId) (w : World) : Ints T w (.slice none 0 0) [] := .inl ⟨rfl, rfl⟩
theorem keeps_grown {a w w' : World} {c : Nat → Prop} {row : Option Nat} (h : Keeps a w c) (g : w.grownBy w' row) (hr : ∀ k, row = some k → c k ∨ a.heap.size ≤ k) : Keeps a w' c :=
  ⟨g.os.trans h.os, g.tape.trans h.tape, g.output.trans h.output, Nat.le_trans h.size g.size, fun k hk hn => by
    rw [g.block k (Nat.lt_of_lt_of_le hk h.size) (fun e => by rcases hr k e.symm with h1 | h1; exact hn h1; omega)]
    exact h.block k hk hn⟩
theorem own_new {w : World} {base : Nat} {e : TypeId} {size : Nat} {v : Value} {n : Nat} {xs : List Value} (h : w.ownsRow base e size v n xs) : ∀ k, v.ownBlock = some k → base ≤ k := by
  obtain ⟨_, ⟨h1, _⟩ | ⟨g, cap, cur, h1, h2, _⟩⟩ := h
  · subst h1; intro k hk; cases hk
  · subst h1; intro k hk; simp only [Value.ownBlock, Option.some.injEq] at hk; omega
theorem owns_empty (w : World) : (w.alloc (.cells #[] 3)).ownsRow w.heap.size 3 1 (.slice (some ⟨w.heap.size, 0, none⟩) 0 0) 0 [] := by
  refine ⟨rfl, .inr ⟨w.heap.size, 0, #[], rfl, Nat.le_refl _, heap_alloc_new _ _, Nat.le_refl _, by simp, rfl, rfl⟩⟩
theorem addr_add (b o i : Nat) : Addr.add ⟨b, o, none⟩ i = ⟨b, o + i, none⟩ := by unfold Addr.add; split <;> simp_all
set_option maxHeartbeats 1000000 in
theorem c_clone (v : Value) (zs : List Int) (w : World) (b : Nat) (hv : IntsNe b w v zs) (hn : zs.length ≤ 1000000000000) :
    Calls Try.prog 37 #[v] w fun e w' => ∃ v', e = .returned v' ∧ Ints 3 w' v' zs ∧ Keeps w w' none_ := by
  obtain ⟨i0, hi, hz0, hz1, hz2⟩ := info_parts info3
  have fin : ∀ (v' : Value) (w' : World), (w'.ownsRow w.heap.size 3 1 v' zs.length (zs.map (Value.int .i64))) → Keeps w w' none_ → ∃ v'', Ending.returned v' = .returned v'' ∧ Ints 3 w' v'' zs ∧ Keeps w w' none_ := fun v' w' h k => ⟨v', rfl, ints_owns h, k⟩
  rcases hv with ⟨a, cap, rfl, rfl⟩ | ⟨kb, ko, cap, rfl, h2, h3, h4, h5⟩
  · cases a with
    | none =>
      have heq := fun (w : World) => Go.Lib.run_eql_slice_nil (P := Try.prog) w 22 3 none 0 cap 0 0 Try.underlying22
      clear fin
      go_enter Try.func37, Try.ntmps37
      go_wp2_with fail
      go_ret
      exact ⟨_, rfl, ints_nil _ _, Keeps.refl _ _⟩
    | some a =>
      have heq := fun (w : World) => Go.Lib.run_eql_slice_nil (P := Try.prog) w 22 3 (some a) 0 cap 0 0 Try.underlying22
      have HF := Lib.hid fin; clear fin
      go_enter Try.func37, Try.ntmps37
      go_wp2_with (at_builtin; refine wpList_append_own _ rfl _ _ 22 rfl w.heap.size 3 i0 (.int .i64 0) 1 8 Try.underlying22 hi hz0 hz1 hz2 rfl (by decide) _ _ _ rfl (owns_empty w) a 0 cap [] rfl rfl (by simp) (by simp) (by simp) (by simp) (by simp) ?_; intro v' w1 hown hg _)
      have HO := Lib.hid hown; have HG := Lib.hid hg; clear hown hg
      go_wp2_with fail
      go_ret
      exact HF.out _ _ HO.out (keeps_grown ((Keeps.refl _ _).alloc _) HG.out (fun k hk => .inr (by simp [Act.eval, Value.ownBlock] at hk; omega)))
  · have heq := fun (w : World) => Go.Lib.run_eql_slice_nil (P := Try.prog) w 22 3 (some ⟨kb, ko, none⟩) zs.length cap 0 0 Try.underlying22
    have H5 := Lib.hid h5; clear h5
    have HF := Lib.hid fin; clear fin
    have c1 : ∀ (j : Nat) (u : Value), (zs.map (Value.int .i64))[j]? = some u → (w.alloc (.cells #[] 3)).cell? (Addr.add ⟨kb, ko, none⟩ j) = some u := by
      intro j u hu
      rw [addr_add]
      simp only [List.getElem?_map, Option.map_eq_some_iff] at hu
      obtain ⟨z, hz, rfl⟩ := hu
      obtain ⟨hj, hz⟩ := List.getElem?_eq_some_iff.1 hz
      have := H5.out j hj
      rw [show zs.getD j 0 = z from by simp [List.getD_eq_getElem?_getD, List.getElem?_eq_getElem hj, hz]] at this
      exact cell_alloc this _
    have c2 : ∀ u ∈ zs.map (Value.int .i64), u.oneCell' = true := by
      intro u hu; obtain ⟨z, _, rfl⟩ := List.mem_map.1 hu; rfl
    have C1 := Lib.hid c1; have C2 := Lib.hid c2; clear c1 c2
    go_enter Try.func37, Try.ntmps37
    go_wp2_with (at_builtin; refine wpList_append_own _ rfl _ _ 22 rfl w.heap.size 3 i0 (.int .i64 0) 1 8 Try.underlying22 hi hz0 hz1 hz2 rfl (by decide) _ _ _ rfl (owns_empty w) ⟨kb, ko, none⟩ zs.length cap (zs.map (Value.int .i64)) rfl (by simp) C1.out C2.out (by unfold maxLen; omega) (by omega) (by simp) ?_; intro v' w1 hown hg _)
    have HO := Lib.hid hown; have HG := Lib.hid hg; clear hown hg
    go_wp2_with fail
    go_ret
    refine HF.out _ _ ?_ (keeps_grown ((Keeps.refl _ _).alloc _) HG.out (fun k hk => .inr (by simp [Act.eval, Value.ownBlock] at hk; omega)))
    have := HO.out
    simpa using this
end Go.Proofs.Ytcnkbpghafhceaa
