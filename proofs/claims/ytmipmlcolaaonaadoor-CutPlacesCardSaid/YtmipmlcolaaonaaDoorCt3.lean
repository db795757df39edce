/- Helper text of this claim: Ct3: lemmas and contracts that the proved statement rests on; no conditions of its own. -/
import Derived.Test.YtmipmlcolaaonaaDoorCt2
namespace Go.Cs
set_option linter.unusedVariables false
theorem cmpC_zero (k : Nat) (r : Int) (h : cmpC k r = 0) (hk : k < 19) : (cutSp k).1 ≤ r ∧ r ≤ (cutSp k).2.1 := by
  have := cutT_fact ⟨k, hk⟩
  simp only at this
  unfold cmpC cmp3 at h
  split at h
  · assumption
  · repeat' split at h
    all_goals omega
theorem cmpC_out (k : Nat) (r : Int) (hp : Pos (fun i => cmpC i r) 19 k) (hn : ¬ (k < 19 ∧ cmpC k r = 0)) (m : Nat) (hm : m < 19) : ¬ ((cutSp m).1 ≤ r ∧ r ≤ (cutSp m).2.1) := by
  obtain ⟨h1, h2, h3⟩ := hp
  intro hc
  have h0 : cmpC m r = 0 := by unfold cmpC; rw [if_pos hc]
  have hge : ¬ m < k := fun h => by have := h2 m h; dsimp only at this; omega
  by_cases e : m = k
  · exact hn ⟨by omega, by rw [← e]; exact h0⟩
  · have h4 := h3 k (Nat.le_refl _) (by omega)
    dsimp only at h4
    have h5 : ¬ cmpC k r < 0 := by omega
    rw [cmpC_neg k (by omega)] at h5
    have h6 := cutT_up ⟨k, by omega⟩ ⟨m, hm⟩ (by simp only; omega)
    simp only at h6
    omega
set_option maxHeartbeats 4000000 in
theorem kind_found (k : Nat) (hk : k < 19) (r : Nat) (h192 : 192 ≤ r) (hr : r ≤ 1114111) (h : (cutSp k).1 ≤ (r : Int) ∧ (r : Int) ≤ (cutSp k).2.1) : ((kindN r : Nat) : Int) = (cutSp k).2.2 := by
  match k, hk with
  | 0, _ | 1, _ | 2, _ | 3, _ | 4, _ | 5, _ | 6, _ | 7, _ | 8, _ | 9, _ | 10, _ | 11, _ | 12, _ | 13, _ | 14, _ | 15, _ | 16, _ | 17, _ | 18, _ =>
    simp only [cutSp, cutT, List.getD_cons_zero, List.getD_cons_succ] at h ⊢
    unfold kindN
    repeat (first | rw [if_pos (by omega)] | rw [if_neg (by omega)])
    try rfl
  | n + 19, hk => omega
set_option maxHeartbeats 4000000 in
theorem kind_out (r : Nat) (h192 : 192 ≤ r) (hr : r ≤ 1114111) (h : ∀ m, m < 19 → ¬ ((cutSp m).1 ≤ (r : Int) ∧ (r : Int) ≤ (cutSp m).2.1)) : kindN r = 1 := by
  have h0 := h 0 (by omega); have h1 := h 1 (by omega); have h2 := h 2 (by omega); have h3 := h 3 (by omega); have h4 := h 4 (by omega); have h5 := h 5 (by omega); have h6 := h 6 (by omega)
  have h7 := h 7 (by omega); have h8 := h 8 (by omega); have h9 := h 9 (by omega); have h10 := h 10 (by omega); have h11 := h 11 (by omega); have h12 := h 12 (by omega); have h13 := h 13 (by omega)
  have h14 := h 14 (by omega); have h15 := h 15 (by omega); have h16 := h 16 (by omega); have h17 := h 17 (by omega); have h18 := h 18 (by omega)
  clear h
  simp only [cutSp, cutT, List.getD_cons_zero, List.getD_cons_succ] at h0 h1 h2 h3 h4 h5 h6 h7 h8 h9 h10 h11 h12 h13 h14 h15 h16 h17 h18
  unfold kindN
  repeat (first | rw [if_pos (by omega)] | rw [if_neg (by omega)])
/-! ### the lower case by its table -/
theorem cmpF_zero (k : Nat) (r : Int) (h : cmpF k r = 0) : (foldSp k).1 ≤ r ∧ r ≤ (foldSp k).2.1 := by
  unfold cmpF at h
  repeat' split at h
  all_goals omega
theorem cmpF_out (k : Nat) (r : Int) (hp : Pos (fun i => cmpF i r) 17 k) (hn : ¬ (k < 17 ∧ cmpF k r = 0)) (m : Nat) (hm : m < 17) : ¬ ((foldSp m).1 ≤ r ∧ r ≤ (foldSp m).2.1) := by
  obtain ⟨h1, h2, h3⟩ := hp
  intro hc
  have h0 : cmpF m r = 0 := by unfold cmpF; rw [if_neg (by omega), if_neg (by omega)]
  have hge : ¬ m < k := fun h => by have := h2 m h; dsimp only at this; omega
  by_cases e : m = k
  · exact hn ⟨by omega, by rw [← e]; exact h0⟩
  · have h4 := h3 k (Nat.le_refl _) (by omega)
    dsimp only at h4
    have h5 : ¬ cmpF k r < 0 := by omega
    rw [cmpF_neg] at h5
    have h6 := foldT_up ⟨k, by omega⟩ ⟨m, hm⟩ (by simp only; omega)
    simp only at h6
    omega
set_option maxHeartbeats 4000000 in
theorem low_found (k : Nat) (hk : k < 17) (r : Nat) (h : (foldSp k).1 ≤ (r : Int) ∧ (r : Int) ≤ (foldSp k).2.1) : ((lowC r : Nat) : Int) = if ((r : Int) - (foldSp k).1) % (foldSp k).2.2.1 = 0 then (r : Int) + (foldSp k).2.2.2 else r := by
  match k, hk with
  | 0, _ | 1, _ | 2, _ | 3, _ | 4, _ | 5, _ | 6, _ | 7, _ | 8, _ | 9, _ | 10, _ | 11, _ | 12, _ | 13, _ | 14, _ | 15, _ | 16, _ =>
    simp only [foldSp, foldT, List.getD_cons_zero, List.getD_cons_succ] at h ⊢
    unfold lowC
    repeat (first | rw [if_pos (by omega)] | rw [if_neg (by omega)])
    try (repeat' split)
    all_goals omega
  | n + 17, hk => omega
set_option maxHeartbeats 4000000 in
theorem low_out (r : Nat) (h : ∀ m, m < 17 → ¬ ((foldSp m).1 ≤ (r : Int) ∧ (r : Int) ≤ (foldSp m).2.1)) : lowC r = r := by
  have h0 := h 0 (by omega); have h1 := h 1 (by omega); have h2 := h 2 (by omega); have h3 := h 3 (by omega); have h4 := h 4 (by omega); have h5 := h 5 (by omega); have h6 := h 6 (by omega)
  have h7 := h 7 (by omega); have h8 := h 8 (by omega); have h9 := h 9 (by omega); have h10 := h 10 (by omega); have h11 := h 11 (by omega); have h12 := h 12 (by omega); have h13 := h 13 (by omega)
  have h14 := h 14 (by omega); have h15 := h 15 (by omega); have h16 := h 16 (by omega)
  clear h
  simp only [foldSp, foldT, List.getD_cons_zero, List.getD_cons_succ] at h0 h1 h2 h3 h4 h5 h6 h7 h8 h9 h10 h11 h12 h13 h14 h15 h16
  unfold lowC
  repeat (first | rw [if_pos (by omega)] | rw [if_neg (by omega)])
end Go.Cs
