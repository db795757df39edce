/- Helper text of this claim: Ct9: lemmas and contracts that the proved statement rests on; no conditions of its own. -/
import Derived.Test.YtmipmlcolaaonaaDoorCt8
namespace Go.Cs
open Go.Lib
set_option linter.unusedVariables false
/-! ### Places in order, and what lies between them -/
def Zeros (u : List (Nat × Nat)) : Prop := ∀ q ∈ u, q.1 = 0
def Chain (u0 : List (Nat × Nat)) : Nat → List (Nat × Nat) → Prop
  | e, [] => ∃ a b, u0 = a ++ b ∧ W a = e ∧ Zeros b
  | e, p :: ps => ∃ a z s c, u0 = a ++ z ++ s ++ c ∧ W a = e ∧ Zeros z ∧ p = (W a + W z, W a + W z + W s) ∧ Seg s ∧ Chain u0 p.2 ps
theorem wd_chain (u0 : List (Nat × Nat)) : ∀ (r pre z mid : List (Nat × Nat)) (f : Option Nat), u0 = pre ++ z ++ mid ++ r → Zeros z → (∀ q ∈ r, q.1 ≤ 2 ∧ q.2 ≤ 4) → ((f = none ∧ mid = []) ∨ (f = some (W pre + W z) ∧ Ones mid)) →
    Chain u0 (W pre) (wd r (W pre + W z + W mid) f)
  | [], pre, z, mid, f, he, hz, _, hf => by
    rcases hf with ⟨rfl, rfl⟩ | ⟨rfl, ho⟩
    · exact ⟨pre, z, by simpa using he, rfl, hz⟩
    · refine ⟨pre, z, mid, [], he, rfl, hz, rfl, .inl ho, pre ++ z ++ mid, [], by simpa using he, by simp only [W_app], by simp [Zeros]⟩
  | (k, n) :: r, pre, z, mid, f, he, hz, hk, hf => by
    have hk0 := hk (k, n) (by simp)
    have hkr : ∀ q ∈ r, q.1 ≤ 2 ∧ q.2 ≤ 4 := fun q hq => hk q (by simp [hq])
    have nil0 : Zeros [] := by simp [Zeros]
    simp only [wd]
    split
    · rename_i h0
      subst h0
      rcases hf with ⟨rfl, rfl⟩ | ⟨rfl, ho⟩
      · have g := wd_chain u0 r pre (z ++ [(0, n)]) [] none (by rw [he]; simp) (fun q hq => by
          rcases List.mem_append.1 hq with h | h
          · exact hz q h
          · simp at h; rw [h]) hkr (.inl ⟨rfl, rfl⟩)
        simp only [W_app, W_cons, W_nil, Nat.add_zero] at g
        simp only [close, List.nil_append, W_nil, Nat.add_zero]
        rw [← Nat.add_assoc] at g
        exact g
      · have g := wd_chain u0 r (pre ++ z ++ mid) [(0, n)] [] none (by rw [he]; simp) (by simp [Zeros]) hkr (.inl ⟨rfl, rfl⟩)
        simp only [W_app, W_cons, W_nil, Nat.add_zero] at g
        exact ⟨pre, z, mid, (0, n) :: r, he, rfl, hz, rfl, .inl ho, g⟩
    · split
      · rename_i h0 h2
        subst h2
        rcases hf with ⟨rfl, rfl⟩ | ⟨rfl, ho⟩
        · have g := wd_chain u0 r (pre ++ z ++ [(2, n)]) [] [] none (by rw [he]; simp) nil0 hkr (.inl ⟨rfl, rfl⟩)
          simp only [W_app, W_cons, W_nil, Nat.add_zero] at g
          simp only [close, List.nil_append, W_nil, Nat.add_zero]
          exact ⟨pre, z, [(2, n)], r, by rw [he]; simp, rfl, hz, by simp only [W_cons, W_nil, Nat.add_zero], .inr ⟨n, rfl⟩, g⟩
        · have g := wd_chain u0 r (pre ++ z ++ mid ++ [(2, n)]) [] [] none (by rw [he]; simp) nil0 hkr (.inl ⟨rfl, rfl⟩)
          simp only [W_app, W_cons, W_nil, Nat.add_zero] at g
          refine ⟨pre, z, mid, (2, n) :: r, he, rfl, hz, rfl, .inl ho, pre ++ z ++ mid, [], [(2, n)], r, by rw [he]; simp, by simp only [W_app], nil0, by simp only [W_app, W_cons, W_nil, Nat.add_zero], .inr ⟨n, rfl⟩, g⟩
      · rename_i h0 h2
        have hk1 : k = 1 := by dsimp only at hk0; omega
        subst hk1
        have hone : Ones [(1, n)] := ⟨by simp, by simp, by simp only [W_cons, W_nil]; dsimp only at hk0 ⊢; omega⟩
        rcases hf with ⟨rfl, rfl⟩ | ⟨rfl, ho⟩
        · have g := wd_chain u0 r pre z [(1, n)] _ (by rw [he]; simp) hz hkr (.inr ⟨rfl, hone⟩)
          simp only [W_cons, W_nil, Nat.add_zero] at g ⊢
          exact g
        · simp only
          split
          · rename_i h40
            have g := wd_chain u0 r (pre ++ z ++ mid) [] [(1, n)] _ (by rw [he]; simp) nil0 hkr (.inr ⟨rfl, hone⟩)
            simp only [W_app, W_cons, W_nil, Nat.add_zero] at g
            exact ⟨pre, z, mid, (1, n) :: r, he, rfl, hz, rfl, .inl ho, g⟩
          · rename_i h40
            have ho3 : Ones (mid ++ [(1, n)]) := ⟨by simp, fun q hq => by
              rcases List.mem_append.1 hq with h | h
              · exact ho.2.1 q h
              · simp at h; rw [h], by simp only [W_app, W_cons, W_nil]; omega⟩
            have g := wd_chain u0 r pre z (mid ++ [(1, n)]) _ (by rw [he]; simp) hz hkr (.inr ⟨rfl, ho3⟩)
            simp only [W_app, W_cons, W_nil, Nat.add_zero] at g
            rw [← Nat.add_assoc] at g
            exact g
/-- Classes and code points. -/
theorem us_runes (l : List UInt8) : (us l).map (·.1) = (runes l).map kindN := by
  induction l using dec_ind with
  | nil => rfl
  | step l hne ih =>
    rw [us_step l hne, runes_step l hne, List.map_cons, List.map_cons, ih, clsN_eq]
def lettersB (l : List UInt8) : Bool := decide (runes l ≠ []) && (runes l).all fun c => decide (kindN c ≠ 0)
def noneB (l : List UInt8) : Bool := (runes l).all fun c => decide (kindN c = 0)
theorem none_of {l : List UInt8} (h : Zeros (us l)) : noneB l = true := by
  unfold noneB
  rw [List.all_eq_true]
  intro c hc
  have : kindN c ∈ (us l).map (·.1) := by rw [us_runes]; exact List.mem_map_of_mem hc
  obtain ⟨q, hq, e⟩ := List.mem_map.1 this
  rw [← e, h q hq]; rfl
theorem letters_of {l : List UInt8} (h : Seg (us l)) : lettersB l = true := by
  unfold lettersB
  have hall : ∀ q ∈ us l, q.1 ≠ 0 := by
    rcases h with ⟨_, h, _⟩ | ⟨n, h⟩
    · intro q hq; rw [h q hq]; decide
    · intro q hq; rw [h] at hq; simp at hq; rw [hq]; show (2 : Nat) ≠ 0; decide
  have hne : us l ≠ [] := by
    rcases h with ⟨h, _⟩ | ⟨n, h⟩
    · exact h
    · rw [h]; simp
  rw [Bool.and_eq_true, List.all_eq_true, decide_eq_true_eq]
  refine ⟨fun e => ?_, fun c hc => ?_⟩
  · have := us_runes l
    rw [e] at this
    exact hne (List.map_eq_nil_iff.1 this)
  · have : kindN c ∈ (us l).map (·.1) := by rw [us_runes]; exact List.mem_map_of_mem hc
    obtain ⟨q, hq, e⟩ := List.mem_map.1 this
    rw [← e]; exact decide_eq_true (hall q hq)
end Go.Cs
