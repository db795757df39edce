/- Helper text of this claim: Ct8: lemmas and contracts that the proved statement rests on; no conditions of its own. -/
import Derived.Test.YtmipmlcolaaonaaDoorCt6
namespace Go.Cs
open Go.Lib
set_option linter.unusedVariables false
/-! ### Two texts with a separator between -/
theorem wd_sep (n : Nat) (v : List (Nat × Nat)) : ∀ (u : List (Nat × Nat)) (p : Nat) (f : Option Nat), wd (u ++ (0, n) :: v) p f = wd u p f ++ wd v (p + W u + n) none
  | [], p, f => by rw [List.nil_append, wd_0, W_nil, Nat.add_zero]; rfl
  | (k, m) :: u, p, f => by
    have h := fun f' => wd_sep n v u (p + m) f'
    simp only [List.cons_append, wd, W_cons]
    rw [h, h, ← Nat.add_assoc]
    split
    · rw [List.append_assoc]
    · split
      · simp [List.append_assoc]
      · split
        · split
          · rfl
          · rw [h]
        · rfl
def shiftP (d : Nat) (p : Nat × Nat) : Nat × Nat := (p.1 + d, p.2 + d)
theorem wd_shift (d : Nat) : ∀ (u : List (Nat × Nat)) (p : Nat) (f : Option Nat), wd u (p + d) (f.map (· + d)) = (wd u p f).map (shiftP d)
  | [], p, f => by cases f <;> simp [wd, close, shiftP]
  | (k, n) :: u, p, f => by
    have h1 := wd_shift d u (p + n) none
    have h2 := wd_shift d u (p + n) (some p)
    have e : p + d + n = p + n + d := by omega
    simp only [Option.map_none, Option.map_some] at h1 h2
    cases f with
    | none =>
      simp only [wd, Option.map_none, close, List.nil_append]
      rw [e, h1, h2]
      split
      · rfl
      · split
        · simp [shiftP]
        · rfl
    | some a =>
      have h3 := wd_shift d u (p + n) (some a)
      simp only [Option.map_some] at h3
      simp only [wd, Option.map_some, close]
      rw [e, h1, h2, h3]
      split
      · simp [shiftP]
      · split
        · simp [shiftP]
        · have : (40 < p + n + d - (a + d)) ↔ (40 < p + n - a) := by omega
          simp only [this]
          split
          · simp [shiftP]
          · rfl
def shiftW (d : Nat) (x : List UInt8 × Nat × Nat) : List UInt8 × Nat × Nat := (x.1, x.2.1 + d, x.2.2 + d)
theorem us_sep (a b : List UInt8) (c : Nat) (hc : scal c) (hk : kindN c = 0) : us (a ++ enc c ++ b) = us a ++ (0, (enc c).length) :: us b := by
  obtain ⟨x, t, he, hx, _⟩ := enc_shape c hc
  rw [List.append_assoc, us_app a _ (fun y hy => by rw [he] at hy; simp at hy; subst hy; exact hx)]
  congr 1
  have hd := dec_enc c hc b
  rw [us_step _ (by rw [he]; simp), hd, clsN_eq]
  simp only [List.drop_left', hk]
theorem words_both (a b : List UInt8) (c : Nat) (hc : scal c) (hk : kindN c = 0) : wordsL (a ++ enc c ++ b) = wordsL a ++ (wordsL b).map (shiftW (a.length + (enc c).length)) := by
  unfold wordsL
  rw [us_sep a b c hc hk, wd_sep, us_W, Nat.zero_add]
  have h := wd_shift (a.length + (enc c).length) (us b) 0 none
  rw [Nat.zero_add] at h
  have h : wd (us b) (a.length + (enc c).length) none = _ := h
  rw [h, List.map_append, List.map_map, List.map_map]
  congr 1
  · refine List.map_congr_left fun p hp => ?_
    obtain ⟨h1, h2, h3⟩ := places_bd a p hp
    have e : cutL (a ++ enc c ++ b) p = cutL a p := by
      unfold cutL
      rw [List.append_assoc, List.take_append_of_le_length h2.le]
    rw [e]
  · refine List.map_congr_left fun p hp => ?_
    have e : cutL (a ++ enc c ++ b) (shiftP (a.length + (enc c).length) p) = cutL b p := by
      unfold cutL shiftP
      dsimp only
      have hl : (a ++ enc c).length = a.length + (enc c).length := List.length_append
      rw [← hl, Nat.add_comm p.2, Nat.add_comm p.1, List.take_append, List.take_of_length_le (by omega), Nat.add_sub_cancel_left, List.drop_append, List.drop_of_length_le (by omega), Nat.add_sub_cancel_left, List.nil_append]
    show (foldL (cutL (a ++ enc c ++ b) (shiftP (a.length + (enc c).length) p)), _, _) = _
    rw [e]; rfl
end Go.Cs
namespace Go.Cs
open Go.Lib
theorem runes_one (r : Int) (h1 : (runes (encodeRune r)).length = 1) (he : (((runes (encodeRune r)).getD 0 0 : Nat) : Int) = r) : ∃ c : Nat, scal c ∧ r = (c : Int) := by
  by_cases hne : encodeRune r = []
  · rw [hne] at h1; exact absurd h1 (by decide)
  · rw [runes_step _ hne] at he
    exact ⟨(decodeL (encodeRune r)).1, dec_scal _ hne, he.symm⟩
theorem words_small (l : List UInt8) (x : List UInt8 × Nat × Nat) (hx : x ∈ wordsL l) : x.2.1 ≤ l.length ∧ x.2.2 ≤ l.length := by
  unfold wordsL at hx
  obtain ⟨p, hp, rfl⟩ := List.mem_map.1 hx
  obtain ⟨h1, h2, h3⟩ := places_bd l p hp
  exact ⟨h1.le, h2.le⟩
end Go.Cs
