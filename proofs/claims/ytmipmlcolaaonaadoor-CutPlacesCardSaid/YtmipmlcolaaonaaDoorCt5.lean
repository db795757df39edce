/- Helper text of this claim: Ct5: lemmas and contracts that the proved statement rests on; no conditions of its own. -/
import Derived.Test.YtmipmlcolaaonaaDoorCt4
namespace Go.Cs
open Go.Lib
set_option linter.unusedVariables false
theorem Bd.snoc {l : List UInt8} {n : Nat} (h : Bd l n) : l.drop n ≠ [] → Bd l (n + (decodeL (l.drop n)).2) := by
  induction h with
  | zero l => intro hne; rw [List.drop_zero] at *; rw [Nat.zero_add]; exact .step l 0 hne (.zero _)
  | step l n hne _ ih =>
    intro h
    rw [← List.drop_drop] at h
    have := ih h
    rw [← List.drop_drop, Nat.add_assoc]
    exact .step l _ hne this
theorem Bd.take {l : List UInt8} {n : Nat} (h : Bd l n) : ∀ b, n ≤ b → Bd (l.take b) n := by
  induction h with
  | zero l => exact fun b _ => .zero _
  | step l n hne _ ih =>
    intro b hb
    have hw := decodeL_width l
    have hd := dec_take l b hne (by omega)
    have hl : 0 < l.length := List.length_pos_iff.2 hne
    have hne' : l.take b ≠ [] := by
      intro e
      have := congrArg List.length e
      rw [List.length_take, List.length_nil] at this
      omega
    have h1 := ih (b - (decodeL l).2) (by omega)
    rw [← hd]
    refine .step _ _ hne' ?_
    rw [hd, List.drop_take]
    exact h1
theorem wd_bd (l : List UInt8) : ∀ (d m : Nat) (f : Option Nat), l.length - m ≤ d → Bd l m → (∀ a, f = some a → Bd l a ∧ a ≤ m) → ∀ p ∈ wd (us (l.drop m)) m f, Bd l p.1 ∧ Bd l p.2 ∧ p.1 ≤ p.2 := by
  intro d
  induction d with
  | zero =>
    intro m f hd hm hf p hp
    rw [List.drop_eq_nil_of_le (by omega), us_nil] at hp
    cases f with
    | none => simp [wd, close] at hp
    | some a =>
      simp only [wd, close, List.mem_singleton] at hp
      subst hp
      exact ⟨(hf a rfl).1, hm, (hf a rfl).2⟩
  | succ d ih =>
    intro m f hd hm hf p hp
    have hcl : p ∈ close f m → Bd l p.1 ∧ Bd l p.2 ∧ p.1 ≤ p.2 := by
      intro hp
      cases f with
      | none => simp [close] at hp
      | some a =>
        simp only [close, List.mem_singleton] at hp
        subst hp
        exact ⟨(hf a rfl).1, hm, (hf a rfl).2⟩
    by_cases hne : l.drop m = []
    · rw [hne, us_nil] at hp; exact hcl hp
    · have hs := hm.snoc hne
      have hw := decodeL_width (l.drop m)
      have hlt : m < l.length := by
        apply Classical.byContradiction; intro h
        exact hne (List.drop_eq_nil_of_le (by omega))
      rw [us_step _ hne, List.drop_drop] at hp
      generalize (decodeL (l.drop m)).2 = n at *
      have go := fun f' hf' => ih (m + n) f' (by omega) hs hf' p
      simp only [wd] at hp
      split at hp
      · rcases List.mem_append.1 hp with h | h
        · exact hcl h
        · exact go none (fun a h => by cases h) h
      · split at hp
        · rcases List.mem_append.1 hp with h | h
          · exact hcl h
          · rcases List.mem_cons.1 h with h | h
            · subst h; exact ⟨hm, hs, by omega⟩
            · exact go none (fun a h => by cases h) h
        · split at hp
          · rename_i a
            split at hp
            · rcases List.mem_cons.1 hp with h | h
              · subst h; exact ⟨(hf a rfl).1, hm, (hf a rfl).2⟩
              · exact go (some m) (fun a h => by injection h with h; subst h; exact ⟨hm, by omega⟩) h
            · exact go (some a) (fun b h => by injection h with h; subst h; exact ⟨(hf a rfl).1, by have := (hf a rfl).2; omega⟩) hp
          · exact go (some m) (fun a h => by injection h with h; subst h; exact ⟨hm, by omega⟩) hp
theorem places_bd (l : List UInt8) (p : Nat × Nat) (hp : p ∈ wd (us l) 0 none) : Bd l p.1 ∧ Bd l p.2 ∧ p.1 ≤ p.2 :=
  wd_bd l l.length 0 none (by omega) (.zero l) (fun a h => by cases h) p (by simpa using hp)
theorem fold_cut (l : List UInt8) (p : Nat × Nat) (h1 : Bd l p.1) (h2 : Bd l p.2) (h : p.1 ≤ p.2) : foldL (cutL l p) = cutL (foldL l) p := by
  unfold cutL
  rw [(fold_take (h1.take p.2 h)).2, (fold_take h2).1]
theorem words_fold (l : List UInt8) : wordsL (foldL l) = wordsL l := by
  unfold wordsL
  rw [us_fold]
  refine List.map_congr_left fun p hp => ?_
  obtain ⟨h1, h2, h3⟩ := places_bd l p hp
  rw [← fold_cut l p h1 h2 h3, fold_fold]
end Go.Cs
