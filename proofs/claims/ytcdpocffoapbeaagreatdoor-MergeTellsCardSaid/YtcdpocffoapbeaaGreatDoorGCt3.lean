/- Helper text of this claim: lemmas and contracts that the proved statement rests on; no conditions of its own. -/
import Derived.Lib.Small
import Derived.Test.YtcdpocffoapbeaaGreatDoorGOpn
namespace Go.Cs
set_option linter.unusedVariables false
set_option maxHeartbeats 4000000
set_option linter.unusedVariables false
theorem zmP (k : Nat) (r : Int) (h : cmpC k r = 0) (hk : k < 19) : (cutSp k).1 ≤ r ∧ r ≤ (cutSp k).2.1 := by
 have := zeE ⟨k, hk⟩
 simp only at this
 unfold cmpC cmp3 at h
 split at h
 ·assumption
 ·repeat' split at h
  all_goals omega
theorem znN (k : Nat) (r : Int) (hp : Pos (fun i => cmpC i r) 19 k) (hn : ¬ (k < 19 ∧ cmpC k r = 0)) (m : Nat) (hm : m < 19) : ¬ ((cutSp m).1 ≤ r ∧ r ≤ (cutSp m).2.1) := by
 obtain ⟨h1, h2, h3⟩ := hp
 intro hc
 have h0 : cmpC m r = 0 := by unfold cmpC; rw [if_pos hc]
 have hge : ¬ m < k := fun h => by have := h2 m h; dsimp only at this; omega
 by_cases e : m = k
 ·exact hn ⟨by omega, by rw [← e]; exact h0⟩
 ·have h4 := h3 k (Nat.le_refl _) (by omega)
  dsimp only at h4
  have h5 : ¬ cmpC k r < 0 := by omega
  rw [zke k (by omega)] at h5
  have h6 := zlL ⟨k, by omega⟩ ⟨m, hm⟩ (by simp only; omega)
  simp only at h6
  omega
theorem zkx (k : Nat) (hk : k < 19) (r : Nat) (h192 : 192 ≤ r) (hr : r ≤ 1114111) (h : (cutSp k).1 ≤ (r : Int) ∧ (r : Int) ≤ (cutSp k).2.1) : ((kindN r : Nat) : Int) = (cutSp k).2.2 := by
 match k, hk with
 | 0, _ | 1, _ | 2, _ | 3, _ | 4, _ | 5, _ | 6, _ | 7, _ | 8, _ | 9, _ | 10, _ | 11, _ | 12, _ | 13, _ | 14, _ | 15, _ | 16, _ | 17, _ | 18, _ =>
  simp only [cutSp, cutT, List.getD_cons_zero, List.getD_cons_succ] at h ⊢
  unfold kindN
  repeat (first | rw [if_pos (by omega)] | rw [if_neg (by omega)])
  try rfl
 | n + 19, hk => omega
theorem zob (r : Nat) (h192 : 192 ≤ r) (hr : r ≤ 1114111) (h : ∀ m, m < 19 → ¬ ((cutSp m).1 ≤ (r : Int) ∧ (r : Int) ≤ (cutSp m).2.1)) : kindN r = 1 := by
 have h0 := h 0 (by omega); have h1 := h 1 (by omega); have h2 := h 2 (by omega); have h3 := h 3 (by omega); have h4 := h 4 (by omega); have h5 := h 5 (by omega); have h6 := h 6 (by omega)
 have h7 := h 7 (by omega); have h8 := h 8 (by omega); have h9 := h 9 (by omega); have h10 := h 10 (by omega); have h11 := h 11 (by omega); have h12 := h 12 (by omega); have h13 := h 13 (by omega)
 have h14 := h 14 (by omega); have h15 := h 15 (by omega); have h16 := h 16 (by omega); have h17 := h 17 (by omega); have h18 := h 18 (by omega)
 clear h
 simp only [cutSp, cutT, List.getD_cons_zero, List.getD_cons_succ] at h0 h1 h2 h3 h4 h5 h6 h7 h8 h9 h10 h11 h12 h13 h14 h15 h16 h17 h18
 unfold kindN
 repeat (first | rw [if_pos (by omega)] | rw [if_neg (by omega)])
theorem zmE (k : Nat) (r : Int) (h : cmpF k r = 0) : (foldSp k).1 ≤ r ∧ r ≤ (foldSp k).2.1 := by
 unfold cmpF at h
 repeat' split at h
 all_goals omega
theorem znr (k : Nat) (r : Int) (hp : Pos (fun i => cmpF i r) 17 k) (hn : ¬ (k < 17 ∧ cmpF k r = 0)) (m : Nat) (hm : m < 17) : ¬ ((foldSp m).1 ≤ r ∧ r ≤ (foldSp m).2.1) := by
 obtain ⟨h1, h2, h3⟩ := hp
 intro hc
 have h0 : cmpF m r = 0 := by unfold cmpF; rw [if_neg (by omega), if_neg (by omega)]
 have hge : ¬ m < k := fun h => by have := h2 m h; dsimp only at this; omega
 by_cases e : m = k
 ·exact hn ⟨by omega, by rw [← e]; exact h0⟩
 ·have h4 := h3 k (Nat.le_refl _) (by omega)
  dsimp only at h4
  have h5 : ¬ cmpF k r < 0 := by omega
  rw [zju] at h5
  have h6 := zjh ⟨k, by omega⟩ ⟨m, hm⟩ (by simp only; omega)
  simp only at h6
  omega
theorem zms (k : Nat) (hk : k < 17) (r : Nat) (h : (foldSp k).1 ≤ (r : Int) ∧ (r : Int) ≤ (foldSp k).2.1) : ((lowC r : Nat) : Int) = if ((r : Int) - (foldSp k).1) % (foldSp k).2.2.1 = 0 then (r : Int) + (foldSp k).2.2.2 else r := by
 match k, hk with
 | 0, _ | 1, _ | 2, _ | 3, _ | 4, _ | 5, _ | 6, _ | 7, _ | 8, _ | 9, _ | 10, _ | 11, _ | 12, _ | 13, _ | 14, _ | 15, _ | 16, _ =>
  simp only [foldSp, foldT, List.getD_cons_zero, List.getD_cons_succ] at h ⊢
  unfold lowC
  repeat (first | rw [if_pos (by omega)] | rw [if_neg (by omega)])
  try (repeat' split)
  all_goals omega
 | n + 17, hk => omega
theorem zpz (r : Nat) (h : ∀ m, m < 17 → ¬ ((foldSp m).1 ≤ (r : Int) ∧ (r : Int) ≤ (foldSp m).2.1)) : lowC r = r := by
 have h0 := h 0 (by omega); have h1 := h 1 (by omega); have h2 := h 2 (by omega); have h3 := h 3 (by omega); have h4 := h 4 (by omega); have h5 := h 5 (by omega); have h6 := h 6 (by omega)
 have h7 := h 7 (by omega); have h8 := h 8 (by omega); have h9 := h 9 (by omega); have h10 := h 10 (by omega); have h11 := h 11 (by omega); have h12 := h 12 (by omega); have h13 := h 13 (by omega)
 have h14 := h 14 (by omega); have h15 := h 15 (by omega); have h16 := h 16 (by omega)
 clear h
 simp only [foldSp, foldT, List.getD_cons_zero, List.getD_cons_succ] at h0 h1 h2 h3 h4 h5 h6 h7 h8 h9 h10 h11 h12 h13 h14 h15 h16
 unfold lowC
 repeat (first | rw [if_pos (by omega)] | rw [if_neg (by omega)])
end Go.Cs
namespace Go.Cs
set_option linter.unusedVariables false
set_option maxHeartbeats 4000000
open Go.Lib
set_option linter.unusedVariables false
theorem zkR (c : Nat) (h : scal c) : runeLen (c : Int) = ((enc c).length : Nat) := by
 unfold scal at h
 unfold enc encodeRune runeLen
 rw [if_neg (by omega)]
 by_cases h1 : c < 128
 ·rw [if_pos (by omega), encodeRuneZ_one (by omega) (by omega)]; rfl
 by_cases h2 : c ≤ 2047
 ·rw [if_neg (by omega), if_pos (by omega), encodeRuneZ_two (by omega) (by omega)]; rfl
 by_cases h3 : c ≤ 65535
 ·rw [if_neg (by omega), if_neg (by omega), if_neg (by omega), if_pos (by omega), encodeRuneZ_three (by omega)]; rfl
 ·rw [if_neg (by omega), if_neg (by omega), if_neg (by omega), if_neg (by omega), if_pos (by omega), encodeRuneZ_four (by omega) (by omega)]; rfl
def mk (l : List UInt8) (p : Nat × Nat) : List UInt8 × Nat × Nat := (foldL (cutL l p), p.1, p.2)
theorem zib (l : List UInt8) : wordsL l = (wd (us l) 0 none).map (mk l) := rfl
def frI (f : Option Nat) : Int := match f with | none => -1 | some a => a
theorem wd_0 (n : Nat) (r : List (Nat × Nat)) (p : Nat) (f : Option Nat) : wd ((0, n) :: r) p f = close f p ++ wd r (p + n) none := rfl
theorem wd_2 (n : Nat) (r : List (Nat × Nat)) (p : Nat) (f : Option Nat) : wd ((2, n) :: r) p f = close f p ++ (p, p + n) :: wd r (p + n) none := rfl
theorem wd_1n (n : Nat) (r : List (Nat × Nat)) (p : Nat) : wd ((1, n) :: r) p none = wd r (p + n) (some p) := rfl
theorem wd_1s (n : Nat) (r : List (Nat × Nat)) (p a : Nat) : wd ((1, n) :: r) p (some a) = if 40 < p + n - a then (a, p) :: wd r (p + n) (some p) else wd r (p + n) (some a) := rfl
theorem Bd.snoc {l : List UInt8} {n : Nat} (h : Bd l n) : l.drop n ≠ [] → Bd l (n + (decodeL (l.drop n)).2) := by
 induction h with
 | zero l => intro hne; rw [List.drop_zero] at *; rw [Nat.zero_add]; exact .step l 0 hne (.zero _)
 | step l n hne _ ih =>
  intro h
  rw [← List.drop_drop] at h
  have := ih h
  rw [← List.drop_drop, Nat.add_assoc]
  exact .step l _ hne this
theorem Bd.take {l : List UInt8} {n : Nat} (h : Bd l n) : ∀ b, n ≤ b → Bd (l.take b) n := by
 induction h with
 | zero l => exact fun b _ => .zero _
 | step l n hne _ ih =>
  intro b hb
  have hw := decodeL_width l
  have hd := zgw l b hne (by omega)
  have hl : 0 < l.length := List.length_pos_iff.2 hne
  have hne' : l.take b ≠ [] := by
   intro e
   have := congrArg List.length e
   rw [List.length_take, List.length_nil] at this
   omega
  have h1 := ih (b - (decodeL l).2) (by omega)
  rw [← hd]
  refine .step _ _ hne' ?_
  rw [hd, List.drop_take]
  exact h1
theorem wd_bd (l : List UInt8) : ∀ (d m : Nat) (f : Option Nat), l.length - m ≤ d → Bd l m → (∀ a, f = some a → Bd l a ∧ a ≤ m) → ∀ p ∈ wd (us (l.drop m)) m f, Bd l p.1 ∧ Bd l p.2 ∧ p.1 ≤ p.2 := by
 intro d
 induction d with
 | zero =>
  intro m f hd hm hf p hp
  rw [List.drop_eq_nil_of_le (by omega), zdk] at hp
  cases f with
  | none => simp [wd, close] at hp
  | some a =>
   simp only [wd, close, List.mem_singleton] at hp
   subst hp
   exact ⟨(hf a rfl).1, hm, (hf a rfl).2⟩
 | succ d ih =>
  intro m f hd hm hf p hp
  have hcl : p ∈ close f m → Bd l p.1 ∧ Bd l p.2 ∧ p.1 ≤ p.2 := by
   intro hp
   cases f with
   | none => simp [close] at hp
   | some a =>
    simp only [close, List.mem_singleton] at hp
    subst hp
    exact ⟨(hf a rfl).1, hm, (hf a rfl).2⟩
  by_cases hne : l.drop m = []
  ·rw [hne, zdk] at hp; exact hcl hp
  ·have hs := hm.snoc hne
   have hw := decodeL_width (l.drop m)
   have hlt : m < l.length := by
    apply Classical.byContradiction; intro h
    exact hne (List.drop_eq_nil_of_le (by omega))
   rw [zbT _ hne, List.drop_drop] at hp
   generalize (decodeL (l.drop m)).2 = n at *
   have go := fun f' hf' => ih (m + n) f' (by omega) hs hf' p
   simp only [wd] at hp
   split at hp
   ·rcases List.mem_append.1 hp with h | h
    ·exact hcl h
    ·exact go none (fun a h => by cases h) h
   ·split at hp
    ·rcases List.mem_append.1 hp with h | h
     ·exact hcl h
     ·rcases List.mem_cons.1 h with h | h
      ·subst h; exact ⟨hm, hs, by omega⟩
      ·exact go none (fun a h => by cases h) h
    ·split at hp
     ·rename_i a
      split at hp
      ·rcases List.mem_cons.1 hp with h | h
       ·subst h; exact ⟨(hf a rfl).1, hm, (hf a rfl).2⟩
       ·exact go (some m) (fun a h => by injection h with h; subst h; exact ⟨hm, by omega⟩) h
      ·exact go (some a) (fun b h => by injection h with h; subst h; exact ⟨(hf a rfl).1, by have := (hf a rfl).2; omega⟩) hp
     ·exact go (some m) (fun a h => by injection h with h; subst h; exact ⟨hm, by omega⟩) hp
theorem zmW (l : List UInt8) (p : Nat × Nat) (hp : p ∈ wd (us l) 0 none) : Bd l p.1 ∧ Bd l p.2 ∧ p.1 ≤ p.2 :=
 wd_bd l l.length 0 none (by omega) (.zero l) (fun a h => by cases h) p (by simpa using hp)
def W (u : List (Nat × Nat)) : Nat := (u.map (·.2)).sum
theorem W_nil : W [] = 0 := rfl
theorem W_cons (q : Nat × Nat) (u : List (Nat × Nat)) : W (q :: u) = q.2 + W u := by simp [W]
theorem W_app (u v : List (Nat × Nat)) : W (u ++ v) = W u + W v := by simp [W]
def Ones (u : List (Nat × Nat)) : Prop := u ≠ [] ∧ (∀ q ∈ u, q.1 = 1) ∧ W u ≤ 40
def Seg (u : List (Nat × Nat)) : Prop := Ones u ∨ ∃ n, u = [(2, n)]
def Stops (r : List (Nat × Nat)) : Prop := r = [] ∨ ∃ n t, r = (0, n) :: t
theorem zlt (r : List (Nat × Nat)) (hr : Stops r) : ∀ (u : List (Nat × Nat)) (q a : Nat), (∀ x ∈ u, x.1 = 1) → q + W u ≤ a + 40 → wd (u ++ r) q (some a) = (a, q + W u) :: wd r (q + W u) none
 | [], q, a, _, _ => by
  rcases hr with rfl | ⟨n, t, rfl⟩
  ·simp [wd, close, W_nil]
  ·simp only [List.nil_append, W_nil, Nat.add_zero]
   rw [wd_0, wd_0]; simp [close]
 | (k, n) :: u, q, a, h1, h2 => by
  have hk : k = 1 := h1 (k, n) (by simp)
  subst hk
  rw [W_cons] at h2
  rw [List.cons_append, wd_1s, if_neg (by dsimp only at h2; omega), zlt r hr u (q + n) a (fun x hx => h1 x (by simp [hx])) (by dsimp only at h2; omega), W_cons, Nat.add_assoc]
theorem zkW (u r : List (Nat × Nat)) (hu : Seg u) (hr : Stops r) (q : Nat) : wd (u ++ r) q none = (q, q + W u) :: wd r (q + W u) none := by
 rcases hu with ⟨hne, h1, h2⟩ | ⟨n, rfl⟩
 ·match u, hne with
  | (k, n) :: u, _ =>
   have hk : k = 1 := h1 (k, n) (by simp)
   subst hk
   rw [W_cons] at h2
   rw [List.cons_append, wd_1n, zlt r hr u (q + n) q (fun x hx => h1 x (by simp [hx])) (by dsimp only at h2; omega), W_cons, Nat.add_assoc]
 ·rw [List.cons_append, List.nil_append, wd_2]; simp [close, W_cons, W_nil]
theorem zkb (u0 : List (Nat × Nat)) : ∀ (r pre mid : List (Nat × Nat)) (f : Option Nat), u0 = pre ++ mid ++ r → (∀ q ∈ r, q.1 ≤ 2 ∧ q.2 ≤ 4) → ((f = none ∧ mid = []) ∨ (f = some (W pre) ∧ Ones mid)) →
  ∀ p ∈ wd r (W pre + W mid) f, ∃ a b c, u0 = a ++ b ++ c ∧ p = (W a, W a + W b) ∧ Seg b
 | [], pre, mid, f, he, _, hf, p, hp => by
  rcases hf with ⟨rfl, rfl⟩ | ⟨rfl, ho⟩
  ·simp [wd, close] at hp
  ·simp only [wd, close, List.mem_singleton] at hp
   exact ⟨pre, mid, [], he, hp, .inl ho⟩
 | (k, n) :: r, pre, mid, f, he, hk, hf, p, hp => by
  have hk0 := hk (k, n) (by simp)
  have hkr : ∀ q ∈ r, q.1 ≤ 2 ∧ q.2 ≤ 4 := fun q hq => hk q (by simp [hq])
  have hcl : p ∈ close f (W pre + W mid) → ∃ a b c, u0 = a ++ b ++ c ∧ p = (W a, W a + W b) ∧ Seg b := by
   intro hp
   rcases hf with ⟨rfl, rfl⟩ | ⟨rfl, ho⟩
   ·simp [close] at hp
   ·simp only [close, List.mem_singleton] at hp
    exact ⟨pre, mid, (k, n) :: r, he, hp, .inl ho⟩
  have e1 : W (pre ++ mid ++ [(k, n)]) + W [] = W pre + W mid + n := by simp only [W_app, W_cons, W_nil]; omega
  have g1 := zkb u0 r (pre ++ mid ++ [(k, n)]) [] none (by rw [he]; simp) hkr (.inl ⟨rfl, rfl⟩) p
  rw [e1] at g1
  simp only [wd] at hp
  split at hp
  ·rcases List.mem_append.1 hp with h | h
   ·exact hcl h
   ·exact g1 h
  ·split at hp
   ·rename_i hk2
    rcases List.mem_append.1 hp with h | h
    ·exact hcl h
    ·rcases List.mem_cons.1 h with h | h
     ·exact ⟨pre ++ mid, [(k, n)], r, by rw [he]; simp, by rw [h]; simp only [W_app, W_cons, W_nil, Nat.add_zero], .inr ⟨n, by rw [hk2]⟩⟩
     ·exact g1 h
   ·rename_i h0 h2
    have hk1 : k = 1 := by dsimp only at hk0; omega
    subst hk1
    have hone : Ones [(1, n)] := ⟨by simp, by simp, by simp only [W_cons, W_nil]; dsimp only at hk0 ⊢; omega⟩
    have e2 : W (pre ++ mid) + W [(1, n)] = W pre + W mid + n := by simp only [W_app, W_cons, W_nil]; omega
    have g2 := zkb u0 r (pre ++ mid) [(1, n)] (some (W (pre ++ mid))) (by rw [he]; simp) hkr (.inr ⟨rfl, hone⟩) p
    rw [e2, W_app] at g2
    rcases hf with ⟨rfl, rfl⟩ | ⟨rfl, ho⟩
    ·exact g2 hp
    ·simp only at hp
     split at hp
     ·rcases List.mem_cons.1 hp with h | h
      ·exact ⟨pre, mid, (1, n) :: r, he, h, .inl ho⟩
      ·exact g2 h
     ·rename_i h40
      have ho3 : Ones (mid ++ [(1, n)]) := ⟨by simp, fun q hq => by
       rcases List.mem_append.1 hq with h | h
       ·exact ho.2.1 q h
       ·simp at h; rw [h], by simp only [W_app, W_cons, W_nil]; omega⟩
      have g3 := zkb u0 r pre (mid ++ [(1, n)]) (some (W pre)) (by rw [he]; simp) hkr (.inr ⟨rfl, ho3⟩) p
      rw [show W pre + W (mid ++ [(1, n)]) = W pre + W mid + n by simp only [W_app, W_cons, W_nil]; omega] at g3
      exact g3 hp
theorem zgy (l : List UInt8) : ∀ q ∈ us l, q.1 ≤ 2 ∧ q.2 ≤ 4 := by
 induction l using zcy with
 | nil => simp [zdk]
 | step l hne ih =>
  rw [zbT l hne]
  intro q hq
  rcases List.mem_cons.1 hq with rfl | h
  ·have hw : (decodeL l).2 ≤ 4 := by
    rcases bad_or l hne with h | ⟨c, _, h, _⟩
    ·rw [h]; decide
    ·rw [h]; exact (zcH c).2
   refine ⟨?_, hw⟩
   rw [zfk]; exact zki _
  ·exact ih q h
theorem us_W (l : List UInt8) : W (us l) = l.length := by
 induction l using zcy with
 | nil => rfl
 | step l hne ih =>
  have := decodeL_le l hne
  rw [zbT l hne, W_cons, ih, List.length_drop]
  omega
theorem zlO : ∀ (a b : List (Nat × Nat)) (l : List UInt8), us l = a ++ b → us (l.drop (W a)) = b
 | [], b, l, h => by simpa [W_nil] using h
 | q :: a, b, l, h => by
  by_cases hne : l = []
  ·subst hne; rw [zdk] at h; simp at h
  ·rw [zbT l hne, List.cons_append] at h
   injection h with h1 h2
   have := zlO a b _ h2
   rw [List.drop_drop] at this
   rw [W_cons, ← h1]
   exact this
theorem us_take' : ∀ (a b : List (Nat × Nat)) (l : List UInt8), us l = a ++ b → us (l.take (W a)) = a
 | [], b, l, h => by simp [W_nil, zdk]
 | q :: a, b, l, h => by
  by_cases hne : l = []
  ·subst hne; rw [zdk] at h; simp at h
  ·rw [zbT l hne, List.cons_append] at h
   injection h with h1 h2
   have h3 := us_take' a b _ h2
   have hw := decodeL_width l
   have hl : 0 < l.length := List.length_pos_iff.2 hne
   have hq : q.2 = (decodeL l).2 := by rw [← h1]
   have hd := zgw l (q.2 + W a) hne (by omega)
   have hne' : l.take (q.2 + W a) ≠ [] := by
    intro e
    have := congrArg List.length e
    rw [List.length_take, List.length_nil] at this
    omega
   rw [W_cons, zbT _ hne', hd, h1, List.drop_take, hq, Nat.add_sub_cancel_left, h3]
theorem zpM {a b c : List (Nat × Nat)} {l : List UInt8} (h : us l = a ++ b ++ c) : us (cutL l (W a, W a + W b)) = b := by
 unfold cutL
 dsimp only
 have h1 := us_take' (a ++ b) c l h
 rw [W_app] at h1
 exact zlO a b _ h1
theorem zmA (l : List UInt8) (p : Nat × Nat) (hp : p ∈ wd (us l) 0 none) : Seg (us (cutL l p)) := by
 obtain ⟨a, b, c, h1, h2, h3⟩ := zkb (us l) (us l) [] [] none rfl (zgy l) (.inl ⟨rfl, rfl⟩) p hp
 rw [h2, zpM h1]
 exact h3
def IsWord (x : List UInt8) : Prop := Seg (us x) ∧ foldL x = x
theorem zij (l : List UInt8) (x : List UInt8 × Nat × Nat) (hx : x ∈ wordsL l) : IsWord x.1 := by
 unfold wordsL at hx
 obtain ⟨p, hp, rfl⟩ := List.mem_map.1 hx
 exact ⟨by rw [zpB]; exact zmA l p hp, zmJ _⟩
theorem zoq {x : List UInt8} (h : IsWord x) : x.length ≤ 40 := by
 rw [← us_W]
 rcases h.1 with ⟨_, _, h⟩ | ⟨n, h⟩
 ·exact h
 ·have := zgy x (2, n) (by rw [h]; simp)
  rw [h, W_cons, W_nil]; dsimp only at this ⊢; omega
theorem zkI {x : List UInt8} (h : IsWord x) : wordsL x = [(x, 0, x.length)] := by
 have := zkW (us x) [] h.1 (.inl rfl) 0
 rw [List.append_nil, us_W, Nat.zero_add] at this
 unfold wordsL
 rw [this]
 simp [wd, close, cutL, h.2]
def unF : Nat → List UInt8 → List (List UInt8)
 | 0, _ => []
 | _ + 1, [] => []
 | n + 1, b :: t => (b :: t).take (decodeL (b :: t)).2 :: unF n ((b :: t).drop (decodeL (b :: t)).2)
def units (l : List UInt8) : List (List UInt8) := unF l.length l
theorem zjL : ∀ (n m : Nat) (l : List UInt8), l.length ≤ n → l.length ≤ m → unF n l = unF m l
 | 0, m, l, hn, _ => by
  have : l = [] := List.eq_nil_of_length_eq_zero (by omega)
  subst this
  cases m <;> rfl
 | n + 1, 0, l, _, hm => by
  have : l = [] := List.eq_nil_of_length_eq_zero (by omega)
  subst this; rfl
 | n + 1, m + 1, [], _, _ => rfl
 | n + 1, m + 1, b :: t, hn, hm => by
  have hw := decodeL_width (b :: t)
  simp only [unF]
  rw [zjL n m _ (by rw [List.length_drop]; omega) (by rw [List.length_drop]; omega)]
theorem zlu : units [] = [] := rfl
theorem zcm (l : List UInt8) (hne : l ≠ []) : units l = l.take (decodeL l).2 :: units (l.drop (decodeL l).2) := by
 obtain ⟨b, t, rfl⟩ := List.exists_cons_of_ne_nil hne
 have hw := decodeL_width (b :: t)
 show (b :: t).take (decodeL (b :: t)).2 :: unF t.length _ = _
 rw [zjL t.length ((b :: t).drop (decodeL (b :: t)).2).length _ (by rw [List.length_drop, List.length_cons]; omega) (Nat.le_refl _)]
 rfl
def IsUnit (u : List UInt8) : Prop := u ≠ [] ∧ (decodeL u).2 = u.length
theorem zdb (l : List UInt8) (hne : l ≠ []) : IsUnit (l.take (decodeL l).2) ∧ decodeL (l.take (decodeL l).2) = decodeL l := by
 have hw := decodeL_width l
 have hl := decodeL_le l hne
 have h0 := List.length_pos_iff.2 hne
 have h := zgw l (decodeL l).2 hne (Nat.le_refl _)
 refine ⟨⟨fun e => ?_, ?_⟩, h⟩
 ·have := congrArg List.length e
  rw [List.length_take, List.length_nil] at this; omega
 ·rw [h, List.length_take]; omega
theorem zfS (l : List UInt8) : ∀ u ∈ units l, IsUnit u := by
 induction l using zcy with
 | nil => intro u hu; cases hu
 | step l hne ih =>
  intro u hu
  rw [zcm l hne] at hu
  rcases List.mem_cons.1 hu with rfl | hu
  ·exact (zdb l hne).1
  ·exact ih u hu
theorem zgv (l : List UInt8) : us l = (units l).map fun u => (clsN (decodeL u), u.length) := by
 induction l using zcy with
 | nil => rfl
 | step l hne ih =>
  have hl := decodeL_le l hne
  rw [zcm l hne, zbT l hne, List.map_cons, ih, (zdb l hne).2, List.length_take, Nat.min_eq_left hl]
theorem zlg (l : List UInt8) : foldL l = (units l).flatMap head1 := by
 induction l using zcy with
 | nil => rfl
 | step l hne ih =>
  have hl := decodeL_le l hne
  have hw := decodeL_width l
  rw [zcm l hne, zbj l hne, List.flatMap_cons, ih]
  congr 1
  unfold head1
  rw [(zdb l hne).2]
  obtain ⟨b, t, rfl⟩ := List.exists_cons_of_ne_nil hne
  congr 2
  obtain ⟨k, hk⟩ : ∃ k, (decodeL (b :: t)).2 = k + 1 := ⟨(decodeL (b :: t)).2 - 1, by omega⟩
  rw [hk]; rfl
theorem zhB (l : List UInt8) : (units l).length ≤ l.length := by
 induction l using zcy with
 | nil => exact Nat.le_refl _
 | step l hne ih =>
  have hw := decodeL_width l
  have hl := decodeL_le l hne
  rw [List.length_drop] at ih
  rw [zcm l hne, List.length_cons]; omega
def runeU (u : List UInt8) : Nat :=
 if u.length = 1 then (u.getD 0 0).toNat
 else if u.length = 2 then (u.getD 0 0).toNat % 32 * 64 + (u.getD 1 0).toNat % 64
 else if u.length = 3 then (u.getD 0 0).toNat % 16 * 4096 + (u.getD 1 0).toNat % 64 * 64 + (u.getD 2 0).toNat % 64
 else (u.getD 0 0).toNat % 8 * 262144 + (u.getD 1 0).toNat % 64 * 4096 + (u.getD 2 0).toNat % 64 * 64 + (u.getD 3 0).toNat % 64
def need (l : List UInt8) : Nat := if 194 ≤ (l.getD 0 0).toNat ∧ (l.getD 0 0).toNat ≤ 223 then 2 else if 224 ≤ (l.getD 0 0).toNat ∧ (l.getD 0 0).toNat ≤ 239 then 3 else if 240 ≤ (l.getD 0 0).toNat ∧ (l.getD 0 0).toNat ≤ 244 then 4 else 1
def lowN (n : Nat) : Nat := if n = 2 then 128 else if n = 3 then 2048 else if n = 4 then 65536 else 0
def contB (l : List UInt8) (i : Nat) : Prop := 128 ≤ (l.getD i 0).toNat ∧ (l.getD i 0).toNat ≤ 191
instance (l : List UInt8) (i : Nat) : Decidable (contB l i) := by unfold contB; infer_instance
theorem zbd (l : List UInt8) (n i : Nat) (h : i < n) : (l.take n).getD i 0 = l.getD i 0 := by
 rw [List.getD_eq_getElem?_getD, List.getD_eq_getElem?_getD, List.getElem?_take_of_lt h]
def badC (l : List UInt8) (n : Nat) : Prop := (2 ≤ n ∧ ¬ contB l 1) ∨ (3 ≤ n ∧ ¬ contB l 2) ∨ (4 ≤ n ∧ ¬ contB l 3)
instance (l : List UInt8) (n : Nat) : Decidable (badC l n) := by unfold badC; infer_instance
def refLen (l : List UInt8) : Nat :=
 if need l = 1 ∨ l.length < need l then 1
 else if badC l (need l) then 1
 else if runeU (l.take (need l)) < lowN (need l) ∨ 1114111 < runeU (l.take (need l)) ∨ (55296 ≤ runeU (l.take (need l)) ∧ runeU (l.take (need l)) ≤ 57343) then 1
 else need l
theorem runeU2 (l : List UInt8) (h : 2 ≤ l.length) : runeU (l.take 2) = (l.getD 0 0).toNat % 32 * 64 + (l.getD 1 0).toNat % 64 := by
 unfold runeU
 rw [List.length_take, Nat.min_eq_left h, if_neg (by omega), if_pos rfl, zbd l 2 0 (by omega), zbd l 2 1 (by omega)]
theorem runeU3 (l : List UInt8) (h : 3 ≤ l.length) : runeU (l.take 3) = (l.getD 0 0).toNat % 16 * 4096 + (l.getD 1 0).toNat % 64 * 64 + (l.getD 2 0).toNat % 64 := by
 unfold runeU
 rw [List.length_take, Nat.min_eq_left h, if_neg (by omega), if_neg (by omega), if_pos rfl, zbd l 3 0 (by omega), zbd l 3 1 (by omega), zbd l 3 2 (by omega)]
theorem runeU4 (l : List UInt8) (h : 4 ≤ l.length) : runeU (l.take 4) = (l.getD 0 0).toNat % 8 * 262144 + (l.getD 1 0).toNat % 64 * 4096 + (l.getD 2 0).toNat % 64 * 64 + (l.getD 3 0).toNat % 64 := by
 unfold runeU
 rw [List.length_take, Nat.min_eq_left h, if_neg (by omega), if_neg (by omega), if_neg (by omega), zbd l 4 0 (by omega), zbd l 4 1 (by omega), zbd l 4 2 (by omega), zbd l 4 3 (by omega)]
theorem zeW (l : List UInt8) (hne : l ≠ []) : refLen l = (decodeL l).2 ∧ (decodeL l = (65533, 1) ∨ runeU (l.take (decodeL l).2) = (decodeL l).1) := by
 have hl0 : 0 < l.length := List.length_pos_iff.2 hne
 rw [decodeL_N]
 unfold refLen
 have h0 := UInt8.toNat_lt (l.getD 0 0)
 have hr1 : runeU (l.take 1) = (l.getD 0 0).toNat := by
  unfold runeU
  rw [List.length_take, Nat.min_eq_left hl0, if_pos rfl, zbd l 1 0 (by omega)]
 have hr2 := runeU2 l
 have hr3 := runeU3 l
 have hr4 := runeU4 l
 have hc1 : contB l 1 ↔ (128 ≤ (l.getD 1 0).toNat ∧ (l.getD 1 0).toNat ≤ 191) := Iff.rfl
 have hc2 : contB l 2 ↔ (128 ≤ (l.getD 2 0).toNat ∧ (l.getD 2 0).toNat ≤ 191) := Iff.rfl
 have hc3 : contB l 3 ↔ (128 ≤ (l.getD 3 0).toNat ∧ (l.getD 3 0).toNat ≤ 191) := Iff.rfl
 have hnd : need l = if 194 ≤ (l.getD 0 0).toNat ∧ (l.getD 0 0).toNat ≤ 223 then 2 else if 224 ≤ (l.getD 0 0).toNat ∧ (l.getD 0 0).toNat ≤ 239 then 3 else if 240 ≤ (l.getD 0 0).toNat ∧ (l.getD 0 0).toNat ≤ 244 then 4 else 1 := rfl
 have h1 := UInt8.toNat_lt (l.getD 1 0)
 have h2 := UInt8.toNat_lt (l.getD 2 0)
 have h3 := UInt8.toNat_lt (l.getD 3 0)
 generalize (l.getD 0 0).toNat = x0 at *
 generalize (l.getD 1 0).toNat = x1 at *
 generalize (l.getD 2 0).toNat = x2 at *
 generalize (l.getD 3 0).toNat = x3 at *
 generalize l.length = n at *
 by_cases hA : x0 < 128
 ·have hD : decodeN n x0 x1 x2 x3 = (x0, 1) := by unfold decodeN; rw [if_pos hA]
  rw [hD, if_pos (.inl (by rw [hnd, if_neg (by omega), if_neg (by omega), if_neg (by omega)]))]
  exact ⟨rfl, .inr hr1⟩
 by_cases hB : 194 ≤ x0 ∧ x0 ≤ 223
 ·rw [if_pos hB] at hnd
  rw [hnd]
  by_cases hl : n < 2
  ·have hD : decodeN n x0 x1 x2 x3 = (65533, 1) := by unfold decodeN; rw [if_neg (by omega), if_neg (by omega), if_neg (by omega), if_neg (by omega)]
   rw [hD, if_pos (.inr hl)]
   exact ⟨rfl, .inl rfl⟩
  have hb2 : badC l 2 ↔ ¬ contB l 1 := by unfold badC; simp
  by_cases hc : 128 ≤ x1 ∧ x1 ≤ 191
  ·have hD : decodeN n x0 x1 x2 x3 = (x0 % 32 * 64 + x1 % 64, 2) := by unfold decodeN; rw [if_neg hA, if_pos (by omega), if_pos (by omega)]
   rw [hD, if_neg (by omega), if_neg (fun h => hb2.1 h (hc1.2 hc)), hr2 (by omega), show lowN 2 = 128 from rfl, if_neg (by omega)]
   exact ⟨rfl, .inr rfl⟩
  ·have hD : decodeN n x0 x1 x2 x3 = (65533, 1) := by unfold decodeN; rw [if_neg hA, if_neg (by omega), if_neg (by omega), if_neg (by omega)]
   rw [hD, if_neg (by omega), if_pos (hb2.2 fun h => hc (hc1.1 h))]
   exact ⟨rfl, .inl rfl⟩
 by_cases hC : 224 ≤ x0 ∧ x0 ≤ 239
 ·rw [if_neg hB, if_pos hC] at hnd
  rw [hnd]
  by_cases hl : n < 3
  ·have hD : decodeN n x0 x1 x2 x3 = (65533, 1) := by unfold decodeN; rw [if_neg (by omega), if_neg (by omega), if_neg (by omega), if_neg (by omega)]
   rw [hD, if_pos (.inr hl)]
   exact ⟨rfl, .inl rfl⟩
  have hb3 : badC l 3 ↔ (¬ contB l 1 ∨ ¬ contB l 2) := by unfold badC; simp
  by_cases hc : (128 ≤ x1 ∧ x1 ≤ 191) ∧ 128 ≤ x2 ∧ x2 ≤ 191
  ·rw [if_neg (by omega), if_neg (fun h => (hb3.1 h).elim (fun h => h (hc1.2 hc.1)) (fun h => h (hc2.2 hc.2))), hr3 (by omega), show lowN 3 = 2048 from rfl]
   by_cases hv : x0 % 16 * 4096 + x1 % 64 * 64 + x2 % 64 < 2048 ∨ 1114111 < x0 % 16 * 4096 + x1 % 64 * 64 + x2 % 64 ∨ (55296 ≤ x0 % 16 * 4096 + x1 % 64 * 64 + x2 % 64 ∧ x0 % 16 * 4096 + x1 % 64 * 64 + x2 % 64 ≤ 57343)
   ·have hD : decodeN n x0 x1 x2 x3 = (65533, 1) := by unfold decodeN; rw [if_neg hA, if_neg (by omega), if_pos (by omega), if_neg (by omega)]
    rw [if_pos hv, hD]
    exact ⟨rfl, .inl rfl⟩
   ·have hD : decodeN n x0 x1 x2 x3 = (x0 % 16 * 4096 + x1 % 64 * 64 + x2 % 64, 3) := by unfold decodeN; rw [if_neg hA, if_neg (by omega), if_pos (by omega), if_pos (by omega)]
    rw [if_neg hv, hD]
    exact ⟨rfl, .inr (hr3 (by omega))⟩
  ·have hD : decodeN n x0 x1 x2 x3 = (65533, 1) := by unfold decodeN; rw [if_neg hA, if_neg (by omega), if_neg (by omega), if_neg (by omega)]
   rw [hD, if_neg (by omega), if_pos (by rw [hb3, hc1, hc2]; omega)]
   exact ⟨rfl, .inl rfl⟩
 by_cases hD4 : 240 ≤ x0 ∧ x0 ≤ 244
 ·rw [if_neg hB, if_neg hC, if_pos hD4] at hnd
  rw [hnd]
  by_cases hl : n < 4
  ·have hD : decodeN n x0 x1 x2 x3 = (65533, 1) := by unfold decodeN; rw [if_neg (by omega), if_neg (by omega), if_neg (by omega), if_neg (by omega)]
   rw [hD, if_pos (.inr hl)]
   exact ⟨rfl, .inl rfl⟩
  have hb4 : badC l 4 ↔ (¬ contB l 1 ∨ ¬ contB l 2 ∨ ¬ contB l 3) := by unfold badC; simp
  by_cases hc : (128 ≤ x1 ∧ x1 ≤ 191) ∧ (128 ≤ x2 ∧ x2 ≤ 191) ∧ 128 ≤ x3 ∧ x3 ≤ 191
  ·rw [if_neg (by omega), if_neg (fun h => (hb4.1 h).elim (fun h => h (hc1.2 hc.1)) (fun h => h.elim (fun h => h (hc2.2 hc.2.1)) (fun h => h (hc3.2 hc.2.2)))), hr4 (by omega), show lowN 4 = 65536 from rfl]
   by_cases hv : x0 % 8 * 262144 + x1 % 64 * 4096 + x2 % 64 * 64 + x3 % 64 < 65536 ∨ 1114111 < x0 % 8 * 262144 + x1 % 64 * 4096 + x2 % 64 * 64 + x3 % 64
   ·have hD : decodeN n x0 x1 x2 x3 = (65533, 1) := by unfold decodeN; rw [if_neg hA, if_neg (by omega), if_neg (by omega), if_pos (by omega), if_neg (by omega)]
    rw [if_pos (by omega), hD]
    exact ⟨rfl, .inl rfl⟩
   ·have hD : decodeN n x0 x1 x2 x3 = (x0 % 8 * 262144 + x1 % 64 * 4096 + x2 % 64 * 64 + x3 % 64, 4) := by unfold decodeN; rw [if_neg hA, if_neg (by omega), if_neg (by omega), if_pos (by omega), if_pos (by omega)]
    rw [if_neg (by omega), hD]
    exact ⟨rfl, .inr (hr4 (by omega))⟩
  ·have hD : decodeN n x0 x1 x2 x3 = (65533, 1) := by unfold decodeN; rw [if_neg hA, if_neg (by omega), if_neg (by omega), if_neg (by omega)]
   rw [hD, if_neg (by omega), if_pos (by rw [hb4, hc1, hc2, hc3]; omega)]
   exact ⟨rfl, .inl rfl⟩
 ·rw [if_neg hB, if_neg hC, if_neg hD4] at hnd
  rw [if_pos (.inl hnd)]
  have hD : decodeN n x0 x1 x2 x3 = (65533, 1) := by
   unfold decodeN
   rw [if_neg hA]
   have h1 : ¬ (x0 / 16 = 14) := by omega
   have h2 : ¬ (x0 % 8 * 262144 + x1 % 64 * 4096 + x2 % 64 * 64 + x3 % 64 ≥ 65536 ∧ (x0 % 8 * 262144 + x1 % 64 * 4096 + x2 % 64 * 64 + x3 % 64 < 55296 ∨ (57344 ≤ x0 % 8 * 262144 + x1 % 64 * 4096 + x2 % 64 * 64 + x3 % 64 ∧ x0 % 8 * 262144 + x1 % 64 * 4096 + x2 % 64 * 64 + x3 % 64 ≤ 1114111))) ∨ ¬ x0 / 8 = 30 := by omega
   by_cases ha : x0 / 32 = 6 ∧ (1 < n ∧ x1 / 64 = 2)
   ·rw [if_pos ha, if_neg (by omega)]
   rw [if_neg ha, if_neg (fun h => h1 h.1)]
   split
   ·rename_i h
    rcases h2 with h2 | h2
    ·rw [if_neg h2]
    ·exact (h2 h.1).elim
   ·rfl
  rw [hD]
  exact ⟨rfl, .inl rfl⟩
theorem enc_len' (c : Nat) (h1 : ¬ c < 128) : 2 ≤ (enc c).length := by
 unfold enc encodeRune
 by_cases h2 : c ≤ 2047
 ·rw [encodeRuneZ_two (by omega) (by omega)]; simp
 by_cases hb : (55296 ≤ c ∧ c ≤ 57343) ∨ 1114111 < c
 ·rw [encodeRuneZ_bad (by omega)]; simp
 by_cases h3 : c ≤ 65535
 ·rw [encodeRuneZ_three (by omega)]; simp
 ·rw [encodeRuneZ_four (by omega) (by omega)]; simp
def clsU (u : List UInt8) : Nat := if u.length = 1 ∧ 128 ≤ (u.getD 0 0).toNat then 0 else kindN (runeU u)
theorem dec_one (l : List UInt8) (h : (decodeL l).2 = 1) (hne : l ≠ []) : (128 ≤ (l.getD 0 0).toNat ∧ decodeL l = (65533, 1)) ∨ ((l.getD 0 0).toNat < 128 ∧ decodeL l = ((l.getD 0 0).toNat, 1)) := by
 by_cases h0 : (l.getD 0 0).toNat < 128
 ·refine .inr ⟨h0, ?_⟩
  rw [decodeL_N]; unfold decodeN; rw [if_pos h0]
 ·refine .inl ⟨by omega, ?_⟩
  rcases dec_whole l hne with h' | ⟨h1, h2, h3, _⟩
  ·exact h'
  ·exfalso
   rw [h] at h2 h3
   have hl0 : 0 < l.length := List.length_pos_iff.2 hne
   have hd := zeU _ h1 (l.drop 1)
   rw [← h2, List.take_append_drop] at hd
   have h4 : (decodeL l).1 < 128 ∨ ¬ (decodeL l).1 < 128 := by omega
   rcases h4 with h4 | h4
   ·rw [enc1 h4] at h2
    have := congrArg (fun x => (x.getD 0 0).toNat) h2
    simp only [zbd l 1 0 (by omega), List.getD_cons_zero] at this
    rw [this] at h0
    simp at h0
    omega
   ·have := enc_len' _ h4
    omega
theorem zpA (u : List UInt8) (h : IsUnit u) : clsU u = clsN (decodeL u) := by
 obtain ⟨hne, hu⟩ := h
 have ht : u.take (decodeL u).2 = u := by rw [hu, List.take_length]
 obtain ⟨_, hr⟩ := zeW u hne
 rw [ht] at hr
 rw [zfk]
 unfold clsU
 by_cases h1 : u.length = 1
 ·rcases dec_one u (by omega) hne with ⟨h2, h3⟩ | ⟨h2, h3⟩
  ·rw [if_pos ⟨h1, h2⟩, h3]; rfl
  ·rw [if_neg (by omega), h3]
   unfold runeU; rw [if_pos h1]
 ·rw [if_neg (by omega)]
  rcases hr with hr | hr
  ·rw [hr] at hu; exact (h1 hu.symm).elim
  ·rw [hr]
def refW : List (Nat × Nat) → Nat → List (Nat × Nat) → Bool → List (Nat × Nat)
 | [], _, out, _ => out
 | (k, n) :: r, at_, out, op =>
  refW r (at_ + n) (if k = 1 ∧ op = true ∧ (out.getLastD (0, 0)).2 - (out.getLastD (0, 0)).1 + n ≤ 40 then out.dropLast ++ [((out.getLastD (0, 0)).1, (out.getLastD (0, 0)).2 + n)] else if 0 < k then out ++ [(at_, at_ + n)] else out) (decide (k = 1))
theorem zmh : ∀ (u : List (Nat × Nat)), (∀ q ∈ u, q.1 ≤ 2) → ∀ (p : Nat) (C : List (Nat × Nat)), refW u p C false = C ++ wd u p none ∧ ∀ a, a ≤ p → refW u p (C ++ [(a, p)]) true = C ++ wd u p (some a)
 | [], _, p, C => ⟨by simp [refW, wd, close], fun a ha => by simp [refW, wd, close]⟩
 | (k, n) :: r, hk, p, C => by
  have ih := zmh r fun q hq => hk q (by simp [hq])
  have hk0 : k ≤ 2 := hk (k, n) (by simp)
  have h012 : k = 0 ∨ k = 1 ∨ k = 2 := by omega
  rcases h012 with rfl | rfl | rfl
  ·refine ⟨?_, fun a ha => ?_⟩
   ·rw [refW, if_neg (by omega), if_neg (by omega), wd_0, show decide ((0 : Nat) = 1) = false from rfl, (ih _ _).1]; rfl
   ·rw [refW, if_neg (by omega), if_neg (by omega), wd_0, show decide ((0 : Nat) = 1) = false from rfl, (ih _ _).1]
    simp [close]
  ·refine ⟨?_, fun a ha => ?_⟩
   ·rw [refW, if_neg (by simp), if_pos (by omega), wd_1n, show decide ((1 : Nat) = 1) = true from rfl, (ih _ _).2 p (by omega)]
   ·rw [refW, wd_1s, show decide ((1 : Nat) = 1) = true from rfl, List.getLastD_concat, List.dropLast_concat]
    by_cases h40 : 40 < p + n - a
    ·rw [if_neg (by simp; omega), if_pos (by omega), if_pos h40, (ih _ _).2 p (by omega)]
     simp
    ·rw [if_pos ⟨rfl, rfl, by simp; omega⟩, if_neg h40, (ih _ _).2 a (by omega)]
  ·refine ⟨?_, fun a ha => ?_⟩
   ·rw [refW, if_neg (by omega), if_pos (by omega), wd_2, show decide ((2 : Nat) = 1) = false from rfl, (ih _ _).1]
    simp [close]
   ·rw [refW, if_neg (by omega), if_pos (by omega), wd_2, show decide ((2 : Nat) = 1) = false from rfl, (ih _ _).1]
    simp [close]
theorem zbE {α : Type} [DecidableEq α] : ∀ (a b : List α), a.Nodup → (∀ x ∈ a, x ∈ b) → a.length ≤ b.length
 | [], b, _, _ => Nat.zero_le _
 | x :: r, b, hn, hs => by
  rw [List.nodup_cons] at hn
  have hx : x ∈ b := hs x (by simp)
  have h1 := zbE r (b.erase x) hn.2 fun y hy => by
   have hne : y ≠ x := fun e => hn.1 (e ▸ hy)
   exact (List.mem_erase_of_ne hne).2 (hs y (by simp [hy]))
  have h2 := List.length_erase_of_mem hx
  have h3 : 0 < b.length := List.length_pos_iff.2 fun e => by rw [e] at hx; cases hx
  simp only [List.length_cons]
  omega
set_option linter.unusedSectionVars false
def Dep (l : List Bx) : Nat → Int → Prop
 | 0, id => id = 0
 | d + 1, id => id ≠ 0 ∧ ∃ u, upOf l id = some u ∧ Dep l d u
theorem ziG (l : List Bx) : ∀ (n d : Nat) (id : Int), dep l n id = some d ↔ Dep l d id ∧ d ≤ n
 | 0, 0, id => by unfold dep Dep; by_cases h : id = 0 <;> simp [h]
 | 0, d + 1, id => by unfold dep; by_cases h : id = 0 <;> simp [h]
 | n + 1, 0, id => by
  unfold dep Dep
  by_cases h : id = 0
  ·simp [h]
  ·rw [if_neg h]
   constructor
   ·intro e
    cases hu : upOf l id with
    | none => rw [hu] at e; cases e
    | some u =>
     rw [hu] at e
     dsimp only at e
     cases hd : dep l n u with
     | none => rw [hd] at e; cases e
     | some x => rw [hd] at e; simp at e
   ·intro e; exact absurd e.1 h
 | n + 1, d + 1, id => by
  unfold dep Dep
  by_cases h : id = 0
  ·simp [h]
  ·rw [if_neg h]
   constructor
   ·intro e
    cases hu : upOf l id with
    | none => rw [hu] at e; cases e
    | some u =>
     rw [hu] at e
     dsimp only at e
     cases hd : dep l n u with
     | none => rw [hd] at e; cases e
     | some x =>
      rw [hd] at e
      simp at e
      subst e
      obtain ⟨h1, h2⟩ := (ziG l n x u).1 hd
      exact ⟨⟨h, u, rfl, h1⟩, by omega⟩
   ·rintro ⟨⟨_, u, hu, h1⟩, h2⟩
    rw [hu]
    dsimp only
    rw [(ziG l n d u).2 ⟨h1, by omega⟩]; rfl
theorem Dep.inj {l : List Bx} : ∀ {d e : Nat} {id : Int}, Dep l d id → Dep l e id → d = e
 | 0, 0, id, _, _ => rfl
 | 0, e + 1, id, h, k => absurd h k.1
 | d + 1, 0, id, h, k => absurd k h.1
 | d + 1, e + 1, id, ⟨_, u, hu, h⟩, ⟨_, v, hv, k⟩ => by
  rw [hu] at hv
  obtain rfl := Option.some.inj hv
  rw [Dep.inj h k]
theorem Dep.len {l : List Bx} {d : Nat} {id : Int} (h : Dep l d id) : d ≤ l.length := by
 have key : ∀ (d : Nat) (id : Int), Dep l d id → ∃ c : List Int, c.length = d ∧ c.Nodup ∧ (∀ x ∈ c, x ∈ l.map (·.id)) ∧ ∀ x ∈ c, ∃ e, e ≤ d ∧ Dep l e x := by
  intro d
  induction d with
  | zero => intro id _; exact ⟨[], rfl, .nil, by simp, by simp⟩
  | succ d ih =>
   rintro id ⟨h0, u, hu, hd⟩
   obtain ⟨c, h1, h2, h3, h4⟩ := ih u hd
   obtain ⟨b, hb, hid, _⟩ := znF hu
   refine ⟨id :: c, by simp [h1], List.nodup_cons.2 ⟨fun hm => ?_, h2⟩, fun x hx => ?_, fun x hx => ?_⟩
   ·obtain ⟨e, he, hde⟩ := h4 id hm
    have := Dep.inj hde (show Dep l (d + 1) id from ⟨h0, u, hu, hd⟩)
    omega
   ·rcases List.mem_cons.1 hx with rfl | hx
    ·exact List.mem_map.2 ⟨b, hb, hid⟩
    ·exact h3 x hx
   ·rcases List.mem_cons.1 hx with rfl | hx
    ·exact ⟨d + 1, Nat.le_refl _, h0, u, hu, hd⟩
    ·obtain ⟨e, he, hde⟩ := h4 x hx
     exact ⟨e, by omega, hde⟩
 obtain ⟨c, h1, h2, h3, _⟩ := key d id h
 have := zbE c (l.map (·.id)) h2 h3
 rw [List.length_map] at this
 omega
theorem RightP.dep {l : List Bx} (hr : RightP l) {b : Bx} (hb : b ∈ l) : ∃ d, Dep l d b.id ∧ d ≤ 8 := by
 obtain ⟨d, h1, h2⟩ := hr.deep b hb
 exact ⟨d, ((ziG _ _ _ _).1 h1).1, h2⟩
inductive Reach (l : List Bx) (b : Int) : Int → Prop
 | here : Reach l b b
 | up {id u : Int} : upOf l id = some u → Reach l b u → Reach l b id
def hasId (l : List Bx) (id : Int) : Bool := l.any fun b => decide (b.id = id)
theorem Dep.congr {l l' : List Bx} (S : Int → Prop) (hS : ∀ id u, S id → upOf l id = some u → upOf l' id = some u ∧ S u) : ∀ (d : Nat) (id : Int), S id → Dep l d id → Dep l' d id
 | 0, id, _, h => h
 | d + 1, id, hs, ⟨h0, u, hu, h⟩ => ⟨h0, u, (hS id u hs hu).1, Dep.congr S hS d u (hS id u hs hu).2 h⟩
section
end
theorem Reach.dep {l : List Bx} (hz : upOf l 0 = none) {b y : Int} (h : Reach l b y) : ∀ {d : Nat}, Dep l d y → ∃ e, e ≤ d ∧ Dep l e b := by
 induction h with
 | here => intro d hd; exact ⟨d, Nat.le_refl _, hd⟩
 | @up id u hu _ ih =>
  intro d hd
  cases d with
  | zero =>
   have h0 : id = 0 := hd
   rw [h0, hz] at hu; cases hu
  | succ d =>
   obtain ⟨h0, v, hv, hd⟩ := hd
   rw [hu] at hv
   obtain rfl := Option.some.inj hv
   obtain ⟨e, h1, h2⟩ := ih hd
   exact ⟨e, by omega, h2⟩
theorem RightP.zero {l : List Bx} (hr : RightP l) : upOf l 0 = none := by rw [znp, zpC hr]; rfl
section
end
section
end
theorem zfv : RightP [] := ⟨by simp, by simp, .nil, by simp, by simp, .nil, .nil, by simp⟩
end Go.Cs
