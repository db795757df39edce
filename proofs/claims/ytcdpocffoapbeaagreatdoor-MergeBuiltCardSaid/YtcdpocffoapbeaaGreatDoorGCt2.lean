/- Helper text of this claim: Ct2, Ct3, Ct4, Ct5, Ct6, Ct8, Ct9, Ct10, Sn0, Bx3, Bx4, Bx5, Bx6, Bx7, Ax0: lemmas and contracts that the proved statement rests on; no conditions of its own. -/
import Derived.Test.YtcdpocffoapbeaaGreatDoorGOpn
import Derived.Lib.Small
import Derived.Lib.SlicesCompact
namespace Go.Cs
set_option linter.unusedVariables false
/-! ### The two tables -/
def cutT : List (Int × Int × Int) := [(215, 215, 0), (247, 247, 0), (8192, 11263, 0), (11904, 12255, 2), (12288, 12351, 0), (12353, 12543, 2), (12549, 12591, 2), (12593, 12686, 2), (13312, 19903, 2), (19968, 40959, 2), (44032, 55203, 2), (55296, 63743, 0), (63744, 64255, 2), (65024, 65039, 0), (65072, 65135, 0), (65280, 65295, 0), (65520, 65535, 0), (126976, 129791, 0), (131072, 262143, 2)]
def cutSp (i : Nat) : Int × Int × Int := cutT.getD i (0, 0, 0)
def foldT : List (Int × Int × Int × Int) := [(65, 90, 1, 32), (192, 214, 1, 32), (216, 222, 1, 32), (256, 303, 2, 1), (306, 311, 2, 1), (313, 328, 2, 1), (330, 375, 2, 1), (376, 376, 1, -121), (377, 382, 2, 1), (902, 902, 1, 38), (904, 906, 1, 37), (908, 908, 1, 64), (910, 911, 1, 63), (913, 929, 1, 32), (931, 939, 1, 32), (1024, 1039, 1, 80), (1040, 1071, 1, 32)]
def foldSp (i : Nat) : Int × Int × Int × Int := foldT.getD i (0, 0, 0, 0)
def cmp3 (a b : Int) : Int := if a < b then -1 else if b < a then 1 else 0
def cmpC (i : Nat) (r : Int) : Int := if (cutSp i).1 ≤ r ∧ r ≤ (cutSp i).2.1 then 0 else cmp3 (cutSp i).1 r
def cmpF (i : Nat) (r : Int) : Int := if (foldSp i).2.1 < r then -1 else if r < (foldSp i).1 then 1 else 0
theorem cutT_fact : ∀ i : Fin 19, (cutSp i.val).1 ≤ (cutSp i.val).2.1 ∧ 0 ≤ (cutSp i.val).1 ∧ (cutSp i.val).2.1 ≤ 1114111 ∧ 0 ≤ (cutSp i.val).2.2 ∧ (cutSp i.val).2.2 ≤ 2 := by decide
theorem cutT_up : ∀ i j : Fin 19, i.val < j.val → (cutSp i.val).2.1 < (cutSp j.val).1 := by decide
theorem foldT_fact : ∀ i : Fin 17, (foldSp i.val).1 ≤ (foldSp i.val).2.1 ∧ 0 ≤ (foldSp i.val).1 ∧ (foldSp i.val).2.1 ≤ 1114111 ∧ 1 ≤ (foldSp i.val).2.2.1 ∧ (foldSp i.val).2.2.1 ≤ 2 ∧ -200 ≤ (foldSp i.val).2.2.2 ∧ (foldSp i.val).2.2.2 ≤ 200 := by decide
theorem foldT_up : ∀ i j : Fin 17, i.val < j.val → (foldSp i.val).2.1 < (foldSp j.val).1 := by decide
theorem cmpC_neg (i : Nat) (hi : i < 19) (r : Int) : cmpC i r < 0 ↔ (cutSp i).2.1 < r := by
  have := cutT_fact ⟨i, hi⟩
  simp only at this
  unfold cmpC cmp3
  repeat' split
  all_goals omega
theorem cmpC_mono (i j : Nat) (h : i < j) (hj : j < 19) (r : Int) (hr : cmpC j r < 0) : cmpC i r < 0 := by
  rw [cmpC_neg _ (by omega)] at *
  have h1 := cutT_fact ⟨j, hj⟩
  have h2 := cutT_up ⟨i, by omega⟩ ⟨j, hj⟩ h
  simp only at h1 h2
  omega
theorem cmpF_neg (i : Nat) (r : Int) : cmpF i r < 0 ↔ (foldSp i).2.1 < r := by
  unfold cmpF
  repeat' split
  all_goals omega
theorem cmpF_mono (i j : Nat) (h : i < j) (hj : j < 17) (r : Int) (hr : cmpF j r < 0) : cmpF i r < 0 := by
  rw [cmpF_neg] at *
  have h1 := foldT_fact ⟨j, hj⟩
  have h2 := foldT_up ⟨i, by omega⟩ ⟨j, hj⟩ h
  simp only at h1 h2
  omega
/-- Where the search ends. -/
def Pos (cmp : Nat → Int) (n k : Nat) : Prop := k ≤ n ∧ (∀ m, m < k → cmp m < 0) ∧ ∀ m, k ≤ m → m < n → 0 ≤ cmp m
end Go.Cs

namespace Go.Cs
set_option linter.unusedVariables false
theorem cmpC_zero (k : Nat) (r : Int) (h : cmpC k r = 0) (hk : k < 19) : (cutSp k).1 ≤ r ∧ r ≤ (cutSp k).2.1 := by
  have := cutT_fact ⟨k, hk⟩
  simp only at this
  unfold cmpC cmp3 at h
  split at h
  · assumption
  · repeat' split at h
    all_goals omega
theorem cmpC_out (k : Nat) (r : Int) (hp : Pos (fun i => cmpC i r) 19 k) (hn : ¬ (k < 19 ∧ cmpC k r = 0)) (m : Nat) (hm : m < 19) : ¬ ((cutSp m).1 ≤ r ∧ r ≤ (cutSp m).2.1) := by
  obtain ⟨h1, h2, h3⟩ := hp
  intro hc
  have h0 : cmpC m r = 0 := by unfold cmpC; rw [if_pos hc]
  have hge : ¬ m < k := fun h => by have := h2 m h; dsimp only at this; omega
  by_cases e : m = k
  · exact hn ⟨by omega, by rw [← e]; exact h0⟩
  · have h4 := h3 k (Nat.le_refl _) (by omega)
    dsimp only at h4
    have h5 : ¬ cmpC k r < 0 := by omega
    rw [cmpC_neg k (by omega)] at h5
    have h6 := cutT_up ⟨k, by omega⟩ ⟨m, hm⟩ (by simp only; omega)
    simp only at h6
    omega
set_option maxHeartbeats 4000000 in
theorem kind_found (k : Nat) (hk : k < 19) (r : Nat) (h192 : 192 ≤ r) (hr : r ≤ 1114111) (h : (cutSp k).1 ≤ (r : Int) ∧ (r : Int) ≤ (cutSp k).2.1) : ((kindN r : Nat) : Int) = (cutSp k).2.2 := by
  match k, hk with
  | 0, _ | 1, _ | 2, _ | 3, _ | 4, _ | 5, _ | 6, _ | 7, _ | 8, _ | 9, _ | 10, _ | 11, _ | 12, _ | 13, _ | 14, _ | 15, _ | 16, _ | 17, _ | 18, _ =>
    simp only [cutSp, cutT, List.getD_cons_zero, List.getD_cons_succ] at h ⊢
    unfold kindN
    repeat (first | rw [if_pos (by omega)] | rw [if_neg (by omega)])
    try rfl
  | n + 19, hk => omega
set_option maxHeartbeats 4000000 in
theorem kind_out (r : Nat) (h192 : 192 ≤ r) (hr : r ≤ 1114111) (h : ∀ m, m < 19 → ¬ ((cutSp m).1 ≤ (r : Int) ∧ (r : Int) ≤ (cutSp m).2.1)) : kindN r = 1 := by
  have h0 := h 0 (by omega); have h1 := h 1 (by omega); have h2 := h 2 (by omega); have h3 := h 3 (by omega); have h4 := h 4 (by omega); have h5 := h 5 (by omega); have h6 := h 6 (by omega)
  have h7 := h 7 (by omega); have h8 := h 8 (by omega); have h9 := h 9 (by omega); have h10 := h 10 (by omega); have h11 := h 11 (by omega); have h12 := h 12 (by omega); have h13 := h 13 (by omega)
  have h14 := h 14 (by omega); have h15 := h 15 (by omega); have h16 := h 16 (by omega); have h17 := h 17 (by omega); have h18 := h 18 (by omega)
  clear h
  simp only [cutSp, cutT, List.getD_cons_zero, List.getD_cons_succ] at h0 h1 h2 h3 h4 h5 h6 h7 h8 h9 h10 h11 h12 h13 h14 h15 h16 h17 h18
  unfold kindN
  repeat (first | rw [if_pos (by omega)] | rw [if_neg (by omega)])
/-! ### the lower case by its table -/
theorem cmpF_zero (k : Nat) (r : Int) (h : cmpF k r = 0) : (foldSp k).1 ≤ r ∧ r ≤ (foldSp k).2.1 := by
  unfold cmpF at h
  repeat' split at h
  all_goals omega
theorem cmpF_out (k : Nat) (r : Int) (hp : Pos (fun i => cmpF i r) 17 k) (hn : ¬ (k < 17 ∧ cmpF k r = 0)) (m : Nat) (hm : m < 17) : ¬ ((foldSp m).1 ≤ r ∧ r ≤ (foldSp m).2.1) := by
  obtain ⟨h1, h2, h3⟩ := hp
  intro hc
  have h0 : cmpF m r = 0 := by unfold cmpF; rw [if_neg (by omega), if_neg (by omega)]
  have hge : ¬ m < k := fun h => by have := h2 m h; dsimp only at this; omega
  by_cases e : m = k
  · exact hn ⟨by omega, by rw [← e]; exact h0⟩
  · have h4 := h3 k (Nat.le_refl _) (by omega)
    dsimp only at h4
    have h5 : ¬ cmpF k r < 0 := by omega
    rw [cmpF_neg] at h5
    have h6 := foldT_up ⟨k, by omega⟩ ⟨m, hm⟩ (by simp only; omega)
    simp only at h6
    omega
set_option maxHeartbeats 4000000 in
theorem low_found (k : Nat) (hk : k < 17) (r : Nat) (h : (foldSp k).1 ≤ (r : Int) ∧ (r : Int) ≤ (foldSp k).2.1) : ((lowC r : Nat) : Int) = if ((r : Int) - (foldSp k).1) % (foldSp k).2.2.1 = 0 then (r : Int) + (foldSp k).2.2.2 else r := by
  match k, hk with
  | 0, _ | 1, _ | 2, _ | 3, _ | 4, _ | 5, _ | 6, _ | 7, _ | 8, _ | 9, _ | 10, _ | 11, _ | 12, _ | 13, _ | 14, _ | 15, _ | 16, _ =>
    simp only [foldSp, foldT, List.getD_cons_zero, List.getD_cons_succ] at h ⊢
    unfold lowC
    repeat (first | rw [if_pos (by omega)] | rw [if_neg (by omega)])
    try (repeat' split)
    all_goals omega
  | n + 17, hk => omega
set_option maxHeartbeats 4000000 in
theorem low_out (r : Nat) (h : ∀ m, m < 17 → ¬ ((foldSp m).1 ≤ (r : Int) ∧ (r : Int) ≤ (foldSp m).2.1)) : lowC r = r := by
  have h0 := h 0 (by omega); have h1 := h 1 (by omega); have h2 := h 2 (by omega); have h3 := h 3 (by omega); have h4 := h 4 (by omega); have h5 := h 5 (by omega); have h6 := h 6 (by omega)
  have h7 := h 7 (by omega); have h8 := h 8 (by omega); have h9 := h 9 (by omega); have h10 := h 10 (by omega); have h11 := h 11 (by omega); have h12 := h 12 (by omega); have h13 := h 13 (by omega)
  have h14 := h 14 (by omega); have h15 := h 15 (by omega); have h16 := h 16 (by omega)
  clear h
  simp only [foldSp, foldT, List.getD_cons_zero, List.getD_cons_succ] at h0 h1 h2 h3 h4 h5 h6 h7 h8 h9 h10 h11 h12 h13 h14 h15 h16
  unfold lowC
  repeat (first | rw [if_pos (by omega)] | rw [if_neg (by omega)])
end Go.Cs

namespace Go.Cs
set_option linter.unusedVariables false
open Go.Lib
set_option linter.unusedVariables false
theorem runeLen_eq (c : Nat) (h : scal c) : runeLen (c : Int) = ((enc c).length : Nat) := by
  unfold scal at h
  unfold enc encodeRune runeLen
  rw [if_neg (by omega)]
  by_cases h1 : c < 128
  · rw [if_pos (by omega), encodeRuneZ_one (by omega) (by omega)]; rfl
  by_cases h2 : c ≤ 2047
  · rw [if_neg (by omega), if_pos (by omega), encodeRuneZ_two (by omega) (by omega)]; rfl
  by_cases h3 : c ≤ 65535
  · rw [if_neg (by omega), if_neg (by omega), if_neg (by omega), if_pos (by omega), encodeRuneZ_three (by omega)]; rfl
  · rw [if_neg (by omega), if_neg (by omega), if_neg (by omega), if_neg (by omega), if_pos (by omega), encodeRuneZ_four (by omega) (by omega)]; rfl
/-- The word at a place. -/
def mk (l : List UInt8) (p : Nat × Nat) : List UInt8 × Nat × Nat := (foldL (cutL l p), p.1, p.2)
theorem wordsL_eq (l : List UInt8) : wordsL l = (wd (us l) 0 none).map (mk l) := rfl
def frI (f : Option Nat) : Int := match f with | none => -1 | some a => a
theorem wd_0 (n : Nat) (r : List (Nat × Nat)) (p : Nat) (f : Option Nat) : wd ((0, n) :: r) p f = close f p ++ wd r (p + n) none := rfl
theorem wd_2 (n : Nat) (r : List (Nat × Nat)) (p : Nat) (f : Option Nat) : wd ((2, n) :: r) p f = close f p ++ (p, p + n) :: wd r (p + n) none := rfl
theorem wd_1n (n : Nat) (r : List (Nat × Nat)) (p : Nat) : wd ((1, n) :: r) p none = wd r (p + n) (some p) := rfl
theorem wd_1s (n : Nat) (r : List (Nat × Nat)) (p a : Nat) : wd ((1, n) :: r) p (some a) = if 40 < p + n - a then (a, p) :: wd r (p + n) (some p) else wd r (p + n) (some a) := rfl
end Go.Cs

namespace Go.Cs
set_option linter.unusedVariables false
open Go.Lib
set_option linter.unusedVariables false
theorem Bd.take {l : List UInt8} {n : Nat} (h : Bd l n) : ∀ b, n ≤ b → Bd (l.take b) n := by
  induction h with
  | zero l => exact fun b _ => .zero _
  | step l n hne _ ih =>
    intro b hb
    have hw := decodeL_width l
    have hd := dec_take l b hne (by omega)
    have hl : 0 < l.length := List.length_pos_iff.2 hne
    have hne' : l.take b ≠ [] := by
      intro e
      have := congrArg List.length e
      rw [List.length_take, List.length_nil] at this
      omega
    have h1 := ih (b - (decodeL l).2) (by omega)
    rw [← hd]
    refine .step _ _ hne' ?_
    rw [hd, List.drop_take]
    exact h1
end Go.Cs

namespace Go.Cs
set_option linter.unusedVariables false
open Go.Lib
set_option linter.unusedVariables false
/-! ### Segments -/
/-- The width of steps. -/
def W (u : List (Nat × Nat)) : Nat := (u.map (·.2)).sum
theorem W_nil : W [] = 0 := rfl
theorem W_cons (q : Nat × Nat) (u : List (Nat × Nat)) : W (q :: u) = q.2 + W u := by simp [W]
theorem W_app (u v : List (Nat × Nat)) : W (u ++ v) = W u + W v := by simp [W]
def Ones (u : List (Nat × Nat)) : Prop := u ≠ [] ∧ (∀ q ∈ u, q.1 = 1) ∧ W u ≤ 40
def Seg (u : List (Nat × Nat)) : Prop := Ones u ∨ ∃ n, u = [(2, n)]
/-- Rest that ends an open word. -/
def Stops (r : List (Nat × Nat)) : Prop := r = [] ∨ ∃ n t, r = (0, n) :: t
theorem wd_ones (r : List (Nat × Nat)) (hr : Stops r) : ∀ (u : List (Nat × Nat)) (q a : Nat), (∀ x ∈ u, x.1 = 1) → q + W u ≤ a + 40 → wd (u ++ r) q (some a) = (a, q + W u) :: wd r (q + W u) none
  | [], q, a, _, _ => by
    rcases hr with rfl | ⟨n, t, rfl⟩
    · simp [wd, close, W_nil]
    · simp only [List.nil_append, W_nil, Nat.add_zero]
      rw [wd_0, wd_0]; simp [close]
  | (k, n) :: u, q, a, h1, h2 => by
    have hk : k = 1 := h1 (k, n) (by simp)
    subst hk
    rw [W_cons] at h2
    rw [List.cons_append, wd_1s, if_neg (by dsimp only at h2; omega), wd_ones r hr u (q + n) a (fun x hx => h1 x (by simp [hx])) (by dsimp only at h2; omega), W_cons, Nat.add_assoc]
theorem wd_seg_app (u r : List (Nat × Nat)) (hu : Seg u) (hr : Stops r) (q : Nat) : wd (u ++ r) q none = (q, q + W u) :: wd r (q + W u) none := by
  rcases hu with ⟨hne, h1, h2⟩ | ⟨n, rfl⟩
  · match u, hne with
    | (k, n) :: u, _ =>
      have hk : k = 1 := h1 (k, n) (by simp)
      subst hk
      rw [W_cons] at h2
      rw [List.cons_append, wd_1n, wd_ones r hr u (q + n) q (fun x hx => h1 x (by simp [hx])) (by dsimp only at h2; omega), W_cons, Nat.add_assoc]
  · rw [List.cons_append, List.nil_append, wd_2]; simp [close, W_cons, W_nil]
theorem wd_seg (u0 : List (Nat × Nat)) : ∀ (r pre mid : List (Nat × Nat)) (f : Option Nat), u0 = pre ++ mid ++ r → (∀ q ∈ r, q.1 ≤ 2 ∧ q.2 ≤ 4) → ((f = none ∧ mid = []) ∨ (f = some (W pre) ∧ Ones mid)) →
    ∀ p ∈ wd r (W pre + W mid) f, ∃ a b c, u0 = a ++ b ++ c ∧ p = (W a, W a + W b) ∧ Seg b
  | [], pre, mid, f, he, _, hf, p, hp => by
    rcases hf with ⟨rfl, rfl⟩ | ⟨rfl, ho⟩
    · simp [wd, close] at hp
    · simp only [wd, close, List.mem_singleton] at hp
      exact ⟨pre, mid, [], he, hp, .inl ho⟩
  | (k, n) :: r, pre, mid, f, he, hk, hf, p, hp => by
    have hk0 := hk (k, n) (by simp)
    have hkr : ∀ q ∈ r, q.1 ≤ 2 ∧ q.2 ≤ 4 := fun q hq => hk q (by simp [hq])
    have hcl : p ∈ close f (W pre + W mid) → ∃ a b c, u0 = a ++ b ++ c ∧ p = (W a, W a + W b) ∧ Seg b := by
      intro hp
      rcases hf with ⟨rfl, rfl⟩ | ⟨rfl, ho⟩
      · simp [close] at hp
      · simp only [close, List.mem_singleton] at hp
        exact ⟨pre, mid, (k, n) :: r, he, hp, .inl ho⟩
    have e1 : W (pre ++ mid ++ [(k, n)]) + W [] = W pre + W mid + n := by simp only [W_app, W_cons, W_nil]; omega
    have g1 := wd_seg u0 r (pre ++ mid ++ [(k, n)]) [] none (by rw [he]; simp) hkr (.inl ⟨rfl, rfl⟩) p
    rw [e1] at g1
    simp only [wd] at hp
    split at hp
    · rcases List.mem_append.1 hp with h | h
      · exact hcl h
      · exact g1 h
    · split at hp
      · rename_i hk2
        rcases List.mem_append.1 hp with h | h
        · exact hcl h
        · rcases List.mem_cons.1 h with h | h
          · exact ⟨pre ++ mid, [(k, n)], r, by rw [he]; simp, by rw [h]; simp only [W_app, W_cons, W_nil, Nat.add_zero], .inr ⟨n, by rw [hk2]⟩⟩
          · exact g1 h
      · rename_i h0 h2
        have hk1 : k = 1 := by dsimp only at hk0; omega
        subst hk1
        have hone : Ones [(1, n)] := ⟨by simp, by simp, by simp only [W_cons, W_nil]; dsimp only at hk0 ⊢; omega⟩
        have e2 : W (pre ++ mid) + W [(1, n)] = W pre + W mid + n := by simp only [W_app, W_cons, W_nil]; omega
        have g2 := wd_seg u0 r (pre ++ mid) [(1, n)] (some (W (pre ++ mid))) (by rw [he]; simp) hkr (.inr ⟨rfl, hone⟩) p
        rw [e2, W_app] at g2
        rcases hf with ⟨rfl, rfl⟩ | ⟨rfl, ho⟩
        · exact g2 hp
        · simp only at hp
          split at hp
          · rcases List.mem_cons.1 hp with h | h
            · exact ⟨pre, mid, (1, n) :: r, he, h, .inl ho⟩
            · exact g2 h
          · rename_i h40
            have ho3 : Ones (mid ++ [(1, n)]) := ⟨by simp, fun q hq => by
              rcases List.mem_append.1 hq with h | h
              · exact ho.2.1 q h
              · simp at h; rw [h], by simp only [W_app, W_cons, W_nil]; omega⟩
            have g3 := wd_seg u0 r pre (mid ++ [(1, n)]) (some (W pre)) (by rw [he]; simp) hkr (.inr ⟨rfl, ho3⟩) p
            rw [show W pre + W (mid ++ [(1, n)]) = W pre + W mid + n by simp only [W_app, W_cons, W_nil]; omega] at g3
            exact g3 hp
theorem us_class (l : List UInt8) : ∀ q ∈ us l, q.1 ≤ 2 ∧ q.2 ≤ 4 := by
  induction l using dec_ind with
  | nil => simp [us_nil]
  | step l hne ih =>
    rw [us_step l hne]
    intro q hq
    rcases List.mem_cons.1 hq with rfl | h
    · have hw : (decodeL l).2 ≤ 4 := by
        rcases bad_or l hne with h | ⟨c, _, h, _⟩
        · rw [h]; decide
        · rw [h]; exact (enc_len c).2
      refine ⟨?_, hw⟩
      rw [clsN_eq]; exact kind_le2 _
    · exact ih q h
theorem us_W (l : List UInt8) : W (us l) = l.length := by
  induction l using dec_ind with
  | nil => rfl
  | step l hne ih =>
    have := decodeL_le l hne
    rw [us_step l hne, W_cons, ih, List.length_drop]
    omega
theorem us_drop : ∀ (a b : List (Nat × Nat)) (l : List UInt8), us l = a ++ b → us (l.drop (W a)) = b
  | [], b, l, h => by simpa [W_nil] using h
  | q :: a, b, l, h => by
    by_cases hne : l = []
    · subst hne; rw [us_nil] at h; simp at h
    · rw [us_step l hne, List.cons_append] at h
      injection h with h1 h2
      have := us_drop a b _ h2
      rw [List.drop_drop] at this
      rw [W_cons, ← h1]
      exact this
theorem us_take' : ∀ (a b : List (Nat × Nat)) (l : List UInt8), us l = a ++ b → us (l.take (W a)) = a
  | [], b, l, h => by simp [W_nil, us_nil]
  | q :: a, b, l, h => by
    by_cases hne : l = []
    · subst hne; rw [us_nil] at h; simp at h
    · rw [us_step l hne, List.cons_append] at h
      injection h with h1 h2
      have h3 := us_take' a b _ h2
      have hw := decodeL_width l
      have hl : 0 < l.length := List.length_pos_iff.2 hne
      have hq : q.2 = (decodeL l).2 := by rw [← h1]
      have hd := dec_take l (q.2 + W a) hne (by omega)
      have hne' : l.take (q.2 + W a) ≠ [] := by
        intro e
        have := congrArg List.length e
        rw [List.length_take, List.length_nil] at this
        omega
      rw [W_cons, us_step _ hne', hd, h1, List.drop_take, hq, Nat.add_sub_cancel_left, h3]
theorem us_cut {a b c : List (Nat × Nat)} {l : List UInt8} (h : us l = a ++ b ++ c) : us (cutL l (W a, W a + W b)) = b := by
  unfold cutL
  dsimp only
  have h1 := us_take' (a ++ b) c l h
  rw [W_app] at h1
  exact us_drop a b _ h1
/-- Each place is a segment. -/
theorem place_seg (l : List UInt8) (p : Nat × Nat) (hp : p ∈ wd (us l) 0 none) : Seg (us (cutL l p)) := by
  obtain ⟨a, b, c, h1, h2, h3⟩ := wd_seg (us l) (us l) [] [] none rfl (us_class l) (.inl ⟨rfl, rfl⟩) p hp
  rw [h2, us_cut h1]
  exact h3
/-- A word's text. -/
def IsWord (x : List UInt8) : Prop := Seg (us x) ∧ foldL x = x
theorem word_good (l : List UInt8) (x : List UInt8 × Nat × Nat) (hx : x ∈ wordsL l) : IsWord x.1 := by
  unfold wordsL at hx
  obtain ⟨p, hp, rfl⟩ := List.mem_map.1 hx
  exact ⟨by rw [us_fold]; exact place_seg l p hp, fold_fold _⟩
theorem good_len {x : List UInt8} (h : IsWord x) : x.length ≤ 40 := by
  rw [← us_W]
  rcases h.1 with ⟨_, _, h⟩ | ⟨n, h⟩
  · exact h
  · have := us_class x (2, n) (by rw [h]; simp)
    rw [h, W_cons, W_nil]; dsimp only at this ⊢; omega
/-- A word's own words. -/
theorem good_words {x : List UInt8} (h : IsWord x) : wordsL x = [(x, 0, x.length)] := by
  have := wd_seg_app (us x) [] h.1 (.inl rfl) 0
  rw [List.append_nil, us_W, Nat.zero_add] at this
  unfold wordsL
  rw [this]
  simp [wd, close, cutL, h.2]
end Go.Cs

namespace Go.Cs
set_option linter.unusedVariables false
open Go.Lib
set_option linter.unusedVariables false
end Go.Cs
namespace Go.Cs
set_option linter.unusedVariables false
open Go.Lib
end Go.Cs

namespace Go.Cs
set_option linter.unusedVariables false
open Go.Lib
set_option linter.unusedVariables false
end Go.Cs

namespace Go.Cs
set_option linter.unusedVariables false
open Go.Lib
set_option linter.unusedVariables false
/-- What the reference asks of a piece of n bytes at the head of l. -/
def need (l : List UInt8) : Nat := if 194 ≤ (l.getD 0 0).toNat ∧ (l.getD 0 0).toNat ≤ 223 then 2 else if 224 ≤ (l.getD 0 0).toNat ∧ (l.getD 0 0).toNat ≤ 239 then 3 else if 240 ≤ (l.getD 0 0).toNat ∧ (l.getD 0 0).toNat ≤ 244 then 4 else 1
end Go.Cs

namespace Go.Cs
set_option linter.unusedVariables false
open Go.Lib
set_option linter.unusedVariables false
theorem nodup_len {α : Type} [DecidableEq α] : ∀ (a b : List α), a.Nodup → (∀ x ∈ a, x ∈ b) → a.length ≤ b.length
  | [], b, _, _ => Nat.zero_le _
  | x :: r, b, hn, hs => by
    rw [List.nodup_cons] at hn
    have hx : x ∈ b := hs x (by simp)
    have h1 := nodup_len r (b.erase x) hn.2 fun y hy => by
      have hne : y ≠ x := fun e => hn.1 (e ▸ hy)
      exact (List.mem_erase_of_ne hne).2 (hs y (by simp [hy]))
    have h2 := List.length_erase_of_mem hx
    have h3 : 0 < b.length := List.length_pos_iff.2 fun e => by rw [e] at hx; cases hx
    simp only [List.length_cons]
    omega
end Go.Cs

namespace Go.Cs
set_option linter.unusedVariables false
open Go.Lib
set_option linter.unusedVariables false
set_option linter.unusedSectionVars false
/-! ### Depth, as a relation -/
def Dep (l : List Bx) : Nat → Int → Prop
  | 0, id => id = 0
  | d + 1, id => id ≠ 0 ∧ ∃ u, upOf l id = some u ∧ Dep l d u
theorem dep_iff (l : List Bx) : ∀ (n d : Nat) (id : Int), dep l n id = some d ↔ Dep l d id ∧ d ≤ n
  | 0, 0, id => by unfold dep Dep; by_cases h : id = 0 <;> simp [h]
  | 0, d + 1, id => by unfold dep; by_cases h : id = 0 <;> simp [h]
  | n + 1, 0, id => by
    unfold dep Dep
    by_cases h : id = 0
    · simp [h]
    · rw [if_neg h]
      constructor
      · intro e
        cases hu : upOf l id with
        | none => rw [hu] at e; cases e
        | some u =>
          rw [hu] at e
          dsimp only at e
          cases hd : dep l n u with
          | none => rw [hd] at e; cases e
          | some x => rw [hd] at e; simp at e
      · intro e; exact absurd e.1 h
  | n + 1, d + 1, id => by
    unfold dep Dep
    by_cases h : id = 0
    · simp [h]
    · rw [if_neg h]
      constructor
      · intro e
        cases hu : upOf l id with
        | none => rw [hu] at e; cases e
        | some u =>
          rw [hu] at e
          dsimp only at e
          cases hd : dep l n u with
          | none => rw [hd] at e; cases e
          | some x =>
            rw [hd] at e
            simp at e
            subst e
            obtain ⟨h1, h2⟩ := (dep_iff l n x u).1 hd
            exact ⟨⟨h, u, rfl, h1⟩, by omega⟩
      · rintro ⟨⟨_, u, hu, h1⟩, h2⟩
        rw [hu]
        dsimp only
        rw [(dep_iff l n d u).2 ⟨h1, by omega⟩]; rfl
theorem Dep.inj {l : List Bx} : ∀ {d e : Nat} {id : Int}, Dep l d id → Dep l e id → d = e
  | 0, 0, id, _, _ => rfl
  | 0, e + 1, id, h, k => absurd h k.1
  | d + 1, 0, id, h, k => absurd k h.1
  | d + 1, e + 1, id, ⟨_, u, hu, h⟩, ⟨_, v, hv, k⟩ => by
    rw [hu] at hv
    obtain rfl := Option.some.inj hv
    rw [Dep.inj h k]
/-- The ids up the chain: all different, and of the list. -/
theorem Dep.len {l : List Bx} {d : Nat} {id : Int} (h : Dep l d id) : d ≤ l.length := by
  have key : ∀ (d : Nat) (id : Int), Dep l d id → ∃ c : List Int, c.length = d ∧ c.Nodup ∧ (∀ x ∈ c, x ∈ l.map (·.id)) ∧ ∀ x ∈ c, ∃ e, e ≤ d ∧ Dep l e x := by
    intro d
    induction d with
    | zero => intro id _; exact ⟨[], rfl, .nil, by simp, by simp⟩
    | succ d ih =>
      rintro id ⟨h0, u, hu, hd⟩
      obtain ⟨c, h1, h2, h3, h4⟩ := ih u hd
      obtain ⟨b, hb, hid, _⟩ := upOf_mem hu
      refine ⟨id :: c, by simp [h1], List.nodup_cons.2 ⟨fun hm => ?_, h2⟩, fun x hx => ?_, fun x hx => ?_⟩
      · obtain ⟨e, he, hde⟩ := h4 id hm
        have := Dep.inj hde (show Dep l (d + 1) id from ⟨h0, u, hu, hd⟩)
        omega
      · rcases List.mem_cons.1 hx with rfl | hx
        · exact List.mem_map.2 ⟨b, hb, hid⟩
        · exact h3 x hx
      · rcases List.mem_cons.1 hx with rfl | hx
        · exact ⟨d + 1, Nat.le_refl _, h0, u, hu, hd⟩
        · obtain ⟨e, he, hde⟩ := h4 x hx
          exact ⟨e, by omega, hde⟩
  obtain ⟨c, h1, h2, h3, _⟩ := key d id h
  have := nodup_len c (l.map (·.id)) h2 h3
  rw [List.length_map] at this
  omega
theorem RightP.dep {l : List Bx} (hr : RightP l) {b : Bx} (hb : b ∈ l) : ∃ d, Dep l d b.id ∧ d ≤ 8 := by
  obtain ⟨d, h1, h2⟩ := hr.deep b hb
  exact ⟨d, ((dep_iff _ _ _ _).1 h1).1, h2⟩
/-! ### Descent -/
inductive Reach (l : List Bx) (b : Int) : Int → Prop
  | here : Reach l b b
  | up {id u : Int} : upOf l id = some u → Reach l b u → Reach l b id
/-! ### The operations -/
def hasId (l : List Bx) (id : Int) : Bool := l.any fun b => decide (b.id = id)
/-- Where the parents agree, so do the depths. -/
theorem Dep.congr {l l' : List Bx} (S : Int → Prop) (hS : ∀ id u, S id → upOf l id = some u → upOf l' id = some u ∧ S u) : ∀ (d : Nat) (id : Int), S id → Dep l d id → Dep l' d id
  | 0, id, _, h => h
  | d + 1, id, hs, ⟨h0, u, hu, h⟩ => ⟨h0, u, (hS id u hs hu).1, Dep.congr S hS d u (hS id u hs hu).2 h⟩
end Go.Cs

namespace Go.Cs
set_option linter.unusedVariables false
open Go.Lib
set_option linter.unusedVariables false
set_option linter.unusedSectionVars false
/-! ### Moving: depths -/
section
end
end Go.Cs

namespace Go.Cs
set_option linter.unusedVariables false
open Go.Lib
set_option linter.unusedVariables false
set_option linter.unusedSectionVars false
/-! ### Descent and depth -/
theorem Reach.dep {l : List Bx} (hz : upOf l 0 = none) {b y : Int} (h : Reach l b y) : ∀ {d : Nat}, Dep l d y → ∃ e, e ≤ d ∧ Dep l e b := by
  induction h with
  | here => intro d hd; exact ⟨d, Nat.le_refl _, hd⟩
  | @up id u hu _ ih =>
    intro d hd
    cases d with
    | zero =>
      have h0 : id = 0 := hd
      rw [h0, hz] at hu; cases hu
    | succ d =>
      obtain ⟨h0, v, hv, hd⟩ := hd
      rw [hu] at hv
      obtain rfl := Option.some.inj hv
      obtain ⟨e, h1, h2⟩ := ih hd
      exact ⟨e, by omega, h2⟩
theorem RightP.zero {l : List Bx} (hr : RightP l) : upOf l 0 = none := by rw [boxOf_up, zero_no hr]; rfl
end Go.Cs

namespace Go.Cs
set_option linter.unusedVariables false
open Go.Lib
set_option linter.unusedVariables false
set_option linter.unusedSectionVars false
section
end
/-! ### Paths after a move -/
section
end
end Go.Cs

namespace Go.Cs
set_option linter.unusedVariables false
open Go.Lib
set_option linter.unusedVariables false
set_option linter.unusedSectionVars false
theorem right_nil : RightP [] := ⟨by simp, by simp, .nil, by simp, by simp, .nil, .nil, by simp⟩
end Go.Cs

namespace Go.Cs
set_option linter.unusedVariables false
open Go.Lib
set_option linter.unusedVariables false
/-! ### Accounts, plain -/
/-- A digest: its 32 cells. -/
structure Dg where
  (d0 d1 d2 d3 d4 d5 d6 d7 d8 d9 d10 d11 d12 d13 d14 d15 d16 d17 d18 d19 d20 d21 d22 d23 d24 d25 d26 d27 d28 d29 d30 d31 : Int)
deriving DecidableEq
structure Ml where
  id : Int
  blob : Dg
  boxes : List Int
  flags : List (List UInt8)
  at_ : Int
  size : Int
  mod : Int
deriving DecidableEq
structure Sc where
  name : List UInt8
  text : List UInt8
deriving DecidableEq
structure Sn where
  key : List UInt8
  at_ : Int
deriving DecidableEq
structure Acc where
  boxes : List Bx
  mails : List Ml
  scripts : List Sc
  active : List UInt8
  seen : List Sn
  nm : Int
  nb : Int
  st : Int
deriving DecidableEq
structure Opr where
  kind : Int
  id : Int
  box : Int
  up : Int
  name : List UInt8
  role : List UInt8
  text : List UInt8
  blob : Dg
  boxes : List Int
  add : List (List UInt8)
  drop : List (List UInt8)
  at_ : Int
  size : Int
  if_ : Int
/-! ### Sorted, distinct -/
structure STO {α : Type} (lt : α → α → Bool) : Prop where
  irr : ∀ a, lt a a = false
  tr : ∀ a b c, lt a b = true → lt b c = true → lt a c = true
  tri : ∀ a b, lt a b = false → lt b a = false → a = b
def insD {α : Type} (lt : α → α → Bool) (x : α) : List α → List α
  | [] => [x]
  | y :: r => if lt y x = true then y :: insD lt x r else if lt x y = true then x :: y :: r else y :: r
def sortD {α : Type} (lt : α → α → Bool) (l : List α) : List α := l.foldl (fun a x => insD lt x a) []
def AscB {α : Type} (lt : α → α → Bool) (l : List α) : Prop := l.Pairwise fun a b => lt a b = true
section
variable {α : Type} {lt : α → α → Bool}
theorem mem_insD (h : STO lt) (x z : α) : ∀ l : List α, z ∈ insD lt x l ↔ z = x ∨ z ∈ l
  | [] => by simp [insD]
  | y :: r => by
    unfold insD
    split
    · rw [List.mem_cons, mem_insD h x z r, List.mem_cons]
      constructor
      · rintro (e | e | e)
        · exact .inr (.inl e)
        · exact .inl e
        · exact .inr (.inr e)
      · rintro (e | e | e)
        · exact .inr (.inl e)
        · exact .inl e
        · exact .inr (.inr e)
    · rename_i h1
      split
      · simp
      · rename_i h2
        obtain rfl : y = x := h.tri y x (by simpa using h1) (by simpa using h2)
        simp
theorem asc_insD (h : STO lt) (x : α) : ∀ l : List α, AscB lt l → AscB lt (insD lt x l)
  | [], _ => by simp [insD, AscB]
  | y :: r, hl => by
    obtain ⟨h1, h2⟩ := List.pairwise_cons.1 hl
    unfold insD
    split
    · rename_i hy
      refine List.pairwise_cons.2 ⟨fun z hz => ?_, asc_insD h x r h2⟩
      rcases (mem_insD h x z r).1 hz with rfl | hz
      · exact hy
      · exact h1 z hz
    · split
      · rename_i hy
        refine List.pairwise_cons.2 ⟨fun z hz => ?_, hl⟩
        rcases List.mem_cons.1 hz with rfl | hz
        · exact hy
        · exact h.tr _ _ _ hy (h1 z hz)
      · exact hl
theorem sortD_go (h : STO lt) : ∀ (l a : List α), AscB lt a → AscB lt (l.foldl (fun a x => insD lt x a) a) ∧ ∀ z, z ∈ l.foldl (fun a x => insD lt x a) a ↔ z ∈ a ∨ z ∈ l
  | [], a, ha => ⟨ha, by simp⟩
  | x :: l, a, ha => by
    obtain ⟨h1, h2⟩ := sortD_go h l (insD lt x a) (asc_insD h x a ha)
    refine ⟨h1, fun z => ?_⟩
    rw [List.foldl_cons, h2, mem_insD h, List.mem_cons]
    constructor
    · rintro ((e | e) | e)
      · exact .inr (.inl e)
      · exact .inl e
      · exact .inr (.inr e)
    · rintro (e | e | e)
      · exact .inl (.inr e)
      · exact .inl (.inl e)
      · exact .inr e
theorem asc_sortD (h : STO lt) (l : List α) : AscB lt (sortD lt l) := (sortD_go h l [] .nil).1
theorem mem_sortD (h : STO lt) (l : List α) (z : α) : z ∈ sortD lt l ↔ z ∈ l := by
  rw [show z ∈ sortD lt l ↔ _ from (sortD_go h l [] .nil).2 z]; simp
theorem asc_uniq (h : STO lt) : ∀ (a b : List α), AscB lt a → AscB lt b → (∀ z, z ∈ a ↔ z ∈ b) → a = b
  | [], [], _, _, _ => rfl
  | [], y :: b, _, _, hm => by have := (hm y).2 (by simp); simp at this
  | x :: a, [], _, _, hm => by have := (hm x).1 (by simp); simp at this
  | x :: a, y :: b, ha, hb, hm => by
    obtain ⟨a1, a2⟩ := List.pairwise_cons.1 ha
    obtain ⟨b1, b2⟩ := List.pairwise_cons.1 hb
    have no : ∀ {u v : α}, lt u v = true → lt v u = true → False := fun p q => by
      have := h.tr _ _ _ p q
      rw [h.irr] at this; cases this
    obtain rfl : x = y := by
      rcases List.mem_cons.1 ((hm x).1 (by simp)) with e | e
      · exact e
      rcases List.mem_cons.1 ((hm y).2 (by simp)) with f | f
      · exact f.symm
      · exact (no (a1 y f) (b1 x e)).elim
    have hne : ∀ {z : α} {l : List α}, (∀ u ∈ l, lt x u = true) → z ∈ l → z ≠ x := fun hl hz e => by
      subst e
      have := hl _ hz
      rw [h.irr] at this; cases this
    rw [asc_uniq h a b a2 b2 fun z => ?_]
    constructor
    · intro hz
      rcases List.mem_cons.1 ((hm z).1 (List.mem_cons_of_mem _ hz)) with e | e
      · exact absurd e (hne a1 hz)
      · exact e
    · intro hz
      rcases List.mem_cons.1 ((hm z).2 (List.mem_cons_of_mem _ hz)) with e | e
      · exact absurd e (hne b1 hz)
      · exact e
theorem sortD_of (h : STO lt) {l m : List α} (ha : AscB lt m) (hm : ∀ z, z ∈ m ↔ z ∈ l) : m = sortD lt l := asc_uniq h _ _ ha (asc_sortD h l) fun z => by rw [hm, mem_sortD h]
theorem len_insD (x : α) : ∀ l : List α, (insD lt x l).length ≤ l.length + 1
  | [] => by simp [insD]
  | y :: r => by
    unfold insD
    have := len_insD x r
    split
    · simp only [List.length_cons]; omega
    · split <;> simp
theorem len_sortD (l : List α) : (sortD lt l).length ≤ l.length := by
  have : ∀ (l a : List α), (l.foldl (fun a x => insD lt x a) a).length ≤ a.length + l.length := by
    intro l
    induction l with
    | nil => simp
    | cons x l ih =>
      intro a
      have := ih (insD lt x a)
      have := len_insD (lt := lt) x a
      simp only [List.foldl_cons, List.length_cons]; omega
  have := this l []
  unfold sortD
  simpa using this
end
def ltI (a b : Int) : Bool := decide (a < b)
def ltT (a b : List UInt8) : Bool := decide (a < b)
theorem stoI : STO ltI := ⟨fun a => by simp [ltI], fun a b c h1 h2 => by simp only [ltI, decide_eq_true_eq] at *; omega, fun a b h1 h2 => by simp only [ltI, decide_eq_false_iff_not] at *; omega⟩
theorem stoT : STO ltT := ⟨fun a => by simp only [ltT, decide_eq_false_iff_not]; exact List.lt_irrefl a, fun a b c h1 h2 => by simp only [ltT, decide_eq_true_eq] at *; exact List.lt_trans h1 h2, fun a b h1 h2 => by
  simp only [ltT, decide_eq_false_iff_not] at *
  exact List.le_antisymm h2 h1⟩
def sortI (l : List Int) : List Int := sortD ltI l
/-- What slices.Sort and slices.Compact make of a list. -/
theorem compact_sorted {α : Type} [DecidableEq α] [Inhabited α] {lt : α → α → Bool} (h : STO lt) (le : α → α → Bool) (hle : ∀ a b, le a b = !lt b a) (l : List α) : compact (l.mergeSort le) = sortD lt l := by
  have htr : ∀ a b c, le a b = true → le b c = true → le a c = true := fun a b c h1 h2 => by
    rw [hle, Bool.not_eq_true'] at *
    cases hca : lt c a with
    | false => rfl
    | true =>
      cases hcb : lt c b with
      | true => rw [hcb] at h2; cases h2
      | false =>
        cases hbc : lt b c with
        | true => have := h.tr _ _ _ hbc hca; rw [this] at h1; cases h1
        | false =>
          obtain rfl := h.tri _ _ hbc hcb
          rw [hca] at h1; cases h1
  have hto : ∀ a b, (le a b || le b a) = true := fun a b => by
    rw [hle, hle]
    cases hab : lt a b with
    | false => simp
    | true =>
      cases hba : lt b a with
      | false => rfl
      | true => have := h.tr _ _ _ hab hba; rw [h.irr] at this; cases this
  have hs : (l.mergeSort le).Pairwise fun a b => le a b = true := List.pairwise_mergeSort htr hto l
  have hm : ∀ z, z ∈ l.mergeSort le ↔ z ∈ l := fun z => (List.mergeSort_perm l le).mem_iff
  generalize l.mergeSort le = s at *
  have key : ∀ m, m ≤ s.length → AscB lt (compactUpTo s.toArray m) ∧ (∀ z, z ∈ compactUpTo s.toArray m ↔ z ∈ s.take m) := by
    intro m
    induction m with
    | zero => intro _; simp [compactUpTo, AscB]
    | succ m ih =>
      intro hmle
      obtain ⟨i1, i2⟩ := ih (by omega)
      have hlt : m < s.length := by omega
      rw [compactUpTo_succ]
      have hsm : s.toArray[m]! = s[m] := by simp [hlt]
      have htk : s.take (m + 1) = s.take m ++ [s[m]] := List.take_succ_eq_append_getElem hlt
      rw [htk, hsm]
      have hkp : keeps s.toArray m = true ↔ (m = 0 ∨ ∃ h : m - 1 < s.length, s[m] ≠ s[m - 1]) := by
        unfold keeps
        have e2 : s.toArray[m - 1]! = s[m - 1]'(by omega) := by simp [show m - 1 < s.length by omega]
        simp only [hsm, e2, decide_eq_true_eq, ne_eq]
        constructor
        · rintro (e | e)
          · exact .inl e
          · exact .inr ⟨by omega, e⟩
        · rintro (e | ⟨_, e⟩)
          · exact .inl e
          · exact .inr e
      have hle' : ∀ z ∈ s.take m, le z s[m] = true := fun z hz => by
        have hp := hs
        rw [← List.take_append_drop m s, List.pairwise_append] at hp
        exact hp.2.2 z hz s[m] (by rw [List.drop_eq_getElem_cons hlt]; exact List.mem_cons_self)
      by_cases hk : keeps s.toArray m = true
      · rw [if_pos hk]
        refine ⟨?_, fun z => by rw [List.mem_append, List.mem_append, i2]⟩
        unfold AscB
        rw [List.pairwise_append]
        refine ⟨i1, by simp, fun a ha b hb => ?_⟩
        rw [List.mem_singleton] at hb
        subst hb
        have ha2 := (i2 a).1 ha
        have hane : a ≠ s[m] := by
          rintro rfl
          rcases hkp.1 hk with e | ⟨hm1, e⟩
          · subst e; simp at ha2
          · -- the one before m is at most s[m], and at least a
            apply e
            have hm0 : m ≠ 0 := by rintro rfl; simp at ha2
            have hp : le (s[m - 1]'hm1) s[m] = true := hle' _ (by
              rw [List.mem_take_iff_getElem]
              exact ⟨m - 1, by omega, rfl⟩)
            obtain ⟨i, hi, hie⟩ := List.mem_take_iff_getElem.1 ha2
            have hq : le s[m] (s[m - 1]'hm1) = true ∨ i = m - 1 := by
              by_cases hi1 : i = m - 1
              · exact .inr hi1
              · left
                have hi2 : i < m - 1 := by omega
                have := (List.pairwise_iff_getElem.1 hs) i (m - 1) (by omega) hm1 hi2
                rwa [hie] at this
            rcases hq with hq | hq
            · rw [hle, Bool.not_eq_true'] at hp hq
              exact h.tri _ _ hp hq
            · subst hq; exact hie.symm
        have := hle' a ha2
        rw [hle, Bool.not_eq_true'] at this
        cases hal : lt a s[m] with
        | true => rfl
        | false => exact absurd (h.tri _ _ hal this) hane
      · rw [if_neg hk]
        rw [List.append_nil]
        refine ⟨i1, fun z => ?_⟩
        rw [i2, List.mem_append, List.mem_singleton]
        constructor
        · exact .inl
        · rintro (e | rfl)
          · exact e
          · have hm0 : m ≠ 0 := fun e => hk (hkp.2 (.inl e))
            have hm1 : m - 1 < s.length := by omega
            have e : s[m] = s[m - 1] := Classical.byContradiction fun hne => hk (hkp.2 (.inr ⟨hm1, hne⟩))
            rw [e]
            rw [List.mem_take_iff_getElem]
            exact ⟨m - 1, by omega, rfl⟩
  unfold compact
  obtain ⟨k1, k2⟩ := key s.length (Nat.le_refl _)
  exact sortD_of h k1 fun z => by rw [k2, List.take_length, hm]
theorem compact_int (l : List Int) : compact (l.mergeSort fun x y => decide (x ≤ y)) = sortI l := compact_sorted stoI _ (fun a b => by simp only [ltI]; rw [← decide_not]; exact decide_eq_decide.2 (by omega)) l
/-- Bytes of a flag. -/
def flagCh (c : UInt8) : Bool := (decide (97 ≤ c.toNat) && decide (c.toNat ≤ 122)) || (decide (48 ≤ c.toNat) && decide (c.toNat ≤ 57)) || decide (c ∈ ([36, 92, 45, 95, 46] : List UInt8))
def flagB (s : List UInt8) : Bool := s.all flagCh && decide (1 ≤ s.length ∧ s.length ≤ 30)
def scCh (c : UInt8) : Bool := decide (32 ≤ c.toNat) && decide (c.toNat ≠ 127)
def scB (s : List UInt8) : Bool := s.all scCh && decide (1 ≤ s.length ∧ s.length ≤ 100)
end Go.Cs
