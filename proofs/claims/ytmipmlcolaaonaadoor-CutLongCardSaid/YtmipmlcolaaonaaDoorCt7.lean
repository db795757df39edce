/- Helper text of this claim: Ct7: lemmas and contracts that the proved statement rests on; no conditions of its own. -/
import Derived.Test.YtmipmlcolaaonaaDoorCt6
namespace Go.Cs
open Go.Lib
set_option linter.unusedVariables false
/-! ### One long word -/
def chk (M a : Nat) : List (Nat × Nat) := (List.range ((M + 39) / 40)).map fun i => (a + 40 * i, min (a + 40 * i + 40) (a + M))
theorem chk_small (M a : Nat) (h0 : 0 < M) (h : M ≤ 40) : chk M a = [(a, a + M)] := by
  unfold chk
  rw [show (M + 39) / 40 = 1 by omega]
  simp only [List.range_succ, List.range_zero, List.nil_append, List.map_cons, List.map_nil, List.cons.injEq, and_true, Prod.mk.injEq]
  omega
theorem chk_big (M a : Nat) (h : 40 < M) : chk M a = (a, a + 40) :: chk (M - 40) (a + 40) := by
  unfold chk
  rw [show (M + 39) / 40 = (M - 40 + 39) / 40 + 1 by omega, List.range_succ_eq_map, List.map_cons, List.map_map]
  congr 1
  · simp only [Prod.mk.injEq]; omega
  · refine List.map_congr_left fun i _ => ?_
    simp only [Function.comp, Prod.mk.injEq]
    omega
theorem wd_long : ∀ (m p a : Nat), a < p → p ≤ a + 40 → wd (List.replicate m (1, 1) ++ [(0, 1)]) p (some a) = chk (p - a + m) a
  | 0, p, a, h1, h2 => by
    rw [List.replicate_zero, List.nil_append, wd_0, chk_small _ _ (by omega) (by omega)]
    rw [show a + (p - a + 0) = p by omega]; rfl
  | m + 1, p, a, h1, h2 => by
    rw [List.replicate_succ, List.cons_append, wd_1s]
    split
    · rename_i h
      rw [wd_long m (p + 1) p (by omega) (by omega), chk_big (p - a + (m + 1)) a (by omega)]
      have : p = a + 40 := by omega
      subst this
      rw [show a + 40 + 1 - (a + 40) + m = a + 40 - a + (m + 1) - 40 by omega]
    · rw [wd_long m (p + 1) a (by omega) (by omega), show p + 1 - a + m = p - a + (m + 1) by omega]
def low1 (c : UInt8) : Prop := 97 ≤ c.toNat ∧ c.toNat ≤ 122
theorem low1_enc : ∀ n : Fin 26, (enc (97 + n.val) = [UInt8.ofNat (97 + n.val)]) ∧ lowC (97 + n.val) = 97 + n.val ∧ kindN (97 + n.val) = 1 := by decide
theorem low1_dec (c : UInt8) (h : low1 c) (t : List UInt8) : decodeL (c :: t) = (c.toNat, 1) ∧ enc (lowC c.toNat) = [c] ∧ kindN c.toNat = 1 := by
  unfold low1 at h
  obtain ⟨h1, h2, h3⟩ := low1_enc ⟨c.toNat - 97, by omega⟩
  simp only [show 97 + (c.toNat - 97) = c.toNat by omega] at h1 h2 h3
  rw [UInt8.ofNat_toNat] at h1
  have := dec_enc c.toNat (.inl (by omega)) t
  rw [h1] at this
  exact ⟨this, by rw [h2, h1], h3⟩
theorem us_long (c : UInt8) (h : low1 c) : ∀ n, us (List.replicate n c ++ [45]) = List.replicate n (1, 1) ++ [(0, 1)]
  | 0 => by show us [45] = [(0, 1)]; decide +kernel
  | n + 1 => by
    have hd := low1_dec c h (List.replicate n c ++ [45])
    rw [List.replicate_succ, List.cons_append, us_step _ (by simp), hd.1, clsN_eq]
    simp only [List.drop_succ_cons, List.drop_zero]
    rw [us_long c h n, hd.2.2]; rfl
theorem fold_long (c : UInt8) (h : low1 c) : ∀ n, foldL (List.replicate n c) = List.replicate n c
  | 0 => rfl
  | n + 1 => by
    have hd := low1_dec c h (List.replicate n c)
    rw [List.replicate_succ, foldL_step _ (by simp)]
    unfold head1
    rw [hd.1]
    simp only [List.drop_succ_cons, List.drop_zero]
    unfold low1 at h
    rw [if_neg (by omega), hd.2.1, fold_long c h n]; rfl
def longL (n : Nat) (c : UInt8) : List UInt8 := 45 :: (List.replicate n c ++ [45])
theorem cut_long (n : Nat) (c : UInt8) (a b : Nat) (h1 : 1 ≤ a) (h2 : a ≤ b) (h3 : b ≤ n + 1) : cutL (longL n c) (a, b) = List.replicate (b - a) c := by
  obtain ⟨a, rfl⟩ : ∃ a', a = a' + 1 := ⟨a - 1, by omega⟩
  obtain ⟨b, rfl⟩ : ∃ b', b = b' + 1 := ⟨b - 1, by omega⟩
  unfold cutL longL
  simp only [List.take_succ_cons, List.drop_succ_cons]
  rw [List.take_append_of_le_length (by simp; omega), List.take_replicate, List.drop_replicate]
  congr 1
  omega
theorem words_long (n : Nat) (c : UInt8) (h : low1 c) : wordsL (longL n c) = (chk n 1).map fun p => (List.replicate (p.2 - p.1) c, p.1, p.2) := by
  have hu : wd (us (longL n c)) 0 none = chk n 1 := by
    have hs : us (longL n c) = (0, 1) :: us (List.replicate n c ++ [45]) := by
      have hd : decodeL (longL n c) = (45, 1) := dec_enc 45 (.inl (by decide)) _
      rw [us_step _ (by simp [longL]), hd]
      rfl
    rw [hs, us_long c h, wd_0]
    cases n with
    | zero => rfl
    | succ n =>
      rw [List.replicate_succ, List.cons_append, wd_1n, wd_long _ _ _ (by omega) (by omega)]
      simp only [close, List.nil_append]
      congr 1
      omega
  unfold wordsL
  rw [hu]
  refine List.map_congr_left fun p hp => ?_
  obtain ⟨i, hi, rfl⟩ := List.mem_map.1 hp
  have hi := List.mem_range.1 hi
  have e : cutL (longL n c) (1 + 40 * i, min (1 + 40 * i + 40) (1 + n)) = _ := cut_long n c _ _ (by omega) (by omega) (by omega)
  dsimp only
  rw [e, fold_long c h]
theorem long_len (n : Nat) (c : UInt8) (h : low1 c) : (wordsL (longL n c)).length = (n + 39) / 40 := by
  rw [words_long n c h]; simp [chk]
theorem long_at (n : Nat) (c : UInt8) (h : low1 c) (i : Nat) (hi : i < (n + 39) / 40) : (wordsL (longL n c))[i]? = some (List.replicate (min (1 + 40 * i + 40) (1 + n) - (1 + 40 * i)) c, 1 + 40 * i, min (1 + 40 * i + 40) (1 + n)) := by
  rw [words_long n c h, List.getElem?_map]
  unfold chk
  rw [List.getElem?_map, List.getElem?_range hi]
  rfl
end Go.Cs
