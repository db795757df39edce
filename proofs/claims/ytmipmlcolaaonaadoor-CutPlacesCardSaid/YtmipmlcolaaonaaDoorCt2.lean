/- Helper text of this claim: Ct2: lemmas and contracts that the proved statement rests on; no conditions of its own. -/
import Derived.Test.YtmipmlcolaaonaaDoorCt1
namespace Go.Cs
set_option linter.unusedVariables false
/-! ### The two tables -/
def cutT : List (Int × Int × Int) := [(215, 215, 0), (247, 247, 0), (8192, 11263, 0), (11904, 12255, 2), (12288, 12351, 0), (12353, 12543, 2), (12549, 12591, 2), (12593, 12686, 2), (13312, 19903, 2), (19968, 40959, 2), (44032, 55203, 2), (55296, 63743, 0), (63744, 64255, 2), (65024, 65039, 0), (65072, 65135, 0), (65280, 65295, 0), (65520, 65535, 0), (126976, 129791, 0), (131072, 262143, 2)]
def cutSp (i : Nat) : Int × Int × Int := cutT.getD i (0, 0, 0)
def foldT : List (Int × Int × Int × Int) := [(65, 90, 1, 32), (192, 214, 1, 32), (216, 222, 1, 32), (256, 303, 2, 1), (306, 311, 2, 1), (313, 328, 2, 1), (330, 375, 2, 1), (376, 376, 1, -121), (377, 382, 2, 1), (902, 902, 1, 38), (904, 906, 1, 37), (908, 908, 1, 64), (910, 911, 1, 63), (913, 929, 1, 32), (931, 939, 1, 32), (1024, 1039, 1, 80), (1040, 1071, 1, 32)]
def foldSp (i : Nat) : Int × Int × Int × Int := foldT.getD i (0, 0, 0, 0)
def cmp3 (a b : Int) : Int := if a < b then -1 else if b < a then 1 else 0
def cmpC (i : Nat) (r : Int) : Int := if (cutSp i).1 ≤ r ∧ r ≤ (cutSp i).2.1 then 0 else cmp3 (cutSp i).1 r
def cmpF (i : Nat) (r : Int) : Int := if (foldSp i).2.1 < r then -1 else if r < (foldSp i).1 then 1 else 0
theorem cutT_fact : ∀ i : Fin 19, (cutSp i.val).1 ≤ (cutSp i.val).2.1 ∧ 0 ≤ (cutSp i.val).1 ∧ (cutSp i.val).2.1 ≤ 1114111 ∧ 0 ≤ (cutSp i.val).2.2 ∧ (cutSp i.val).2.2 ≤ 2 := by decide
theorem cutT_up : ∀ i j : Fin 19, i.val < j.val → (cutSp i.val).2.1 < (cutSp j.val).1 := by decide
theorem foldT_fact : ∀ i : Fin 17, (foldSp i.val).1 ≤ (foldSp i.val).2.1 ∧ 0 ≤ (foldSp i.val).1 ∧ (foldSp i.val).2.1 ≤ 1114111 ∧ 1 ≤ (foldSp i.val).2.2.1 ∧ (foldSp i.val).2.2.1 ≤ 2 ∧ -200 ≤ (foldSp i.val).2.2.2 ∧ (foldSp i.val).2.2.2 ≤ 200 := by decide
theorem foldT_up : ∀ i j : Fin 17, i.val < j.val → (foldSp i.val).2.1 < (foldSp j.val).1 := by decide
theorem cmpC_neg (i : Nat) (hi : i < 19) (r : Int) : cmpC i r < 0 ↔ (cutSp i).2.1 < r := by
  have := cutT_fact ⟨i, hi⟩
  simp only at this
  unfold cmpC cmp3
  repeat' split
  all_goals omega
theorem cmpC_mono (i j : Nat) (h : i < j) (hj : j < 19) (r : Int) (hr : cmpC j r < 0) : cmpC i r < 0 := by
  rw [cmpC_neg _ (by omega)] at *
  have h1 := cutT_fact ⟨j, hj⟩
  have h2 := cutT_up ⟨i, by omega⟩ ⟨j, hj⟩ h
  simp only at h1 h2
  omega
theorem cmpF_neg (i : Nat) (r : Int) : cmpF i r < 0 ↔ (foldSp i).2.1 < r := by
  unfold cmpF
  repeat' split
  all_goals omega
theorem cmpF_mono (i j : Nat) (h : i < j) (hj : j < 17) (r : Int) (hr : cmpF j r < 0) : cmpF i r < 0 := by
  rw [cmpF_neg] at *
  have h1 := foldT_fact ⟨j, hj⟩
  have h2 := foldT_up ⟨i, by omega⟩ ⟨j, hj⟩ h
  simp only at h1 h2
  omega
/-- Where the search ends. -/
def Pos (cmp : Nat → Int) (n k : Nat) : Prop := k ≤ n ∧ (∀ m, m < k → cmp m < 0) ∧ ∀ m, k ≤ m → m < n → 0 ≤ cmp m
end Go.Cs
