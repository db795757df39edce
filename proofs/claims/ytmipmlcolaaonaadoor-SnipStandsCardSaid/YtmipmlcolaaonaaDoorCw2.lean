/- Helper text of this claim: Cw2: lemmas and contracts that the proved statement rests on; no conditions of its own. -/
import Derived.Test.YtmipmlcolaaonaaDoorCw1
import Derived.Test.YtmipmlcolaaonaaDoorGct
import Derived.Test.YtmipmlcolaaonaaDoorWcz
-- alias Tryd
namespace Go.Proofs.YtmipmlcolaaonaaDoor
open Go.RowKit Go.Pw Go.Vc Go.Cs Go.Lib
set_option linter.unusedVariables false
set_option maxRecDepth 100000
theorem or32 : ∀ x : Fin 192, IntKind.i64.wrap (((BitVec.ofInt IntKind.i64.bits ((x.val : Nat) : Int) ||| BitVec.ofInt IntKind.i64.bits 32).toNat : Nat) : Int) = (((x.val ||| 32 : Nat)) : Int) := by decide +kernel
theorem or32_b : ∀ x : Fin 192, (97 ≤ (x.val ||| 32) ∧ (x.val ||| 32) ≤ 122) ↔ (65 ≤ x.val ∧ x.val ≤ 90) ∨ (97 ≤ x.val ∧ x.val ≤ 122) := by decide +kernel
theorem kindN_low (r : Nat) (h : r < 192) : kindN r = if (48 ≤ r ∧ r ≤ 57) ∨ (65 ≤ r ∧ r ≤ 90) ∨ (97 ≤ r ∧ r ≤ 122) then 1 else 0 := by
  unfold kindN
  rw [if_neg (by omega), if_pos h]
  repeat' split
  all_goals omega
section
variable {w : World}
set_option maxHeartbeats 1000000 in
theorem cut_Kind (r : Int) (hT : CutTab w) : Calls Tryd.prog 33 #[.int .i64 r] w fun e w' => e = .returned (.int .i64 ((kindI r : Nat) : Int)) ∧ Keeps w w' none_ := by
  refine calls_of_vc (args := [.int .i64 r]) Tryd.func33 rfl (Nat.le_of_ble_eq_true rfl) ?_; refine Sat.go hmix ?_; conv => whnf
  unfold kindI
  by_cases h0 : r < 0
  · refine GO ?_
    exact ⟨by rw [if_pos h0]; rfl, Keeps.refl _ _⟩
  rw [if_neg h0]
  obtain ⟨n, rfl⟩ : ∃ n : Nat, r = n := ⟨r.toNat, by omega⟩
  rw [Int.toNat_natCast]
  by_cases h1 : 1114111 < n
  · refine GO ?_
    exact ⟨ret_int (by unfold kindN; rw [if_pos h1]; rfl), Keeps.refl _ _⟩
  by_cases h2 : n < 192
  · have e1 := or32 ⟨n, h2⟩
    have e2 := or32_b ⟨n, h2⟩
    have e3 := kindN_low n h2
    simp only at e1 e2
    generalize (n ||| 32) = m at *
    by_cases h3 : 48 ≤ n
    · by_cases h4 : n ≤ 57
      · refine GO ?_
        exact ⟨ret_int (by rw [e3, if_pos (by omega)]; rfl), Keeps.refl _ _⟩
      · refine GO ?_
        rw [e1]
        by_cases h5 : 97 ≤ m
        · by_cases h6 : m ≤ 122
          · refine GO ?_
            exact ⟨ret_int (by rw [e3, if_pos (.inr (e2.1 ⟨h5, h6⟩))]; rfl), Keeps.refl _ _⟩
          · refine GO ?_
            exact ⟨ret_int (by rw [e3, if_neg (by rintro (h | h); omega; exact h6 (e2.2 h).2)]; rfl), Keeps.refl _ _⟩
        · refine GO ?_
          exact ⟨ret_int (by rw [e3, if_neg (by rintro (h | h); omega; exact h5 (e2.2 h).1)]; rfl), Keeps.refl _ _⟩
    · refine GO ?_
      rw [e1]
      by_cases h5 : 97 ≤ m
      · by_cases h6 : m ≤ 122
        · refine GO ?_
          exact ⟨ret_int (by rw [e3, if_pos (.inr (e2.1 ⟨h5, h6⟩))]; rfl), Keeps.refl _ _⟩
        · refine GO ?_
          exact ⟨ret_int (by rw [e3, if_neg (by rintro (h | h); omega; exact h6 (e2.2 h).2)]; rfl), Keeps.refl _ _⟩
      · refine GO ?_
        exact ⟨ret_int (by rw [e3, if_neg (by rintro (h | h); omega; exact h5 (e2.2 h).1)]; rfl), Keeps.refl _ _⟩
  · obtain ⟨b, o, c, hg, ht⟩ := hT
    refine GO ?_
    refine CallS.of (Tryd.call65 _ _) (bs_cut b o c ht (n : Int)) ?_
    rintro e w1 ⟨k, rfl, hp, k1⟩
    refine ⟨_, rfl, ?_⟩; (first | refine Then.go hmix ?_ | refine Sat.go hmix ?_ | refine ResK.go ?_ | skip); conv => whnf
    have hg1 := (k1.cell (p := ⟨0, 0, none⟩) (cell_lt hg) id).trans hg
    by_cases hf : k < 19 ∧ cmpC k (n : Int) = 0
    · have hz := cmpC_zero k n hf.2 hf.1
      have hk := kind_found k hf.1 n (by omega) (by omega) hz
      have hc : w1.cell? ⟨b, o + k * 3 + 2, none⟩ = some (.int .i64 (cutSp k).2.2) := (at_keep (ht k hf.1) k1) 2 _ rfl
      rw [decide_eq_true hf]
      refine GO ?_
      exact ⟨ret_int hk.symm, k1⟩
    · have hk := kind_out n (by omega) (by omega) fun m hm => cmpC_out k n hp hf m hm
      rw [decide_eq_false hf]
      refine GO ?_
      exact ⟨ret_int (by rw [hk]; rfl), k1⟩
end
end Go.Proofs.YtmipmlcolaaonaaDoor
