/- Helper text of this claim: Cr3: lemmas and contracts that the proved statement rests on; no conditions of its own. -/
import Derived.Test.YtmipmlcolaaonaaDoorCr2
import Derived.Test.YtmipmlcolaaonaaDoorGct
import Derived.Test.YtmipmlcolaaonaaDoorCw7
import Derived.Test.YtmipmlcolaaonaaDoorWcz
-- alias Tryd
namespace Go.Proofs.YtmipmlcolaaonaaDoor
open Go.RowKit Go.Pw Go.Vc Go.Cs Go.Lib
set_option linter.unusedVariables false
set_option maxRecDepth 100000
section
variable {w : World}
/-- The reference's rune, step by step. -/
def runeJ (u : List UInt8) : Nat → Nat
  | 0 => (u.getD 0 0).toNat % (if u.length = 2 then 32 else if u.length = 3 then 16 else 8)
  | j + 1 => runeJ u j * 64 + (u.getD (j + 1) 0).toNat % 64
theorem runeJ_U (u : List UInt8) (h1 : 2 ≤ u.length) (h2 : u.length ≤ 4) : runeJ u (u.length - 1) = runeU u := by
  unfold runeU
  rcases (show u.length = 2 ∨ u.length = 3 ∨ u.length = 4 by omega) with h | h | h
  · rw [h, if_neg (by omega), if_pos rfl]; simp [runeJ, h]
  · rw [h, if_neg (by omega), if_neg (by omega), if_pos rfl]; simp [runeJ, h]; omega
  · rw [h, if_neg (by omega), if_neg (by omega), if_neg (by omega)]; simp [runeJ, h]; omega
theorem runeJ_le (u : List UInt8) : ∀ j, j ≤ 3 → runeJ u j < 32 * 64 ^ j
  | 0, _ => by
    unfold runeJ
    repeat' split
    all_goals omega
  | j + 1, h => by
    have := runeJ_le u j (by omega)
    simp only [runeJ, Nat.pow_succ]
    omega
theorem mask_eq (b n : Nat) (hb : b < 256) (h1 : 2 ≤ n) (h4 : n ≤ 4) : IntKind.i64.wrap ((((IntKind.i64.wrap (b : Int) % 2 ^ IntKind.i64.bits).toNat &&& (Int.fdiv 255 (2 ^ min (IntKind.u64.wrap ((n : Int) + 1)).toNat IntKind.i64.bits) % 2 ^ IntKind.i64.bits).toNat : Nat) : Int)) = ((b % (if n = 2 then 32 else if n = 3 then 16 else 8) : Nat) : Int) := by
  have e : (IntKind.i64.wrap (b : Int) % 2 ^ IntKind.i64.bits).toNat = b := by
    rw [wrap_i64 _ (by omega), show IntKind.i64.bits = 64 from rfl]; omega
  rw [e]
  rcases (show n = 2 ∨ n = 3 ∨ n = 4 by omega) with h | h | h
  · subst h
    rw [show (Int.fdiv 255 (2 ^ min (IntKind.u64.wrap (((2 : Nat) : Int) + 1)).toNat IntKind.i64.bits) % 2 ^ IntKind.i64.bits).toNat = 2 ^ 5 - 1 by decide, Nat.and_two_pow_sub_one_eq_mod]
    rw [wrap_i64 _ (by omega)]; rfl
  · subst h
    rw [show (Int.fdiv 255 (2 ^ min (IntKind.u64.wrap (((3 : Nat) : Int) + 1)).toNat IntKind.i64.bits) % 2 ^ IntKind.i64.bits).toNat = 2 ^ 4 - 1 by decide, Nat.and_two_pow_sub_one_eq_mod]
    rw [wrap_i64 _ (by omega)]; rfl
  · subst h
    rw [show (Int.fdiv 255 (2 ^ min (IntKind.u64.wrap (((4 : Nat) : Int) + 1)).toNat IntKind.i64.bits) % 2 ^ IntKind.i64.bits).toNat = 2 ^ 3 - 1 by decide, Nat.and_two_pow_sub_one_eq_mod]
    rw [wrap_i64 _ (by omega)]; rfl
theorem byte_low (x : UInt8) : IntKind.i64.wrap (IntKind.u8.wrap ((BitVec.ofInt IntKind.u8.bits ((x.toNat : Nat) : Int) &&& BitVec.ofInt IntKind.u8.bits 63).toNat : Nat)) = ((x.toNat % 64 : Nat) : Int) := by
  have h := UInt8.toNat_lt x
  rw [BitVec.toNat_and, BitVec.toNat_ofInt, BitVec.toNat_ofInt]
  rw [show (((x.toNat : Nat) : Int) % ((2 ^ IntKind.u8.bits : Nat) : Int)).toNat = x.toNat by rw [show ((2 ^ IntKind.u8.bits : Nat) : Int) = 256 from rfl]; omega, show ((63 : Int) % ((2 ^ IntKind.u8.bits : Nat) : Int)).toNat = 2 ^ 6 - 1 by decide, Nat.and_two_pow_sub_one_eq_mod, wrap_u8 _ (by omega), wrap_i64 _ (by omega)]
set_option maxHeartbeats 1000000 in
theorem ref_Rune05 (s : ByteArray) (h1 : 1 ≤ s.size) (h4 : s.size ≤ 4) : Calls Tryd.prog 92 #[.string s] w fun e w' => e = .returned (.int .i64 ((runeU (L s) : Nat) : Int)) ∧ w = w' := by
  have hl := L_len s
  refine calls_of_vc (args := [.string s]) Tryd.func92 rfl (Nat.le_of_ble_eq_true rfl) ?_; refine Sat.go hmix ?_; conv => whnf
  have hb0 : (byteAt s 0).toNat < 256 := UInt8.toNat_lt _
  by_cases hs : s.size = 1
  · refine GO ?_
    refine ⟨?_, rfl⟩
    rw [wrap_i64 _ (by omega)]
    unfold runeU
    rw [if_pos (by omega)]
    rfl
  · refine GO ?_
    refine Loop.intro (ι := Nat) (fun i => [(0, .string s), (3, .int .i64 (runeJ (L s) i : Nat)), (4, .int .i64 ((i + 1 : Nat) : Int))]) (fun i wr => w = wr ∧ i + 1 ≤ s.size) (fun i => s.size - i) 0 ⟨rfl, ?_, rfl, trivial⟩ ⟨rfl, h1⟩ ?_
    · exact v_int ((mask_eq _ _ hb0 (by omega) h4).trans (by unfold runeJ; rw [hl]; rfl))
    rintro i g wr ⟨rfl, hi⟩
    have hle := runeJ_le (L s) i (by omega)
    have hle3 : 32 * 64 ^ i ≤ 32 * 64 ^ 3 := Nat.mul_le_mul_left 32 (Nat.pow_le_pow_right (by omega) (by omega))
    rw [show 32 * 64 ^ 3 = 8388608 from rfl] at hle3
    generalize 32 * 64 ^ i = B at *
    (first | refine Then.go hmix ?_ | refine Sat.go hmix ?_ | refine ResK.go ?_ | skip); conv => whnf
    by_cases hlt : i + 1 < s.size
    · refine GO ?_
      have hbl := byte_low (byteAt s (i + 1))
      rw [hbl]
      have hst : runeJ (L s) i * 64 + (byteAt s (i + 1)).toNat % 64 = runeJ (L s) (i + 1) := rfl
      refine GO ?_
      exact ⟨i + 1, ⟨rfl, v_int (by rw [← hst]; omega), rfl, trivial⟩, ⟨rfl, by omega⟩, by dsimp only; omega⟩
    · refine GO ?_
      refine ⟨?_, rfl⟩
      rw [← runeJ_U (L s) (by omega) (by omega), show (L s).length - 1 = i by omega]
end
end Go.Proofs.YtmipmlcolaaonaaDoor
