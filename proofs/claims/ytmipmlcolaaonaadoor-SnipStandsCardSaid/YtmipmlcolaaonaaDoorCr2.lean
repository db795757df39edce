/- Helper text of this claim: Cr2: lemmas and contracts that the proved statement rests on; no conditions of its own. -/
import Derived.Test.YtmipmlcolaaonaaDoorCr1
import Derived.Test.YtmipmlcolaaonaaDoorGct
import Derived.Test.YtmipmlcolaaonaaDoorWcz
-- alias Tryd
namespace Go.Proofs.YtmipmlcolaaonaaDoor
open Go.RowKit Go.Pw Go.Vc Go.Cs Go.Lib
set_option linter.unusedVariables false
set_option maxRecDepth 100000
section
theorem ref_in05 (r lo hi : Int) (w : World) : Calls Tryd.prog 101 #[.int .i64 r, .int .i64 lo, .int .i64 hi] w fun e w' => e = .returned (.bool (decide (lo ≤ r ∧ r ≤ hi))) ∧ w = w' := by
  refine calls_of_vc (args := [.int .i64 r, .int .i64 lo, .int .i64 hi]) Tryd.func101 rfl (Nat.le_of_ble_eq_true rfl) ?_; refine Sat.go hmix ?_; conv => whnf
  by_cases h1 : lo ≤ r
  · by_cases h2 : r ≤ hi
    · refine GO ?_
      exact ⟨by simp [h1, h2], rfl⟩
    · refine GO ?_
      exact ⟨by simp [h2], rfl⟩
  · refine GO ?_
    exact ⟨by simp [h1], rfl⟩
end
end Go.Proofs.YtmipmlcolaaonaaDoor
