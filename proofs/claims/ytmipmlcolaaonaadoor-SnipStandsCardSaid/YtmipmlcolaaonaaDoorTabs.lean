/- Helper text of this claim: Tabs: lemmas and contracts that the proved statement rests on; no conditions of its own. -/
import Derived.Test.YtmipmlcolaaonaaDoorShf
import Derived.Test.YtmipmlcolaaonaaDoorRows
import Derived.PinnedBridge
import Derived.Lib.LaidU8
-- alias Tryd
namespace Go.Proofs.YtmipmlcolaaonaaDoor
open Go.Shelf Go.RowKit Go.Pw Go.Vc Go.Cs Go.Lib
set_option maxRecDepth 100000
theorem u8x : U8Extra Tryd.prog ren197 := ⟨by kernel_rfl, by kernel_rfl, by kernel_rfl, by kernel_rfl, by kernel_rfl, by kernel_rfl, by kernel_rfl⟩
theorem acc_eq : (Rows.laid_unicode_utf8_acceptRanges : DataW Unit) = acceptData := by kernel_rfl
theorem fst_eq : Rows.laid_unicode_utf8_first = firstData := Pinned.utf8First_eq
/-- What the row's listed tables give. -/
theorem tabs_of {l : List (String × DataW Unit)} {W : World} (hL : laidMet Tryd.prog l W) (i : ∀ x ∈ Rows.charsetRepairsRow.laid, x ∈ l) : Tabs W := by
  have h4 := laidMet.reads hL (i _ (.head _))
  have h3 := laidMet.reads hL (i _ (.tail _ (.head _)))
  rw [acc_eq] at h4
  rw [fst_eq] at h3
  exact utf8Tabs_of_reads { lays197 with } u8x h3 h4
end Go.Proofs.YtmipmlcolaaonaaDoor
