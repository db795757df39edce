/- Helper text of this claim: Fr: lemmas and contracts that the proved statement rests on; no conditions of its own. -/
import Derived.Test.YtcnkbpghafhceaaRows
import Derived.WalkKit
import Derived.ProofKit
import Derived.OpenShut
import Derived.ShutString
import Derived.ChangeOld
import Derived.Below
import Derived.SizedLaws
import Derived.SliceStrings
namespace Go.Pw
open Go Go.ChangeShapes
theorem weights_strs {H : Type} {P : Program} {e : TypeId} : ∀ (l : List ByteArray) (s : ByteArray), s ∈ l → s.size ∈ DataW.weightsAll (H := H) P e (strs l)
  | [], s, h => by cases h
  | a :: r, s, h => by
    show s.size ∈ DataW.weights P e (.lit (.string a.data.toList)) ++ DataW.weightsAll P e (strs r)
    rw [List.mem_append]
    rcases List.mem_cons.1 h with rfl | h
    · left; simp [DataW.weights]
    · right; exact weights_strs r s h
end Go.Pw
