/- Helper text of this claim: ML: lemmas and contracts that the proved statement rests on; no conditions of its own. -/
import Derived.Test.YtcnkbpghafhceaaM1
namespace Go.Pw.Dk
/-- a disk of which only file 0 is in use -/
def mk1 (S : ByteArray) (L : Nat) (lost : Int) (down : Bool) : St :=
  ⟨fun i => if i = 0 then S else ByteArray.empty, fun i => if i = 0 then L else 0, lost, down, 0, []⟩
theorem new_mk1 : Dk.new = mk1 ByteArray.empty 0 0 false := by simp [Dk.new, mk1]
section
variable (S : ByteArray) (L : Nat) (lost : Int)
theorem lose1 (n : Int) (b : Bool) : lose (mk1 S L lost b) n = mk1 S L (max n 0) b := rfl
theorem app1 (s : ByteArray) (h : S.size + s.size ≤ 16777216) : app (mk1 S L lost false) 0 s = (0, mk1 (S ++ s) L lost false) := by
  have e : ¬ (16777216 - (S.size : Int) < (s.size : Int)) := by omega
  simp [app, appE, tick, endsB, may, isB, sizeI, mk1, e]
  funext i; simp only [upd]; split <;> rfl
theorem flush1l (h : 0 < lost) : flush (mk1 S L lost false) 0 = (14, mk1 S L (lost - 1) false) := by
  simp [flush, pre, tick, endsB, may, isB, mk1, h]
theorem flush1o : flush (mk1 S L 0 false) 0 = (0, mk1 S S.size 0 false) := by
  simp [flush, pre, tick, endsB, may, isB, mk1]
  funext i; simp only [upd]; split <;> rfl
theorem crash1 : crash (mk1 S L lost false) [] = mk1 (S.extract 0 L) L lost true := by
  simp only [crash, mk1, Bool.false_eq_true, if_false, St.mk.injEq, and_true, kept, List.length_nil, Nat.not_lt_zero, Nat.add_zero]
  funext i
  by_cases h : i = 0
  · simp [h]
  · simp [h]
theorem start1 (b : Bool) : start0 (mk1 S L lost b) = mk1 S L lost false := rfl
theorem read1 : Dk.read (mk1 S L lost false) 0 = (S, 0) := by simp [Dk.read, may, isB, mk1]
end
end Go.Pw.Dk
