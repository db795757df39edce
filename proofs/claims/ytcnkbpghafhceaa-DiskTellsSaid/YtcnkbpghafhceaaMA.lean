/- Helper text of this claim: MA: lemmas and contracts that the proved statement rests on; no conditions of its own. -/
import Derived.Test.YtcnkbpghafhceaaM1
namespace Go.Pw.Dk
/-- a disk of which only file 0 is in use, with a scheduled crash -/
def mkA (S : ByteArray) (L : Nat) (armed : Int) (down : Bool) (kl : List Int) : St :=
  ⟨fun i => if i = 0 then S else ByteArray.empty, fun i => if i = 0 then L else 0, 0, down, armed, kl⟩
theorem new_mkA : Dk.new = mkA ByteArray.empty 0 0 false [] := by simp [Dk.new, mkA]
def kk (kp : Int) (r : Nat) : Nat := min kp.toNat r
section
variable (S : ByteArray) (L : Nat) (a kp : Int) (kl : List Int)
theorem armA (n : Int) : arm (mkA S L a false kl) n [kp] = mkA S L (max n 0) false [kp] := rfl
theorem crashA (_hL : L ≤ S.size) : crash (mkA S L a false [kp]) [kp] = mkA (S.extract 0 (L + kk kp (S.size - L))) (L + kk kp (S.size - L)) 0 true [kp] := by
  simp only [crash, mkA, Bool.false_eq_true, if_false, St.mk.injEq, and_true, kept, List.length_cons, List.length_nil, kk]
  refine ⟨funext fun i => ?_, funext fun i => ?_⟩
  · by_cases h : i = 0
    · subst h; simp
    · simp [h]
  · by_cases h : i = 0
    · subst h; simp
    · simp [h]
theorem appA_S (s : ByteArray) : ({ mkA S L a false [kp] with S := upd (mkA S L a false [kp]).S 0 ((mkA S L a false [kp]).S 0 ++ s) } : St) = mkA (S ++ s) L a false [kp] := by
  simp only [mkA, St.mk.injEq, and_true]
  funext i; simp only [upd]; split <;> simp_all
theorem tickA (h : a ≠ 0) : tick (mkA S L a false [kp]) = mkA S L (a - 1) false [kp] := by simp [tick, mkA, h]
theorem appE0 (s : ByteArray) (h : S.size + s.size ≤ 16777216) : appE (mkA S L a false [kp]) 0 s = 0 := by
  have e : ¬ (16777216 - (S.size : Int) < (s.size : Int)) := by omega
  simp [appE, may, isB, sizeI, mkA, e]
theorem appA (s : ByteArray) (h : S.size + s.size ≤ 16777216) (ha : 1 < a) : app (mkA S L a false [kp]) 0 s = (0, mkA (S ++ s) L (a - 1) false [kp]) := by
  have e1 : endsB (mkA S L a false [kp]) = false := by simp [endsB, mkA]; omega
  unfold app
  simp only [tickA S L a kp (by omega), appE0 S L (a - 1) kp s h, e1, if_true, Bool.false_eq_true, if_false]
  rw [show Int.toNat 0 = 0 from rfl, appA_S]
theorem appA1 (s : ByteArray) (h : S.size + s.size ≤ 16777216) (hL : L ≤ S.size) : app (mkA S L 1 false [kp]) 0 s = (13, mkA ((S ++ s).extract 0 (L + kk kp ((S ++ s).size - L))) (L + kk kp ((S ++ s).size - L)) 0 true [kp]) := by
  have e1 : endsB (mkA S L 1 false [kp]) = true := by simp [endsB, mkA]
  unfold app
  simp only [tickA S L 1 kp (by omega), show (1 : Int) - 1 = 0 from rfl, appE0 S L 0 kp s h, e1, if_true]
  rw [show Int.toNat 0 = 0 from rfl, appA_S]
  show (13, crash (mkA (S ++ s) L 0 false [kp]) [kp]) = _
  rw [crashA _ _ _ _ (by rw [ByteArray.size_append]; omega)]
theorem flushA (ha : 1 < a) : flush (mkA S L a false [kp]) 0 = (0, mkA S S.size (a - 1) false [kp]) := by
  have e1 : endsB (mkA S L a false [kp]) = false := by simp [endsB, mkA]; omega
  have e2 : pre (mkA S L a false [kp]) = mkA S L (a - 1) false [kp] := by unfold pre; rw [e1, tickA S L a kp (by omega)]; rfl
  unfold flush
  simp only [e2]
  simp [may, isB, mkA]
  funext i; simp only [upd]; split <;> rfl
theorem flushA1 (hL : L ≤ S.size) : flush (mkA S L 1 false [kp]) 0 = (13, mkA (S.extract 0 (L + kk kp (S.size - L))) (L + kk kp (S.size - L)) 0 true [kp]) := by
  have e1 : endsB (mkA S L 1 false [kp]) = true := by simp [endsB, mkA]
  have e2 : pre (mkA S L 1 false [kp]) = mkA (S.extract 0 (L + kk kp (S.size - L))) (L + kk kp (S.size - L)) 0 true [kp] := by
    unfold pre; rw [e1, tickA S L 1 kp (by omega)]
    show crash (mkA S L 0 false [kp]) [kp] = _
    exact crashA _ _ _ _ hL
  unfold flush
  simp only [e2]
  simp [may, mkA]
theorem startA (b : Bool) : start0 (mkA S L a b kl) = mkA S L a false kl := rfl
theorem readA : Dk.read (mkA S L a false kl) 0 = (S, 0) := by simp [Dk.read, may, isB, mkA]
end
theorem extract_cut (x y : ByteArray) (m : Nat) : (x ++ y).extract 0 (x.size + m) = x ++ y.extract 0 m := by
  apply ByteArray.ext
  apply Array.ext'
  simp only [ByteArray.data_extract, ByteArray.data_append, Array.toList_extract, Array.toList_append, List.extract_eq_take_drop, Nat.sub_zero, List.drop_zero]
  have hx : x.size = x.data.toList.length := by rw [Array.length_toList]; rfl
  rw [hx, List.take_append, List.take_of_length_le (by omega), Nat.add_sub_cancel_left]
def total (ls : List ByteArray) (k : Nat) : Nat := ((ls.take k).map ByteArray.size).sum
theorem total_succ (ls : List ByteArray) (k : Nat) (h : k < ls.length) : total ls (k + 1) = total ls k + (ls.getD k ByteArray.empty).size := by
  unfold total
  rw [List.take_succ_eq_append_getElem h]
  rw [List.map_append, List.sum_append, List.getD_eq_getElem?_getD, List.getElem?_eq_getElem h]
  simp only [List.map_cons, List.map_nil, List.sum_cons, List.sum_nil, Option.getD_some, Nat.add_zero]
theorem total_le (ls : List ByteArray) (k j : Nat) (h : k ≤ j) : total ls k ≤ total ls j := by
  unfold total
  obtain ⟨d, rfl⟩ := Nat.exists_eq_add_of_le h
  rw [List.take_add, List.map_append, List.sum_append]
  omega
theorem total_bound (ls : List ByteArray) (M : Nat) (h : ∀ s ∈ ls, s.size ≤ M) (k : Nat) (hk : k ≤ ls.length) : total ls k ≤ k * M := by
  induction k with
  | zero => simp [total]
  | succ k ih =>
    have := total_succ ls k (by omega)
    have h1 := ih (by omega)
    have h2 : (ls.getD k ByteArray.empty).size ≤ M := h _ (by rw [List.getD_eq_getElem?_getD, List.getElem?_eq_getElem (by omega)]; exact List.getElem_mem _)
    rw [this, Nat.succ_mul]; omega
end Go.Pw.Dk
