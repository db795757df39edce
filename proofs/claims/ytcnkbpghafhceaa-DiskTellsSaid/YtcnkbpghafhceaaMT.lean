/- Helper text of this claim: MT: lemmas and contracts that the proved statement rests on; no conditions of its own. -/
import Derived.Test.YtcnkbpghafhceaaM1
namespace Go.Pw.Dk
/-- a disk of which only the files 3 and 4 are in use -/
def mk2 (S3 : ByteArray) (L3 : Nat) (S4 : ByteArray) (L4 : Nat) (down : Bool) : St :=
  ⟨fun i => if i = 3 then S3 else if i = 4 then S4 else ByteArray.empty, fun i => if i = 3 then L3 else if i = 4 then L4 else 0, 0, down, 0, []⟩
theorem new_mk2 : Dk.new = mk2 ByteArray.empty 0 ByteArray.empty 0 false := by
  simp [Dk.new, mk2]
section
variable (S3 : ByteArray) (L3 : Nat) (S4 : ByteArray) (L4 : Nat)
theorem upd_S3 (x : ByteArray) : upd (mk2 S3 L3 S4 L4 false).S 3 x = (mk2 x L3 S4 L4 false).S := by
  funext i; simp only [upd, mk2]; split <;> rfl
theorem upd_S4 (x : ByteArray) : upd (mk2 S3 L3 S4 L4 false).S 4 x = (mk2 S3 L3 x L4 false).S := by
  funext i; simp only [upd, mk2]; by_cases h : i = 3
  · subst h; simp
  · simp only [h, if_false]; split <;> rfl
theorem upd_L3 (x : Nat) : upd (mk2 S3 L3 S4 L4 false).L 3 x = (mk2 S3 x S4 L4 false).L := by
  funext i; simp only [upd, mk2]; split <;> rfl
theorem upd_L4 (x : Nat) : upd (mk2 S3 L3 S4 L4 false).L 4 x = (mk2 S3 L3 S4 x false).L := by
  funext i; simp only [upd, mk2]; by_cases h : i = 3
  · subst h; simp
  · simp only [h, if_false]; split <;> rfl
theorem app3 (s : ByteArray) (h : S3.size + s.size ≤ 16777216) : app (mk2 S3 L3 S4 L4 false) 3 s = (0, mk2 (S3 ++ s) L3 S4 L4 false) := by
  have e : ¬ (16777216 - (S3.size : Int) < (s.size : Int)) := by omega
  simp [app, appE, tick, endsB, may, isB, sizeI, mk2, e]
  funext i; simp only [upd]; split <;> rfl
theorem app4 (s : ByteArray) (h : S4.size + s.size ≤ 16777216) : app (mk2 S3 L3 S4 L4 false) 4 s = (0, mk2 S3 L3 (S4 ++ s) L4 false) := by
  have e : ¬ (16777216 - (S4.size : Int) < (s.size : Int)) := by omega
  simp [app, appE, tick, endsB, may, isB, sizeI, mk2, e]
  funext i; simp only [upd]; by_cases h : i = 3
  · subst h; simp
  · simp only [h, if_false]; split <;> rfl
theorem flush3 : flush (mk2 S3 L3 S4 L4 false) 3 = (0, mk2 S3 S3.size S4 L4 false) := by
  simp [flush, pre, tick, endsB, may, isB, mk2]
  funext i; simp only [upd]; split <;> rfl
theorem flush4 : flush (mk2 S3 L3 S4 L4 false) 4 = (0, mk2 S3 L3 S4 S4.size false) := by
  simp [flush, pre, tick, endsB, may, isB, mk2]
  funext i; simp only [upd]; by_cases h : i = 3
  · subst h; simp
  · simp only [h, if_false]; split <;> rfl
theorem turn34a (h : L4 < S4.size) : turn (mk2 S3 L3 S4 L4 false) 3 4 = (17, mk2 S3 L3 S4 L4 false) := by
  simp [turn, pre, tick, endsB, may2, isB, mk2, h]
theorem turn34b (h : ¬ L4 < S4.size) : turn (mk2 S3 L3 S4 L4 false) 3 4 = (0, mk2 S4 L4 ⟨#[]⟩ 0 false) := by
  simp [turn, pre, tick, endsB, may2, isB, mk2, h]
  constructor
  · funext i; simp only [upd]; by_cases h : i = 3
    · subst h; simp
    · by_cases h4 : i = 4 <;> simp [h, h4]
  · funext i; simp only [upd]; by_cases h : i = 3
    · subst h; simp
    · by_cases h4 : i = 4 <;> simp [h, h4]
theorem crash2 (kl : List Int) : ∃ k3 k4, k3 ≤ S3.size - L3 ∧ k4 ≤ S4.size - L4 ∧ crash (mk2 S3 L3 S4 L4 false) kl = mk2 (S3.extract 0 (L3 + k3)) (L3 + k3) (S4.extract 0 (L4 + k4)) (L4 + k4) true := by
  refine ⟨kept (mk2 S3 L3 S4 L4 false) kl 3, kept (mk2 S3 L3 S4 L4 false) kl 4, ?_, ?_, ?_⟩
  · unfold kept; split <;> simp [mk2]; omega
  · unfold kept; split <;> simp [mk2]; omega
  · simp only [crash, mk2, Bool.false_eq_true, if_false, St.mk.injEq, and_true]
    have k0 : ∀ i, i ≠ 3 → i ≠ 4 → kept (mk2 S3 L3 S4 L4 false) kl i = 0 := fun i h h' => by
      unfold kept; split
      · simp [mk2, h, h']
      · rfl
    constructor
    · funext i
      by_cases h : i = 3
      · subst h; simp
      · by_cases h4 : i = 4
        · subst h4; simp
        · simp only [h, h4, if_false]
          have := k0 i h h4
          simp only [mk2] at this
          rw [this]; rfl
    · funext i
      by_cases h : i = 3
      · subst h; simp
      · by_cases h4 : i = 4
        · subst h4; simp
        · simp only [h, h4, if_false]
          have := k0 i h h4
          simp only [mk2] at this
          rw [this]
theorem start2 (b : Bool) : start0 (mk2 S3 L3 S4 L4 b) = mk2 S3 L3 S4 L4 false := rfl
theorem read3 : Dk.read (mk2 S3 L3 S4 L4 false) 3 = (S3, 0) := by simp [Dk.read, may, isB, mk2]
theorem size4 : sizeI (mk2 S3 L3 S4 L4 false) 4 = (S4.size : Int) := by simp [sizeI, isB, mk2]
end
end Go.Pw.Dk
