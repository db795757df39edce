/- Helper text of this claim: BkD: lemmas and contracts that the proved statement rests on; no conditions of its own. -/
import Derived.Test.YtcnkbpghafhceaaBkS
namespace Go.Pw.Dk
theorem tick_dn {D : St} (h : D.down = true) : tick D = D := by simp [tick, h]
theorem ends_dn {D : St} (h : D.down = true) : endsB D = false := by simp [endsB, h]
theorem pre_dn {D : St} (h : D.down = true) : pre D = D := by rw [pre_no (ends_dn h), tick_dn h]
theorem app_dn {D : St} (f : Int) (s : ByteArray) (h : D.down = true) : app D f s = (13, D) := by
  unfold app; simp only [tick_dn h, ends_dn h, appE, may_down f h]; simp
theorem flush_dn {D : St} (f : Int) (h : D.down = true) : flush D f = (13, D) := by
  unfold flush; simp only [pre_dn h, may_down f h]; simp
theorem cut_dn {D : St} (f n : Int) (h : D.down = true) : cut D f n = (13, D) := by
  unfold cut; simp only [pre_dn h, may_down f h]; simp
theorem turn_dn {D : St} (f g : Int) (h : D.down = true) : turn D f g = (13, D) := by
  unfold turn; simp only [pre_dn h, may2_down f g h]; simp
theorem crash_dn {D : St} (kl : List Int) (h : D.down = true) : crash D kl = D := by simp [crash, h]
theorem read_dn {D : St} (f : Int) (h : D.down = true) : Dk.read D f = (ByteArray.empty, 13) := by
  unfold Dk.read; simp [may_down f h]
section
variable {D : St} (h : D.down = false) (ha : D.armed = 0)
include h ha
theorem tick_un : tick D = D := by simp [tick, h, ha]
theorem ends_un : endsB D = false := by simp [endsB, h, ha]
theorem pre_un : pre D = D := by rw [pre_no (ends_un h ha), tick_un h ha]
theorem app_bad {f : Int} (s : ByteArray) (hf : isB f = false) : app D f s = (1, D) := by
  have hm : may D f = 1 := by simp [may, h, hf]
  unfold app; simp only [tick_un h ha, ends_un h ha, appE, hm]; simp
theorem flush_bad {f : Int} (hf : isB f = false) : flush D f = (1, D) := by
  have hm : may D f = 1 := by simp [may, h, hf]
  unfold flush; simp only [pre_un h ha, hm]; simp
theorem cut_bad {f : Int} (n : Int) (hf : isB f = false) : cut D f n = (1, D) := by
  have hm : may D f = 1 := by simp [may, h, hf]
  unfold cut; simp only [pre_un h ha, hm]; simp
theorem turn_bad {f g : Int} (hf : (isB f && isB g) = false) : turn D f g = (1, D) := by
  have hm : may2 D f g = 1 := by simp only [may2, h, hf]; simp
  unfold turn; simp only [pre_un h ha, hm]; simp
end
theorem size_bad {D : St} {f : Int} (hf : isB f = false) : sizeI D f = 0 := by simp [sizeI, hf]
end Go.Pw.Dk
