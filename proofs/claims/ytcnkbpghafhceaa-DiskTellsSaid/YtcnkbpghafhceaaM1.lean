/- Helper text of this claim: M1: lemmas and contracts that the proved statement rests on; no conditions of its own. -/
import Derived.Test.YtcnkbpghafhceaaK3
/-! The disk as plain data. -/
namespace Go.Pw.Dk
structure St where
  S : Nat → ByteArray
  L : Nat → Nat
  lost : Int
  down : Bool
  armed : Int
  kl : List Int

def St.ok (D : St) : Prop := (∀ i, i < 8 → D.L i ≤ (D.S i).size ∧ (D.S i).size ≤ 16777216) ∧ 0 ≤ D.lost ∧ D.lost ≤ 9223372036854775807 ∧ 0 ≤ D.armed ∧ D.armed ≤ 9223372036854775807
def upd {α : Type} (f : Nat → α) (i : Nat) (x : α) : Nat → α := fun k => if k = i then x else f k
def new : St := ⟨fun _ => ByteArray.empty, fun _ => 0, 0, false, 0, []⟩
def isB (f : Int) : Bool := decide (0 ≤ f) && decide (f < 8)
def may (D : St) (f : Int) : Int := if D.down then 13 else if isB f then 0 else 1
def endsB (D : St) : Bool := !D.down && D.armed == 1
def tick (D : St) : St := if D.down then D else if D.armed == 0 then D else { D with armed := D.armed - 1 }
/-- how much of file i's rest a crash keeps -/
def kept (D : St) (kl : List Int) (i : Nat) : Nat := if i < kl.length then min (kl.getD i 0).toNat ((D.S i).size - D.L i) else 0
def crash (D : St) (kl : List Int) : St :=
  if D.down then D else { D with down := true, armed := 0, S := fun i => (D.S i).extract 0 (D.L i + kept D kl i), L := fun i => D.L i + kept D kl i }
def sizeI (D : St) (f : Int) : Int := if isB f then ((D.S f.toNat).size : Int) else 0
def appE (D : St) (f : Int) (s : ByteArray) : Int := if may D f == 0 && decide ((16777216 - sizeI D f) < (s.size : Int)) then 16 else may D f
def app (D : St) (f : Int) (s : ByteArray) : Int × St :=
  let D1 := tick D
  let e := appE D1 f s
  let D2 := if e = 0 then { D1 with S := upd D1.S f.toNat (D1.S f.toNat ++ s) } else D1
  if endsB D then (13, crash D2 D2.kl) else (e, D2)
def start0 (D : St) : St := { D with down := false }
def read (D : St) (f : Int) : ByteArray × Int := if may D f = 0 then (D.S f.toNat, 0) else (ByteArray.empty, may D f)
def pre (D : St) : St := if endsB D then crash (tick D) (tick D).kl else tick D
def flush (D : St) (f : Int) : Int × St :=
  let D1 := pre D
  if may D1 f ≠ 0 then (may D1 f, D1)
  else if 0 < D1.lost then (14, { D1 with lost := D1.lost - 1 })
  else (0, { D1 with L := upd D1.L f.toNat (D1.S f.toNat).size })
def cut (D : St) (f n : Int) : Int × St :=
  let D1 := pre D
  if may D1 f ≠ 0 then (may D1 f, D1)
  else if n < 0 ∨ (D1.S f.toNat).size < n then (1, D1)
  else (0, { D1 with S := upd D1.S f.toNat ((D1.S f.toNat).extract 0 n.toNat), L := upd D1.L f.toNat (min (D1.L f.toNat) n.toNat) })
def may2 (D : St) (f g : Int) : Int := if D.down then 13 else if isB f && isB g then 0 else 1
def turn (D : St) (f g : Int) : Int × St :=
  let D1 := pre D
  if may2 D1 f g ≠ 0 then (may2 D1 f g, D1)
  else if f = g then (1, D1)
  else if D1.L g.toNat < (D1.S g.toNat).size then (17, D1)
  else (0, { D1 with S := upd (upd D1.S f.toNat (D1.S g.toNat)) g.toNat ⟨#[]⟩, L := upd (upd D1.L f.toNat (D1.L g.toNat)) g.toNat 0 })
def lose (D : St) (n : Int) : St := { D with lost := max n 0 }
def arm (D : St) (n : Int) (kl : List Int) : St := { D with armed := max n 0, kl := kl }

theorem upd_same {α : Type} (f : Nat → α) (i : Nat) (x : α) : upd f i x i = x := by simp [upd]
theorem upd_ne {α : Type} (f : Nat → α) {i k : Nat} (x : α) (h : k ≠ i) : upd f i x k = f k := by simp [upd, h]
theorem tick_ok {D : St} (h : D.ok) : (tick D).ok := by
  unfold tick; split
  · exact h
  · split
    · exact h
    · rename_i h1; obtain ⟨a, b, b', c, d⟩ := h
      have : D.armed ≠ 0 := by simpa using h1
      exact ⟨a, b, b', by show 0 ≤ D.armed - 1; omega, by show D.armed - 1 ≤ _; omega⟩
theorem crash_ok {D : St} (kl : List Int) (h : D.ok) : (crash D kl).ok := by
  unfold crash; split
  · exact h
  · obtain ⟨a, b, b', c, d⟩ := h
    refine ⟨fun i hi => ?_, b, b', by simp, by simp⟩
    have := a i hi
    have hk : D.L i + kept D kl i ≤ (D.S i).size := by unfold kept; split <;> omega
    simp only [ByteArray.size_extract]
    omega
theorem pre_ok {D : St} (h : D.ok) : (pre D).ok := by
  unfold pre; split
  · exact crash_ok _ (tick_ok h)
  · exact tick_ok h
/-- the crash, the first k files done -/
def crashK (D : St) (kl : List Int) (k : Nat) : St :=
  { D with down := true, armed := 0, S := fun i => if i < k then (D.S i).extract 0 (D.L i + kept D kl i) else D.S i, L := fun i => if i < k then D.L i + kept D kl i else D.L i }
theorem crashK_zero (D : St) (kl : List Int) : crashK D kl 0 = { D with down := true, armed := 0 } := by simp [crashK]
theorem crashK_succ (D : St) (kl : List Int) (k : Nat) : crashK D kl (k + 1) = { crashK D kl k with S := upd (crashK D kl k).S k ((D.S k).extract 0 (D.L k + kept D kl k)), L := upd (crashK D kl k).L k (D.L k + kept D kl k) } := by
  simp only [crashK, St.mk.injEq, and_true]
  refine ⟨funext fun i => ?_, funext fun i => ?_⟩ <;> simp only [upd] <;> by_cases h : i = k
  · subst h; simp
  · simp only [h, if_false]; have : (i < k + 1) = (i < k) := by simp; omega
    simp only [this]
  · subst h; simp
  · simp only [h, if_false]; have : (i < k + 1) = (i < k) := by simp; omega
    simp only [this]
/-- two disks of one content as far as the machine sees: files 0 to 7 -/
def St.same (A B : St) : Prop := (∀ i, i < 8 → A.S i = B.S i ∧ A.L i = B.L i) ∧ A.lost = B.lost ∧ A.down = B.down ∧ A.armed = B.armed ∧ A.kl = B.kl
theorem crashK_8 (D : St) (kl : List Int) (hd : D.down = false) : (crashK D kl 8).same (crash D kl) := by
  refine ⟨fun i hi => ?_, ?_, ?_, ?_, ?_⟩ <;> simp [crashK, crash, hd]
  exact ⟨fun h => by omega, fun h => by omega⟩
theorem kept_lt (D : St) (kl : List Int) (k : Nat) (h : D.L k ≤ (D.S k).size) : D.L k + kept D kl k ≤ (D.S k).size := by unfold kept; split <;> omega
end Go.Pw.Dk
