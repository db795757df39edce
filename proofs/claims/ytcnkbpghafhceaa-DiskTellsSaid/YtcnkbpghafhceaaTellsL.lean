/- Helper text of this claim: TellsL: lemmas and contracts that the proved statement rests on; no conditions of its own. -/
import Derived.Test.YtcnkbpghafhceaaRefS
namespace Go.Pw.Dk
theorem crash_kl (D : St) (kl : List Int) : (crash D kl).kl = D.kl := by unfold crash; split <;> rfl
theorem tick_kl (D : St) : (tick D).kl = D.kl := by
  unfold tick
  split
  · rfl
  · split <;> rfl
theorem pre_kl (D : St) : (pre D).kl = D.kl := by
  unfold pre
  split
  · rw [crash_kl, tick_kl]
  · exact tick_kl D
theorem app_kl (D : St) (f : Int) (s : ByteArray) : (app D f s).2.kl = D.kl := by
  unfold app
  dsimp only
  have h : (if appE (tick D) f s = 0 then { tick D with S := upd (tick D).S f.toNat ((tick D).S f.toNat ++ s) } else tick D).kl = D.kl := by split <;> exact tick_kl D
  split
  · dsimp only; rw [crash_kl]; exact h
  · exact h
theorem flush_kl (D : St) (f : Int) : (flush D f).2.kl = D.kl := by
  unfold flush; dsimp only
  split
  · exact pre_kl D
  · split <;> exact pre_kl D
theorem cut_kl (D : St) (f n : Int) : (cut D f n).2.kl = D.kl := by
  unfold cut; dsimp only
  split
  · exact pre_kl D
  · split <;> exact pre_kl D
theorem turn_kl (D : St) (f g : Int) : (turn D f g).2.kl = D.kl := by
  unfold turn; dsimp only
  split
  · exact pre_kl D
  · split
    · exact pre_kl D
    · split <;> exact pre_kl D
theorem doA_kl (D : St) (x : ActD) (n : Nat) (h : D.kl.length ≤ n) (hx : x.kl.length ≤ n) : (doA D x).2.kl.length ≤ n := by
  unfold doA
  split
  · dsimp only; rw [app_kl]; exact h
  · split
    · dsimp only; rw [flush_kl]; exact h
    · split
      · dsimp only; rw [cut_kl]; exact h
      · split
        · dsimp only; rw [turn_kl]; exact h
        · split
          · dsimp only; rw [crash_kl]; exact h
          · split
            · exact h
            · split
              · exact h
              · split
                · exact h
                · split
                  · exact hx
                  · exact h
end Go.Pw.Dk
namespace Go.Proofs.Ytcnkbpghafhceaa
open Go.RowKit Go.Pw Go.Pw.Dk Go.Vc
set_option linter.unusedVariables false
section
variable {w w' : World} {bd bx bf cap : Nat} {D D' : St}
theorem disk_ref_ne (h : DiskAt w bd D) (r : RefAt w bx bf cap D') : bd ≠ bx ∧ bd ≠ bf := by
  obtain ⟨A, R, r⟩ := r
  have h1 := h.sh; have h2 := r.sh
  obtain ⟨n, h3⟩ := r.shf
  exact ⟨fun e => absurd ((e ▸ h1).symm.trans h2) (by simp), fun e => absurd ((e ▸ h1).symm.trans h3) (by simp)⟩
theorem RefAt.otherD (r : RefAt w bx bf cap D) (k : Keeps w w' (one_ bd)) (h : DiskAt w bd D') : RefAt w' bx bf cap D := by
  obtain ⟨n1, n2⟩ := disk_ref_ne h r
  obtain ⟨A, R, r⟩ := r
  exact ⟨A, R, r.kept k (fun e => n1 e.symm) (fun e => n2 e.symm) (fun j n hj e => by cases e; rw [h.sh] at hj; cases hj)⟩
theorem DiskAt.otherR (h : DiskAt w bd D) (k : Keeps w w' (two_ bx bf)) (r : RefAt w bx bf cap D') : DiskAt w' bd D := by
  obtain ⟨n1, n2⟩ := disk_ref_ne h r
  obtain ⟨A, R, r⟩ := r
  obtain ⟨m, hm⟩ := r.shf
  refine h.kept k (fun e => ?_) (fun j n hj e => ?_)
  · rcases e with e | e
    · exact n1 e
    · exact n2 e
  · rcases e with rfl | rfl
    · rw [r.sh] at hj; cases hj
    · rw [hm] at hj; cases hj
theorem Keeps.own2 {a u u' : World} {b b' : Nat} (h : Keeps a u none_) (k : Keeps u u' (two_ b b')) (h1 : a.heap.size ≤ b) (h2 : a.heap.size ≤ b') : Keeps a u' none_ :=
  h.trans k fun i hi e => by rcases e with rfl | rfl <;> omega
end
end Go.Proofs.Ytcnkbpghafhceaa
