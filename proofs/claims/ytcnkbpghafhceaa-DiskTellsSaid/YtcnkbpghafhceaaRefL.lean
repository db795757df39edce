/- Helper text of this claim: RefL: lemmas and contracts that the proved statement rests on; no conditions of its own. -/
import Derived.Test.YtcnkbpghafhceaaBownW
/-! The reference's disk over the same data. -/
namespace Go.Pw.Dk
/-- The counted call: the crash, if it comes in it. -/
def comesD (D : St) (f : Int) (s : ByteArray) : St :=
  if endsB D then crash (if appE (tick D) f s = 0 then { tick D with S := upd (tick D).S f.toNat ((tick D).S f.toNat ++ s) } else tick D) (tick D).kl else tick D
theorem kl_app (D : St) (f : Int) (s : ByteArray) : (if appE (tick D) f s = 0 then { tick D with S := upd (tick D).S f.toNat ((tick D).S f.toNat ++ s) } else tick D).kl = (tick D).kl := by split <;> rfl
theorem app_comes (D : St) (f : Int) (s : ByteArray) : app D f s = if endsB D then (13, comesD D f s) else (appE (tick D) f s, if appE (tick D) f s = 0 then { tick D with S := upd (tick D).S f.toNat ((tick D).S f.toNat ++ s) } else tick D) := by
  unfold app comesD
  cases h : endsB D
  · simp
  · simp only [if_true]; rw [kl_app]
theorem append_nil (a : ByteArray) : a ++ ⟨#[]⟩ = a := by
  apply ByteArray.ext; apply Array.ext'; simp [ByteArray.data_append]
theorem upd_self {α : Type} (f : Nat → α) (i : Nat) : upd f i (f i) = f := by
  funext k; unfold upd; split
  · rename_i h; rw [h]
  · rfl
theorem pre_comes (D : St) : pre D = comesD D 0 ⟨#[]⟩ := by
  unfold pre comesD
  split
  · congr 1
    split
    · rw [append_nil, upd_self]
    · rfl
  · rfl
end Go.Pw.Dk
namespace Go.Proofs.Ytcnkbpghafhceaa
open Go.RowKit Go.Pw Go.Pw.Dk Go.Vc
set_option linter.unusedVariables false
/-- The reference's disk at b, its files at bf. -/
structure RefC (w : World) (b bf cap : Nat) (A R : Nat → ByteArray) (D : St) : Prop where
  sh : w.shape? b = some (62, 5)
  fz : ∀ i, w.frozen? ⟨b, i, none⟩ = false
  shf : ∃ n, w.shape? bf = some (64, n)
  fzf : ∀ i, w.frozen? ⟨bf, i, none⟩ = false
  c0 : w.cell? ⟨b, 0, none⟩ = some (.slice (some ⟨bf, 0, none⟩) 8 cap)
  ca : ∀ i, i < 8 → w.cell? ⟨bf, 0 + i * 2, none⟩ = some (.string (A i))
  cr : ∀ i, i < 8 → w.cell? ⟨bf, 0 + i * 2 + 1, none⟩ = some (.string (R i))
  lost : w.cell? ⟨b, 0 + 1, none⟩ = some (.int .i64 D.lost)
  down : w.cell? ⟨b, 0 + 2, none⟩ = some (.bool D.down)
  armed : w.cell? ⟨b, 0 + 3, none⟩ = some (.int .i64 D.armed)
  keep : ∃ v, w.cell? ⟨b, 0 + 4, none⟩ = some v ∧ Ints 3 w v D.kl
  rel : ∀ i, i < 8 → D.S i = A i ++ R i ∧ D.L i = (A i).size
  ok : D.ok
section
variable {w : World} {b bf cap : Nat} {A R : Nat → ByteArray} {D : St}
theorem RefC.lt (h : RefC w b bf cap A R D) : b < w.heap.size := shape_lt h.sh
theorem RefC.ltf (h : RefC w b bf cap A R D) : bf < w.heap.size := by obtain ⟨n, hn⟩ := h.shf; exact shape_lt hn
theorem RefC.ne (h : RefC w b bf cap A R D) : b ≠ bf := fun e => by obtain ⟨n, hn⟩ := h.shf; rw [← e, h.sh] at hn; cases hn
theorem RefC.kept {w' : World} {c : Nat → Prop} (h : RefC w b bf cap A R D) (k : Keeps w w' c) (hb : ¬ c b) (hf : ¬ c bf) (hc : ∀ k n, w.shape? k = some (3, n) → ¬ c k) : RefC w' b bf cap A R D := by
  have e : ∀ i, w'.cell? ⟨b, i, none⟩ = w.cell? ⟨b, i, none⟩ := fun i => k.cell h.lt hb
  have ef : ∀ i, w'.cell? ⟨bf, i, none⟩ = w.cell? ⟨bf, i, none⟩ := fun i => k.cell h.ltf hf
  obtain ⟨n, hn⟩ := h.shf
  obtain ⟨v, h1, h2⟩ := h.keep
  exact ⟨by rw [k.shape h.lt hb]; exact h.sh, fun i => by rw [k.frozen h.lt hb]; exact h.fz i, ⟨n, by rw [k.shape h.ltf hf]; exact hn⟩, fun i => by rw [k.frozen h.ltf hf]; exact h.fzf i,
    by rw [e]; exact h.c0, fun i hi => by rw [ef]; exact h.ca i hi, fun i hi => by rw [ef]; exact h.cr i hi, by rw [e]; exact h.lost, by rw [e]; exact h.down, by rw [e]; exact h.armed, ⟨v, by rw [e]; exact h1, h2.keep k hc⟩, h.rel, h.ok⟩
theorem RefC.keep0 {w' : World} (h : RefC w b bf cap A R D) (k : Keeps w w' none_) : RefC w' b bf cap A R D := h.kept k id id (fun _ _ _ => id)
theorem RefC.drew (h : RefC w b bf cap A R D) : RefC w.drew b bf cap A R D := h.keep0 (Keeps.refl _ _).drew
/-- A cell of the struct is stored. -/
theorem RefC.set {D' : St} (h : RefC w b bf cap A R D) (i : Nat) (v : Value) (hi : 0 < i)
    (h1 : (w.setCell ⟨b, i, none⟩ v).cell? ⟨b, 0 + 1, none⟩ = some (.int .i64 D'.lost)) (h2 : (w.setCell ⟨b, i, none⟩ v).cell? ⟨b, 0 + 2, none⟩ = some (.bool D'.down))
    (h3 : (w.setCell ⟨b, i, none⟩ v).cell? ⟨b, 0 + 3, none⟩ = some (.int .i64 D'.armed)) (h4 : ∃ u, (w.setCell ⟨b, i, none⟩ v).cell? ⟨b, 0 + 4, none⟩ = some u ∧ Ints 3 w u D'.kl)
    (hS : D'.S = D.S) (hL : D'.L = D.L) (ok : D'.ok) : RefC (w.setCell ⟨b, i, none⟩ v) b bf cap A R D' := by
  have hne := h.ne
  obtain ⟨n, hn⟩ := h.shf
  obtain ⟨u, h5, h6⟩ := h4
  have nb : ∀ j, (⟨b, i, none⟩ : Addr) ≠ ⟨bf, j, none⟩ := fun j e => hne (by injection e)
  exact ⟨by rw [shape_setCell]; exact h.sh, fun j => by rw [World.frozen?_setCell]; exact h.fz j, ⟨n, by rw [shape_setCell]; exact hn⟩, fun j => by rw [World.frozen?_setCell]; exact h.fzf j,
    cell_set_ne h.c0 (ne_off (by omega)), fun j hj => cell_set_ne (h.ca j hj) (nb _), fun j hj => cell_set_ne (h.cr j hj) (nb _), h1, h2, h3, ⟨u, h5, Ints.set h6 h.sh (by decide)⟩, fun j hj => by rw [hS, hL]; exact h.rel j hj, ok⟩
theorem RefC.setLost (h : RefC w b bf cap A R D) (n : Int) (hn : 0 ≤ n ∧ n ≤ 9223372036854775807) : RefC (w.setCell ⟨b, 0 + 1, none⟩ (.int .i64 n)) b bf cap A R { D with lost := n } := by
  obtain ⟨v, k1, k2⟩ := h.keep
  exact h.set 1 _ (by omega) (cell_set_eq h.lost) (cell_set_ne h.down (ne_off (by omega))) (cell_set_ne h.armed (ne_off (by omega))) ⟨v, cell_set_ne k1 (ne_off (by omega)), k2⟩ rfl rfl ⟨h.ok.1, hn.1, hn.2, h.ok.2.2.2⟩
theorem RefC.setDown (h : RefC w b bf cap A R D) (x : Bool) : RefC (w.setCell ⟨b, 0 + 2, none⟩ (.bool x)) b bf cap A R { D with down := x } := by
  obtain ⟨v, k1, k2⟩ := h.keep
  exact h.set 2 _ (by omega) (cell_set_ne h.lost (ne_off (by omega))) (cell_set_eq h.down) (cell_set_ne h.armed (ne_off (by omega))) ⟨v, cell_set_ne k1 (ne_off (by omega)), k2⟩ rfl rfl h.ok
theorem RefC.setArmed (h : RefC w b bf cap A R D) (n : Int) (hn : 0 ≤ n ∧ n ≤ 9223372036854775807) : RefC (w.setCell ⟨b, 0 + 3, none⟩ (.int .i64 n)) b bf cap A R { D with armed := n } := by
  obtain ⟨v, k1, k2⟩ := h.keep
  exact h.set 3 _ (by omega) (cell_set_ne h.lost (ne_off (by omega))) (cell_set_ne h.down (ne_off (by omega))) (cell_set_eq h.armed) ⟨v, cell_set_ne k1 (ne_off (by omega)), k2⟩ rfl rfl ⟨h.ok.1, h.ok.2.1, h.ok.2.2.1, hn⟩
theorem RefC.setKeep (h : RefC w b bf cap A R D) (v : Value) (kl : List Int) (hv : Ints 3 w v kl) : RefC (w.setCell ⟨b, 0 + 4, none⟩ v) b bf cap A R { D with kl := kl } := by
  obtain ⟨u, k1, k2⟩ := h.keep
  exact h.set 4 _ (by omega) (cell_set_ne h.lost (ne_off (by omega))) (cell_set_ne h.down (ne_off (by omega))) (cell_set_ne h.armed (ne_off (by omega))) ⟨v, cell_set_eq k1, hv⟩ rfl rfl h.ok
/-- A cell of the files is stored. -/
theorem RefC.setF {A' R' : Nat → ByteArray} {D' : St} (h : RefC w b bf cap A R D) (j : Nat) (v : Value)
    (ha : ∀ i, i < 8 → (w.setCell ⟨bf, j, none⟩ v).cell? ⟨bf, 0 + i * 2, none⟩ = some (.string (A' i))) (hr : ∀ i, i < 8 → (w.setCell ⟨bf, j, none⟩ v).cell? ⟨bf, 0 + i * 2 + 1, none⟩ = some (.string (R' i)))
    (hrel : ∀ i, i < 8 → D'.S i = A' i ++ R' i ∧ D'.L i = (A' i).size) (hl : D'.lost = D.lost) (hd : D'.down = D.down) (hm : D'.armed = D.armed) (hk : D'.kl = D.kl) (ok : D'.ok) : RefC (w.setCell ⟨bf, j, none⟩ v) b bf cap A' R' D' := by
  have hne := h.ne
  obtain ⟨n, hn⟩ := h.shf
  obtain ⟨u, h5, h6⟩ := h.keep
  have nb : ∀ i, (⟨bf, j, none⟩ : Addr) ≠ ⟨b, i, none⟩ := fun i e => hne (by injection e with e1; exact e1.symm)
  exact ⟨by rw [shape_setCell]; exact h.sh, fun j => by rw [World.frozen?_setCell]; exact h.fz j, ⟨n, by rw [shape_setCell]; exact hn⟩, fun j => by rw [World.frozen?_setCell]; exact h.fzf j,
    cell_set_ne h.c0 (nb _), ha, hr, by rw [hl]; exact cell_set_ne h.lost (nb _), by rw [hd]; exact cell_set_ne h.down (nb _), by rw [hm]; exact cell_set_ne h.armed (nb _), ⟨u, cell_set_ne h5 (nb _), by rw [hk]; exact Ints.set h6 hn (by decide)⟩, hrel, ok⟩
theorem RefC.setRest (h : RefC w b bf cap A R D) (f : Nat) (hf : f < 8) (x : ByteArray) (hx : (A f).size + x.size ≤ 16777216) : RefC (w.setCell ⟨bf, 0 + f * 2 + 1, none⟩ (.string x)) b bf cap A (upd R f x) { D with S := upd D.S f (A f ++ x) } := by
  refine h.setF _ _ (fun i hi => cell_set_ne (h.ca i hi) (ne_off (by omega))) (fun i hi => ?_) (fun i hi => ?_) rfl rfl rfl rfl ⟨fun i hi => ?_, h.ok.2⟩
  · by_cases e : i = f
    · subst e; rw [Dk.upd_same]; exact cell_set_eq (h.cr i hi)
    · rw [Dk.upd_ne _ _ e]; exact cell_set_ne (h.cr i hi) (ne_off (by omega))
  · dsimp only
    by_cases e : i = f
    · subst e; rw [Dk.upd_same, Dk.upd_same]; exact ⟨rfl, (h.rel i hi).2⟩
    · rw [Dk.upd_ne _ _ e, Dk.upd_ne _ _ e]; exact h.rel i hi
  · dsimp only
    by_cases e : i = f
    · subst e; rw [Dk.upd_same, ByteArray.size_append, (h.rel i hi).2]; omega
    · rw [Dk.upd_ne _ _ e]; exact h.ok.1 i hi
/-- Both strings of a file are stored. -/
theorem RefC.setFile (h : RefC w b bf cap A R D) (f : Nat) (hf : f < 8) (x y : ByteArray) (hx : x.size + y.size ≤ 16777216) :
    RefC ((w.setCell ⟨bf, 0 + f * 2, none⟩ (.string x)).setCell ⟨bf, 0 + f * 2 + 1, none⟩ (.string y)) b bf cap (upd A f x) (upd R f y) { D with S := upd D.S f (x ++ y), L := upd D.L f x.size } := by
  have h1 : RefC (w.setCell ⟨bf, 0 + f * 2, none⟩ (.string x)) b bf cap (upd A f x) (upd R f ⟨#[]⟩) { D with S := upd D.S f (x ++ ⟨#[]⟩), L := upd D.L f x.size } → True := fun _ => trivial
  have hne := h.ne
  obtain ⟨n, hn⟩ := h.shf
  obtain ⟨u, h5, h6⟩ := h.keep
  have nb : ∀ k i, (⟨bf, k, none⟩ : Addr) ≠ ⟨b, i, none⟩ := fun k i e => hne (by injection e with e1; exact e1.symm)
  refine ⟨by rw [shape_setCell, shape_setCell]; exact h.sh, fun j => by rw [World.frozen?_setCell, World.frozen?_setCell]; exact h.fz j, ⟨n, by rw [shape_setCell, shape_setCell]; exact hn⟩, fun j => by rw [World.frozen?_setCell, World.frozen?_setCell]; exact h.fzf j,
    cell_set_ne (cell_set_ne h.c0 (nb _ _)) (nb _ _), fun i hi => ?_, fun i hi => ?_, cell_set_ne (cell_set_ne h.lost (nb _ _)) (nb _ _), cell_set_ne (cell_set_ne h.down (nb _ _)) (nb _ _), cell_set_ne (cell_set_ne h.armed (nb _ _)) (nb _ _),
    ⟨u, cell_set_ne (cell_set_ne h5 (nb _ _)) (nb _ _), Ints.set (Ints.set h6 hn (by decide)) (by rw [shape_setCell]; exact hn) (by decide)⟩, fun i hi => ?_, ⟨fun i hi => ?_, h.ok.2⟩⟩
  · by_cases e : i = f
    · subst e; rw [Dk.upd_same]; exact cell_set_ne (cell_set_eq (h.ca i hi)) (ne_off (by omega))
    · rw [Dk.upd_ne _ _ e]; exact cell_set_ne (cell_set_ne (h.ca i hi) (ne_off (by omega))) (ne_off (by omega))
  · by_cases e : i = f
    · subst e; rw [Dk.upd_same]; exact cell_set_eq (cell_set_ne (h.cr i hi) (ne_off (by omega)))
    · rw [Dk.upd_ne _ _ e]; exact cell_set_ne (cell_set_ne (h.cr i hi) (ne_off (by omega))) (ne_off (by omega))
  · dsimp only
    by_cases e : i = f
    · subst e; rw [Dk.upd_same, Dk.upd_same, Dk.upd_same, Dk.upd_same]; exact ⟨rfl, rfl⟩
    · rw [Dk.upd_ne _ _ e, Dk.upd_ne _ _ e, Dk.upd_ne _ _ e, Dk.upd_ne _ _ e]; exact h.rel i hi
  · dsimp only
    by_cases e : i = f
    · subst e; rw [Dk.upd_same, Dk.upd_same, ByteArray.size_append]; omega
    · rw [Dk.upd_ne _ _ e, Dk.upd_ne _ _ e]; exact h.ok.1 i hi
end
end Go.Proofs.Ytcnkbpghafhceaa
