/- Helper text of this claim: C2: lemmas and contracts that the proved statement rests on; no conditions of its own. -/
import Derived.Test.YtcnkbpghafhceaaM1
import Derived.Test.YtcnkbpghafhceaaProg
import Derived.WalkSpells
import Derived.Lib.Hide
import Derived.WalkLawsBesides
namespace Go.Proofs.Ytcnkbpghafhceaa
open Go.RowKit Go.Pw Go.Pw.Dk

structure DiskAt (w : World) (b : Nat) (D : St) : Prop where
  sh : w.shape? b = some (55, 20)
  fz : ∀ i, w.frozen? ⟨b, i, none⟩ = false
  s : ∀ i, i < 8 → w.cell? ⟨b, i * 2, none⟩ = some (.string (D.S i))
  l : ∀ i, i < 8 → w.cell? ⟨b, i * 2 + 1, none⟩ = some (.int .i64 (D.L i))
  lost : w.cell? ⟨b, 16, none⟩ = some (.int .i64 D.lost)
  down : w.cell? ⟨b, 17, none⟩ = some (.bool D.down)
  armed : w.cell? ⟨b, 18, none⟩ = some (.int .i64 D.armed)
  keep : ∃ v, w.cell? ⟨b, 19, none⟩ = some v ∧ Ints 3 w v D.kl
  ok : D.ok
theorem DiskAt.lt {w : World} {b : Nat} {D : St} (h : DiskAt w b D) : b < w.heap.size := shape_lt h.sh
theorem ne_off {b i j : Nat} (h : i ≠ j) : (⟨b, i, none⟩ : Addr) ≠ ⟨b, j, none⟩ := fun e => h (by injection e)
theorem keeps_set (w : World) (b o : Nat) (v : Value) : Keeps w (w.setCell ⟨b, o, none⟩ v) (one_ b) := (Keeps.refl w (one_ b)).setCell (p := ⟨b, o, none⟩) (.inl rfl) v
theorem DiskAt.kept {w w' : World} {b : Nat} {D : St} {c : Nat → Prop} (h : DiskAt w b D) (k : Keeps w w' c) (hb : ¬ c b) (hc : ∀ k n, w.shape? k = some (3, n) → ¬ c k) : DiskAt w' b D := by
  have hl := h.lt
  have e : ∀ i, w'.cell? ⟨b, i, none⟩ = w.cell? ⟨b, i, none⟩ := fun i => k.cell hl hb
  refine ⟨by rw [k.shape hl hb]; exact h.sh, fun i => by rw [k.frozen hl hb]; exact h.fz i, fun i hi => by rw [e]; exact h.s i hi, fun i hi => by rw [e]; exact h.l i hi,
    by rw [e]; exact h.lost, by rw [e]; exact h.down, by rw [e]; exact h.armed, ?_, h.ok⟩
  obtain ⟨v, h1, h2⟩ := h.keep
  exact ⟨v, by rw [e]; exact h1, h2.keep k hc⟩
theorem Ints.set {T U : TypeId} {w : World} {v x : Value} {zs : List Int} {b o n : Nat} (h : Ints T w v zs) (hs : w.shape? b = some (U, n)) (hU : U ≠ T) : Ints T (w.setCell ⟨b, o, none⟩ x) v zs := by
  refine h.keep (keeps_set w b o x) fun k m hk e => ?_
  cases e; rw [hs] at hk; cases hk; exact hU rfl
section
variable {w : World} {b : Nat} {D : St}
theorem DiskAt.setS (h : DiskAt w b D) (f : Nat) (hf : f < 8) (x : ByteArray) (hx : D.L f ≤ x.size ∧ x.size ≤ 16777216) : DiskAt (w.setCell ⟨b, f * 2, none⟩ (.string x)) b { D with S := upd D.S f x } := by
  refine ⟨by rw [shape_setCell]; exact h.sh, fun i => by rw [World.frozen?_setCell]; exact h.fz i, fun i hi => ?_, fun i hi => cell_set_ne (h.l i hi) (ne_off (by omega)),
    cell_set_ne h.lost (ne_off (by omega)), cell_set_ne h.down (ne_off (by omega)), cell_set_ne h.armed (ne_off (by omega)), ?_, ?_⟩
  · by_cases e : i = f
    · subst e; dsimp only; rw [upd_same]; exact cell_set_eq (h.s i hi)
    · dsimp only; rw [upd_ne _ _ e]; exact cell_set_ne (h.s i hi) (ne_off (by omega))
  · obtain ⟨v, h1, h2⟩ := h.keep
    exact ⟨v, cell_set_ne h1 (ne_off (by omega)), Ints.set h2 h.sh (by decide)⟩
  · obtain ⟨a, r⟩ := h.ok
    refine ⟨fun i hi => ?_, r⟩
    show D.L i ≤ (upd D.S f x i).size ∧ (upd D.S f x i).size ≤ _
    by_cases e : i = f
    · subst e; rw [upd_same]; exact hx
    · rw [upd_ne _ _ e]; exact a i hi
theorem DiskAt.setL (h : DiskAt w b D) (f : Nat) (hf : f < 8) (x : Nat) (hx : x ≤ (D.S f).size) : DiskAt (w.setCell ⟨b, f * 2 + 1, none⟩ (.int .i64 x)) b { D with L := upd D.L f x } := by
  refine ⟨by rw [shape_setCell]; exact h.sh, fun i => by rw [World.frozen?_setCell]; exact h.fz i, fun i hi => cell_set_ne (h.s i hi) (ne_off (by omega)), fun i hi => ?_,
    cell_set_ne h.lost (ne_off (by omega)), cell_set_ne h.down (ne_off (by omega)), cell_set_ne h.armed (ne_off (by omega)), ?_, ?_⟩
  · by_cases e : i = f
    · subst e; dsimp only; rw [upd_same]; exact cell_set_eq (h.l i hi)
    · dsimp only; rw [upd_ne _ _ e]; exact cell_set_ne (h.l i hi) (ne_off (by omega))
  · obtain ⟨v, h1, h2⟩ := h.keep
    exact ⟨v, cell_set_ne h1 (ne_off (by omega)), Ints.set h2 h.sh (by decide)⟩
  · obtain ⟨a, r⟩ := h.ok
    refine ⟨fun i hi => ?_, r⟩
    show upd D.L f x i ≤ (D.S i).size ∧ (D.S i).size ≤ _
    by_cases e : i = f
    · subst e; rw [upd_same]; exact ⟨hx, (a i hi).2⟩
    · rw [upd_ne _ _ e]; exact a i hi
theorem DiskAt.setLost (h : DiskAt w b D) (x : Int) (h0 : 0 ≤ x) (h1 : x ≤ 9223372036854775807) : DiskAt (w.setCell ⟨b, 16, none⟩ (.int .i64 x)) b { D with lost := x } := by
  refine ⟨by rw [shape_setCell]; exact h.sh, fun i => by rw [World.frozen?_setCell]; exact h.fz i, fun i hi => cell_set_ne (h.s i hi) (ne_off (by omega)), fun i hi => cell_set_ne (h.l i hi) (ne_off (by omega)),
    cell_set_eq h.lost, cell_set_ne h.down (ne_off (by omega)), cell_set_ne h.armed (ne_off (by omega)), ?_, ?_⟩
  · obtain ⟨v, h1, h2⟩ := h.keep
    exact ⟨v, cell_set_ne h1 (ne_off (by omega)), Ints.set h2 h.sh (by decide)⟩
  · obtain ⟨a, _, _, r⟩ := h.ok; exact ⟨a, h0, h1, r⟩
theorem DiskAt.setDown (h : DiskAt w b D) (x : Bool) : DiskAt (w.setCell ⟨b, 17, none⟩ (.bool x)) b { D with down := x } := by
  refine ⟨by rw [shape_setCell]; exact h.sh, fun i => by rw [World.frozen?_setCell]; exact h.fz i, fun i hi => cell_set_ne (h.s i hi) (ne_off (by omega)), fun i hi => cell_set_ne (h.l i hi) (ne_off (by omega)),
    cell_set_ne h.lost (ne_off (by omega)), cell_set_eq h.down, cell_set_ne h.armed (ne_off (by omega)), ?_, h.ok⟩
  · obtain ⟨v, h1, h2⟩ := h.keep
    exact ⟨v, cell_set_ne h1 (ne_off (by omega)), Ints.set h2 h.sh (by decide)⟩
theorem DiskAt.setArmed (h : DiskAt w b D) (x : Int) (h0 : 0 ≤ x) (h1 : x ≤ 9223372036854775807) : DiskAt (w.setCell ⟨b, 18, none⟩ (.int .i64 x)) b { D with armed := x } := by
  refine ⟨by rw [shape_setCell]; exact h.sh, fun i => by rw [World.frozen?_setCell]; exact h.fz i, fun i hi => cell_set_ne (h.s i hi) (ne_off (by omega)), fun i hi => cell_set_ne (h.l i hi) (ne_off (by omega)),
    cell_set_ne h.lost (ne_off (by omega)), cell_set_ne h.down (ne_off (by omega)), cell_set_eq h.armed, ?_, ?_⟩
  · obtain ⟨v, h1, h2⟩ := h.keep
    exact ⟨v, cell_set_ne h1 (ne_off (by omega)), Ints.set h2 h.sh (by decide)⟩
  · obtain ⟨a, b1, b2, _⟩ := h.ok; exact ⟨a, b1, b2, h0, h1⟩
theorem DiskAt.setKeep (h : DiskAt w b D) (v : Value) (zs : List Int) (hv : Ints 3 w v zs) : DiskAt (w.setCell ⟨b, 19, none⟩ v) b { D with kl := zs } := by
  refine ⟨by rw [shape_setCell]; exact h.sh, fun i => by rw [World.frozen?_setCell]; exact h.fz i, fun i hi => cell_set_ne (h.s i hi) (ne_off (by omega)), fun i hi => cell_set_ne (h.l i hi) (ne_off (by omega)),
    cell_set_ne h.lost (ne_off (by omega)), cell_set_ne h.down (ne_off (by omega)), cell_set_ne h.armed (ne_off (by omega)), ?_, h.ok⟩
  · obtain ⟨u, h1, h2⟩ := h.keep
    exact ⟨v, cell_set_eq h1, Ints.set hv h.sh (by decide)⟩
theorem DiskAt.drew (h : DiskAt w b D) : DiskAt w.drew b D := h.kept (c := none_) (Keeps.refl _ _).drew id (fun _ _ _ => id)
theorem DiskAt.alloc (h : DiskAt w b D) (o : Obj) : DiskAt (w.alloc o) b D := h.kept (c := none_) ((Keeps.refl _ _).alloc o) id (fun _ _ _ => id)
end

/-! ### the contracts -/
theorem c_down (b : Nat) (D : St) (w : World) (h : DiskAt w b D) :
    Calls Try.prog 21 #[.pointer (some ⟨b, 0, none⟩)] w fun e w' => e = .returned (.bool D.down) ∧ w = w' := by
  have h1 := h.down; clear h
  go_enter Try.func21, Try.ntmps21
  go_wp2

  go_ret
  exact ⟨rfl, rfl⟩
theorem c_start (b : Nat) (D : St) (w : World) (h : DiskAt w b D) :
    Calls Try.prog 15 #[.pointer (some ⟨b, 0, none⟩)] w fun e w' => e = .returned (.tuple #[]) ∧ DiskAt w' b (start0 D) ∧ Keeps w w' (one_ b) := by
  have h1 := h.down; have h2 := h.fz
  have H := Lib.hid h; clear h
  go_enter Try.func15, Try.ntmps15
  go_wp2
  go_end0
  exact ⟨rfl, H.out.setDown false, keeps_set _ _ _ _⟩
theorem c_lose (b : Nat) (D : St) (n : Int) (w : World) (h : DiskAt w b D) (hn : n ≤ 9223372036854775807) :
    Calls Try.prog 18 #[.pointer (some ⟨b, 0, none⟩), .int .i64 n] w fun e w' => e = .returned (.tuple #[]) ∧ DiskAt w' b (lose D n) ∧ Keeps w w' (one_ b) := by
  have h1 := h.lost; have h2 := h.fz
  have H := Lib.hid h; clear h
  by_cases h0 : n < 0
  · go_enter Try.func18, Try.ntmps18
    go_wp2
    go_end0
    exact ⟨rfl, by simpa [lose, show max n 0 = 0 from by omega] using H.out.setLost 0 (by omega) (by omega), keeps_set _ _ _ _⟩
  · go_enter Try.func18, Try.ntmps18
    go_wp2
    go_end0
    exact ⟨rfl, by simpa [lose, show max n 0 = n from by omega] using H.out.setLost n (by omega) (by omega), keeps_set _ _ _ _⟩
theorem c_is (f : Int) (w : World) :
    Calls Try.prog 36 #[.int .i64 f] w fun e w' => e = .returned (.bool (isB f)) ∧ w = w' := by
  by_cases h0 : 0 ≤ f
  · go_enter Try.func36, Try.ntmps36
    go_wp2
    go_ret
    exact ⟨by simp [isB, h0], rfl⟩
  · go_enter Try.func36, Try.ntmps36
    go_wp2
    go_ret
    exact ⟨by simp [isB]; omega, rfl⟩
theorem c_is' (f : Int) (w : World) (x : Bool) (hx : isB f = x) :
    Calls Try.prog 36 #[.int .i64 f] w fun e w' => e = .returned (.bool x) ∧ w = w' := by subst hx; exact c_is f w
theorem isB_of {f : Int} (h : isB f = true) : 0 ≤ f ∧ f < 8 := by simpa [isB] using h
theorem c_size (b : Nat) (D : St) (f : Int) (w : World) (h : DiskAt w b D) :
    Calls Try.prog 17 #[.pointer (some ⟨b, 0, none⟩), .int .i64 f] w fun e w' => e = .returned (.int .i64 (sizeI D f)) ∧ w = w' := by
  cases hf : isB f
  · have H := Lib.hid hf
    have e : sizeI D f = 0 := by simp [sizeI, hf]
    rw [e]; clear e hf
    go_enter Try.func17, Try.ntmps17
    go_wp2_with (go_at_call 36; refine (c_is' _ _ _ H.out).mono ?_; rintro e w' ⟨rfl, rfl⟩)
    go_ret
    exact ⟨rfl, rfl⟩
  · have H := Lib.hid hf
    obtain ⟨h1, h2⟩ := isB_of hf
    have h3 := h.s f.toNat (by omega)
    have e : sizeI D f = (D.S f.toNat).size := by simp [sizeI, hf]
    rw [e]; clear e hf
    go_enter Try.func17, Try.ntmps17
    go_wp2_with (go_at_call 36; refine (c_is' _ _ _ H.out).mono ?_; rintro e w' ⟨rfl, rfl⟩)
    go_ret
    exact ⟨rfl, rfl⟩
theorem c_ends (b : Nat) (D : St) (w : World) (h : DiskAt w b D) :
    Calls Try.prog 34 #[.pointer (some ⟨b, 0, none⟩)] w fun e w' => e = .returned (.bool (endsB D)) ∧ DiskAt w' b (tick D) ∧ Keeps w w' (one_ b) := by
  have h1 := h.down; have h2 := h.armed; have h3 := h.fz
  obtain ⟨_, _, _, o1, o2⟩ := h.ok
  have H := Lib.hid h; clear h
  cases hd : D.down
  · by_cases ha : D.armed = 0
    · have ha' : (D.armed == 0) = true := by simp [ha]
      have e : endsB D = false := by simp [endsB, ha]
      have e2 : tick D = D := by simp [tick, hd, ha]
      rw [e, e2]; clear e e2 ha; rw [hd] at h1; clear hd
      go_enter Try.func34, Try.ntmps34
      go_wp2
      go_ret
      exact ⟨rfl, H.out, Keeps.refl _ _⟩
    · have ha' : (D.armed == 0) = false := by simp [ha]
      have e : endsB D = (D.armed - 1 == 0) := by simp only [endsB, hd, Bool.not_false, Bool.true_and]; rw [Bool.eq_iff_iff]; simp; omega
      have e2 : tick D = { D with armed := D.armed - 1 } := by simp [tick, hd, ha]
      rw [e, e2]; clear e e2; rw [hd] at h1; clear hd
      have ho1 : 1 ≤ D.armed := by omega
      clear ha o1
      go_enter Try.func34, Try.ntmps34
      go_wp2
      go_ret
      exact ⟨rfl, H.out.setArmed _ (by omega) (by omega), keeps_set _ _ _ _⟩
  · have e : endsB D = false := by simp [endsB, hd]
    have e2 : tick D = D := by simp [tick, hd]
    rw [e, e2]; clear e e2; rw [hd] at h1; clear hd
    go_enter Try.func34, Try.ntmps34
    go_wp2
    go_ret
    exact ⟨rfl, H.out, Keeps.refl _ _⟩
end Go.Proofs.Ytcnkbpghafhceaa
