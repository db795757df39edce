/- Helper text of this claim: BkS: lemmas and contracts that the proved statement rests on; no conditions of its own. -/
import Derived.Test.YtcnkbpghafhceaaBctL
/-! DiskLasts: the plain law. -/
namespace Go.Pw.Dk
theorem tick_S (D : St) : (tick D).S = D.S := by unfold tick; split; rfl; split <;> rfl
theorem tick_L (D : St) : (tick D).L = D.L := by unfold tick; split; rfl; split <;> rfl
theorem tick_down (D : St) : (tick D).down = D.down := by unfold tick; split; rfl; split <;> rfl
theorem endsB_up {D : St} (h : endsB D = true) : D.down = false := by
  simp only [endsB, Bool.and_eq_true, Bool.not_eq_true'] at h; exact h.1
theorem crash_down (D : St) (kl : List Int) : (crash D kl).down = true := by unfold crash; split <;> simp_all
theorem pre_no {D : St} (h : endsB D = false) : pre D = tick D := by simp [pre, h]
theorem pre_yes {D : St} (h : endsB D = true) : pre D = crash (tick D) (tick D).kl := by simp [pre, h]
theorem may_down {D : St} (f : Int) (h : D.down = true) : may D f = 13 := by simp [may, h]
theorem may2_down {D : St} (f g : Int) (h : D.down = true) : may2 D f g = 13 := by simp [may2, h]
theorem may_zero {D : St} {f : Int} (h : may D f = 0) : D.down = false ∧ 0 ≤ f ∧ f < 8 := by
  unfold may at h; split at h
  · cases h
  · split at h
    · rename_i h1 h2; simp [isB] at h2; exact ⟨by simpa using h1, h2⟩
    · cases h
theorem may2_zero {D : St} {f g : Int} (h : may2 D f g = 0) : D.down = false ∧ (0 ≤ f ∧ f < 8) ∧ (0 ≤ g ∧ g < 8) := by
  unfold may2 at h; split at h
  · cases h
  · split at h
    · rename_i h1 h2; simp [isB] at h2; exact ⟨by simpa using h1, h2⟩
    · cases h
def cutB (s : ByteArray) (n : Nat) : ByteArray := s.extract 0 n
theorem cut_append (a b : ByteArray) (n : Nat) (h : n ≤ a.size) : cutB (a ++ b) n = cutB a n := by
  unfold cutB; apply ByteArray.ext; apply Array.ext'
  simp only [ByteArray.data_extract, ByteArray.data_append, Array.toList_extract, Array.toList_append, List.extract_eq_take_drop, Nat.sub_zero, List.drop_zero]
  rw [List.take_append_of_le_length (by simpa using h)]
theorem cut_cut (a : ByteArray) (n m : Nat) : cutB (cutB a n) m = cutB a (min m n) := by
  unfold cutB; apply ByteArray.ext; apply Array.ext'
  simp only [ByteArray.data_extract, Array.toList_extract, List.extract_eq_take_drop, Nat.sub_zero, List.drop_zero, List.take_take]
theorem cut_size (a : ByteArray) (n : Nat) : (cutB a n).size = min n a.size := by unfold cutB; simp
theorem cut_all (a : ByteArray) (n : Nat) (h : a.size ≤ n) : cutB a n = a := by
  unfold cutB; apply ByteArray.ext; apply Array.ext'
  simp only [ByteArray.data_extract, Array.toList_extract, List.extract_eq_take_drop, Nat.sub_zero, List.drop_zero]
  exact List.take_of_length_le (by simpa using h)
/-- What is kept for sure of each file. -/
def Safe (D : St) (ss : Nat → ByteArray) : Prop := ∀ i, i < 8 → ss i = cutB (D.S i) (D.L i)
/-- The law's own list, after an operation. -/
def newS (D : St) (x : ActD) (ss : Nat → ByteArray) : Nat → ByteArray :=
  if pickI x.Do = 2 ∧ (doA D x).1.2 = 0 then upd ss x.F.toNat ((doA D x).2.S x.F.toNat)
  else if pickI x.Do = 3 ∧ (doA D x).1.2 = 0 then (if x.N < ((ss x.F.toNat).size : Int) then upd ss x.F.toNat (cutB (ss x.F.toNat) x.N.toNat) else ss)
  else if pickI x.Do = 4 ∧ (doA D x).1.2 = 0 then upd (upd ss x.F.toNat (ss x.G.toNat)) x.G.toNat ⟨#[]⟩
  else ss
/-- The machine has gone down in this operation. -/
def fell (D : St) (x : ActD) : Prop := D.down = false ∧ (doA D x).2.down = true
theorem Safe.congr {D D' : St} {ss : Nat → ByteArray} (h : Safe D ss) (hS : D'.S = D.S) (hL : D'.L = D.L) : Safe D' ss := fun i hi => by rw [hS, hL]; exact h i hi
theorem flush_cases (D : St) (f : Int) : (flush D f = (may (pre D) f, pre D) ∧ may (pre D) f ≠ 0) ∨ (flush D f = (14, { pre D with lost := (pre D).lost - 1 }) ∧ may (pre D) f = 0) ∨
    (flush D f = (0, { pre D with L := upd (pre D).L f.toNat ((pre D).S f.toNat).size }) ∧ may (pre D) f = 0) := by
  unfold flush; simp only
  by_cases h1 : may (pre D) f = 0
  · by_cases h2 : 0 < (pre D).lost
    · right; left; simp [h1, h2]
    · right; right; simp [h1, h2]
  · left; simp [h1]
theorem cut_cases (D : St) (f n : Int) : (cut D f n = (may (pre D) f, pre D) ∧ may (pre D) f ≠ 0) ∨ (cut D f n = (1, pre D) ∧ may (pre D) f = 0) ∨
    (cut D f n = (0, { pre D with S := upd (pre D).S f.toNat (((pre D).S f.toNat).extract 0 n.toNat), L := upd (pre D).L f.toNat (min ((pre D).L f.toNat) n.toNat) }) ∧ may (pre D) f = 0 ∧ 0 ≤ n) := by
  unfold cut; simp only
  by_cases h1 : may (pre D) f = 0
  · by_cases h2 : n < 0 ∨ ((pre D).S f.toNat).size < n
    · right; left; simp [h1, h2]
    · right; right; simp [h1, h2]; omega
  · left; simp [h1]
theorem turn_cases (D : St) (f g : Int) : (turn D f g = (may2 (pre D) f g, pre D) ∧ may2 (pre D) f g ≠ 0) ∨ (∃ e, e ≠ 0 ∧ turn D f g = (e, pre D) ∧ may2 (pre D) f g = 0) ∨
    (turn D f g = (0, { pre D with S := upd (upd (pre D).S f.toNat ((pre D).S g.toNat)) g.toNat ⟨#[]⟩, L := upd (upd (pre D).L f.toNat ((pre D).L g.toNat)) g.toNat 0 }) ∧ may2 (pre D) f g = 0 ∧ f ≠ g ∧ ¬ (pre D).L g.toNat < ((pre D).S g.toNat).size) := by
  unfold turn; simp only
  by_cases h1 : may2 (pre D) f g = 0
  · by_cases h2 : f = g
    · subst h2; right; left; exact ⟨1, by simp, by simp [h1], h1⟩
    · by_cases h3 : (pre D).L g.toNat < ((pre D).S g.toNat).size
      · right; left; exact ⟨17, by simp, by simp [h1, h2, h3]⟩
      · right; right; simp [h1, h2, h3]
  · left; simp [h1]
/-- The state an operation's crash finds, and what it leaves. -/
structure Fell (D D' : St) (E : St) (kl : List Int) : Prop where
  eq : D' = crash E kl
  up : E.down = false
  L : E.L = D.L
  S : ∀ i, i < 8 → cutB (E.S i) (D.L i) = cutB (D.S i) (D.L i)
  le : ∀ i, i < 8 → D.L i ≤ (E.S i).size
theorem pre_fell {D : St} (hok : D.ok) (h : endsB D = true) : Fell D (pre D) (tick D) (tick D).kl :=
  ⟨pre_yes h, by rw [tick_down]; exact endsB_up h, tick_L D, fun i hi => by rw [tick_S], fun i hi => by rw [tick_S]; exact (hok.1 i hi).1⟩
theorem appD_down (D : St) (f : Int) (s : ByteArray) (h : endsB D = false) : (app D f s).2.down = D.down := by
  unfold app; simp only [h, Bool.false_eq_true, if_false]; split <;> simp [tick_down]
theorem fell_cases {D : St} {x : ActD} (hok : D.ok) (h : fell D x) : (∃ E kl, Fell D (doA D x).2 E kl) ∧ ∀ ss, newS D x ss = ss := by
  obtain ⟨hu, hd⟩ := h
  unfold newS
  unfold doA at *
  by_cases p0 : pickI x.Do = 0 ∨ pickI x.Do = 1
  · rw [if_pos p0] at *
    refine ⟨?_, fun ss => by rw [if_neg (by omega), if_neg (by omega), if_neg (by omega)]⟩
    cases he : endsB D
    · rw [appD_down D _ _ he, hu] at hd; cases hd
    · unfold app
      simp only [he, if_true]
      refine ⟨_, _, rfl, ?_, ?_, fun i hi => ?_, fun i hi => ?_⟩
      · split <;> simp [tick_down, hu]
      · split <;> simp [tick_L]
      · split
        · simp only [tick_S]
          by_cases e : i = x.F.toNat
          · subst e; rw [upd_same, cut_append _ _ _ (hok.1 _ hi).1]
          · rw [upd_ne _ _ e]
        · rw [tick_S]
      · have := (hok.1 i hi).1
        split
        · simp only [tick_S]
          by_cases e : i = x.F.toNat
          · subst e; rw [upd_same, ByteArray.size_append]; omega
          · rw [upd_ne _ _ e]; exact this
        · rw [tick_S]; exact this
  rw [if_neg p0] at *
  by_cases p2 : pickI x.Do = 2
  · rw [if_pos p2] at *
    cases he : endsB D
    · have hp := pre_no he
      rcases flush_cases D x.F with ⟨e, _⟩ | ⟨e, _⟩ | ⟨e, _⟩ <;> rw [e] at hd <;> simp [hp, tick_down, hu] at hd
    · have hp : (pre D).down = true := by rw [pre_yes he]; exact crash_down _ _
      rcases flush_cases D x.F with ⟨e, h1⟩ | ⟨e, h1⟩ | ⟨e, h1⟩
      · rw [e]; exact ⟨⟨_, _, pre_fell hok he⟩, fun ss => by rw [if_neg (fun h => h1 h.2), if_neg (by omega), if_neg (by omega)]⟩
      · rw [may_down _ hp] at h1; cases h1
      · rw [may_down _ hp] at h1; cases h1
  rw [if_neg p2] at *
  by_cases p3 : pickI x.Do = 3
  · rw [if_pos p3] at *
    cases he : endsB D
    · have hp := pre_no he
      rcases cut_cases D x.F x.N with ⟨e, _⟩ | ⟨e, _⟩ | ⟨e, _⟩ <;> rw [e] at hd <;> simp [hp, tick_down, hu] at hd
    · have hp : (pre D).down = true := by rw [pre_yes he]; exact crash_down _ _
      rcases cut_cases D x.F x.N with ⟨e, h1⟩ | ⟨e, h1⟩ | ⟨e, h1, _⟩
      · rw [e]; exact ⟨⟨_, _, pre_fell hok he⟩, fun ss => by rw [if_neg (by omega), if_neg (fun h => h1 h.2), if_neg (by omega)]⟩
      · rw [may_down _ hp] at h1; cases h1
      · rw [may_down _ hp] at h1; cases h1
  rw [if_neg p3] at *
  by_cases p4 : pickI x.Do = 4
  · rw [if_pos p4] at *
    cases he : endsB D
    · have hp := pre_no he
      rcases turn_cases D x.F x.G with ⟨e, _⟩ | ⟨c, _, e, _⟩ | ⟨e, _⟩ <;> rw [e] at hd <;> simp [hp, tick_down, hu] at hd
    · have hp : (pre D).down = true := by rw [pre_yes he]; exact crash_down _ _
      rcases turn_cases D x.F x.G with ⟨e, h1⟩ | ⟨c, _, e, h1⟩ | ⟨e, h1, _⟩
      · rw [e]; exact ⟨⟨_, _, pre_fell hok he⟩, fun ss => by rw [if_neg (by omega), if_neg (by omega), if_neg (fun h => h1 h.2)]⟩
      · rw [may2_down _ _ hp] at h1; cases h1
      · rw [may2_down _ _ hp] at h1; cases h1
  rw [if_neg p4] at *
  refine ⟨?_, fun ss => by rw [if_neg (by omega), if_neg (by omega), if_neg (by omega)]⟩
  by_cases p5 : pickI x.Do = 5
  · rw [if_pos p5] at *
    exact ⟨D, x.kl, rfl, hu, rfl, fun i hi => rfl, fun i hi => (hok.1 i hi).1⟩
  rw [if_neg p5] at *
  exfalso
  split at hd
  · simp [lose, hu] at hd
  · split at hd
    · simp [start0] at hd
    · split at hd
      · simp [hu] at hd
      · split at hd <;> simp [arm, hu] at hd
theorem safe_step {D : St} {x : ActD} {ss : Nat → ByteArray} (hok : D.ok) (hn : ¬ fell D x) (h : Safe D ss) : Safe (doA D x).2 (newS D x ss) := by
  unfold fell at hn
  unfold newS
  unfold doA at *
  by_cases p0 : pickI x.Do = 0 ∨ pickI x.Do = 1
  · rw [if_pos p0] at *
    rw [if_neg (by omega), if_neg (by omega), if_neg (by omega)]
    cases he : endsB D
    · intro i hi
      rw [h i hi]
      unfold app; simp only [he, Bool.false_eq_true, if_false]
      split
      · simp only [tick_S, tick_L]
        by_cases e : i = x.F.toNat
        · subst e; rw [upd_same, cut_append _ _ _ (hok.1 _ hi).1]
        · rw [upd_ne _ _ e]
      · simp only [tick_S, tick_L]
    · exact (hn ⟨endsB_up he, by unfold app; simp only [he, if_true]; exact crash_down _ _⟩).elim
  rw [if_neg p0] at *
  have hpre : ∀ {D'' : St}, D''.down = (pre D).down → ¬ (D.down = false ∧ D''.down = true) → pre D = tick D := fun e hn => by
    cases he : endsB D
    · exact pre_no he
    · exact (hn ⟨endsB_up he, by rw [e, pre_yes he]; exact crash_down _ _⟩).elim
  by_cases p2 : pickI x.Do = 2
  · rw [if_pos p2] at *
    rcases flush_cases D x.F with ⟨e, h1⟩ | ⟨e, h1⟩ | ⟨e, h1⟩ <;> rw [e] at hn ⊢
    · rw [if_neg (fun h => h1 h.2), if_neg (by omega), if_neg (by omega)]
      have hp := hpre rfl hn
      exact h.congr (by rw [hp, tick_S]) (by rw [hp, tick_L])
    · rw [if_neg (by simp), if_neg (by simp), if_neg (by simp)]
      have hp := hpre (D'' := { pre D with lost := (pre D).lost - 1 }) rfl hn
      exact h.congr (by simp only [hp, tick_S]) (by simp only [hp, tick_L])
    · rw [if_pos ⟨p2, rfl⟩]
      have hp := hpre (D'' := { pre D with L := upd (pre D).L x.F.toNat ((pre D).S x.F.toNat).size }) rfl hn
      intro i hi
      simp only [hp, tick_S, tick_L]
      by_cases e : i = x.F.toNat
      · subst e; rw [upd_same, upd_same, cut_all _ _ (Nat.le_refl _)]
      · rw [upd_ne _ _ e, upd_ne _ _ e]; exact h i hi
  rw [if_neg p2] at *
  by_cases p3 : pickI x.Do = 3
  · rw [if_pos p3] at *
    rcases cut_cases D x.F x.N with ⟨e, h1⟩ | ⟨e, h1⟩ | ⟨e, h1, hn0⟩ <;> rw [e] at hn ⊢
    · rw [if_neg (by omega), if_neg (fun h => h1 h.2), if_neg (by omega)]
      have hp := hpre rfl hn
      exact h.congr (by rw [hp, tick_S]) (by rw [hp, tick_L])
    · rw [if_neg (by omega), if_neg (by simp), if_neg (by omega)]
      have hp := hpre rfl hn
      exact h.congr (by rw [hp, tick_S]) (by rw [hp, tick_L])
    · rw [if_neg (by omega), if_pos ⟨p3, rfl⟩]
      have hp : pre D = tick D := hpre (D'' := { pre D with S := upd (pre D).S x.F.toNat (((pre D).S x.F.toNat).extract 0 x.N.toNat), L := upd (pre D).L x.F.toNat (min ((pre D).L x.F.toNat) x.N.toNat) }) rfl hn
      have hF := (may_zero h1).2
      intro i hi
      simp only [hp, tick_S, tick_L]
      by_cases ei : i = x.F.toNat
      · subst ei
        have h2 := h _ hi
        have hl := (hok.1 _ hi).1
        rw [upd_same, upd_same]
        have e3 : cutB ((D.S x.F.toNat).extract 0 x.N.toNat) (min (D.L x.F.toNat) x.N.toNat) = cutB (D.S x.F.toNat) (min (D.L x.F.toNat) x.N.toNat) := by
          show cutB (cutB _ _) _ = _
          rw [cut_cut]; congr 1; omega
        rw [e3]
        split
        · rename_i hlt
          rw [upd_same, h2, cut_cut]; congr 1; omega
        · rename_i hlt
          rw [h2] at hlt ⊢
          rw [cut_size] at hlt
          congr 1; omega
      · rw [upd_ne _ _ ei, upd_ne _ _ ei]
        split
        · rw [upd_ne _ _ ei]; exact h i hi
        · exact h i hi
  rw [if_neg p3] at *
  by_cases p4 : pickI x.Do = 4
  · rw [if_pos p4] at *
    rcases turn_cases D x.F x.G with ⟨e, h1⟩ | ⟨c, hc, e, h1⟩ | ⟨e, h1, hfg, hfull⟩ <;> rw [e] at hn ⊢
    · rw [if_neg (by omega), if_neg (by omega), if_neg (fun h => h1 h.2)]
      have hp := hpre rfl hn
      exact h.congr (by rw [hp, tick_S]) (by rw [hp, tick_L])
    · rw [if_neg (by omega), if_neg (by omega), if_neg (fun h => hc h.2)]
      have hp := hpre rfl hn
      exact h.congr (by rw [hp, tick_S]) (by rw [hp, tick_L])
    · rw [if_neg (by omega), if_neg (by omega), if_pos ⟨p4, rfl⟩]
      have hp : pre D = tick D := hpre (D'' := { pre D with S := upd (upd (pre D).S x.F.toNat ((pre D).S x.G.toNat)) x.G.toNat ⟨#[]⟩, L := upd (upd (pre D).L x.F.toNat ((pre D).L x.G.toNat)) x.G.toNat 0 }) rfl hn
      have hF := (may2_zero h1).2
      intro i hi
      simp only [hp, tick_S, tick_L]
      by_cases ei : i = x.G.toNat
      · subst ei; rw [upd_same, upd_same, upd_same]; rfl
      · rw [upd_ne _ _ ei, upd_ne _ _ ei, upd_ne _ _ ei]
        by_cases ej : i = x.F.toNat
        · subst ej; rw [upd_same, upd_same, upd_same]; exact h _ (by omega)
        · rw [upd_ne _ _ ej, upd_ne _ _ ej, upd_ne _ _ ej]; exact h i hi
  rw [if_neg p4] at *
  rw [if_neg (c := pickI x.Do = 2 ∧ _) (fun h => p2 h.1), if_neg (c := pickI x.Do = 3 ∧ _) (fun h => p3 h.1), if_neg (c := pickI x.Do = 4 ∧ _) (fun h => p4 h.1)]
  by_cases p5 : pickI x.Do = 5
  · rw [if_pos p5] at *
    cases hd : D.down
    · exact (hn ⟨hd, crash_down _ _⟩).elim
    · exact h.congr (by simp [crash, hd]) (by simp [crash, hd])
  rw [if_neg p5] at *
  by_cases p6 : pickI x.Do = 6
  · rw [if_pos p6]; exact h
  rw [if_neg p6]
  by_cases p7 : pickI x.Do = 7
  · rw [if_pos p7]; exact h
  rw [if_neg p7]
  by_cases p8 : pickI x.Do = 8
  · rw [if_pos p8]; exact h
  rw [if_neg p8]
  by_cases p10 : pickI x.Do = 10
  · rw [if_pos p10]; exact h
  rw [if_neg p10]; exact h
theorem pre_zero {D : St} {f : Int} (h : may (pre D) f = 0) : D.down = false ∧ pre D = tick D ∧ 0 ≤ f ∧ f < 8 := by
  obtain ⟨h1, h2⟩ := may_zero h
  cases he : endsB D
  · have hp := pre_no he
    rw [hp, tick_down] at h1; exact ⟨h1, hp, h2⟩
  · rw [pre_yes he, crash_down] at h1; cases h1
theorem pre_zero2 {D : St} {f g : Int} (h : may2 (pre D) f g = 0) : D.down = false ∧ pre D = tick D ∧ (0 ≤ f ∧ f < 8) ∧ (0 ≤ g ∧ g < 8) := by
  obtain ⟨h1, h2⟩ := may2_zero h
  cases he : endsB D
  · have hp := pre_no he
    rw [hp, tick_down] at h1; exact ⟨h1, hp, h2⟩
  · rw [pre_yes he, crash_down] at h1; cases h1
theorem ok_flush {D : St} {x : ActD} (h : pickI x.Do = 2 ∧ (doA D x).1.2 = 0) : D.down = false ∧ (doA D x).2.down = false ∧ 0 ≤ x.F ∧ x.F < 8 := by
  obtain ⟨h1, h2⟩ := h
  unfold doA at *
  rw [if_neg (by omega), if_pos h1] at *
  rcases flush_cases D x.F with ⟨e, h3⟩ | ⟨e, h3⟩ | ⟨e, h3⟩ <;> rw [e] at h2 ⊢
  · exact (h3 h2).elim
  · cases h2
  · obtain ⟨a, b, c, d⟩ := pre_zero h3
    exact ⟨a, by show (pre D).down = false; rw [b, tick_down, a], c, d⟩
theorem ok_cut {D : St} {x : ActD} (h : pickI x.Do = 3 ∧ (doA D x).1.2 = 0) : D.down = false ∧ (doA D x).2.down = false ∧ (0 ≤ x.F ∧ x.F < 8) ∧ 0 ≤ x.N := by
  obtain ⟨h1, h2⟩ := h
  unfold doA at *
  rw [if_neg (by omega), if_neg (by omega), if_pos h1] at *
  rcases cut_cases D x.F x.N with ⟨e, h3⟩ | ⟨e, h3⟩ | ⟨e, h3, h4⟩ <;> rw [e] at h2 ⊢
  · exact (h3 h2).elim
  · cases h2
  · obtain ⟨a, b, c, d⟩ := pre_zero h3
    exact ⟨a, by show (pre D).down = false; rw [b, tick_down, a], ⟨c, d⟩, h4⟩
theorem ok_turn {D : St} {x : ActD} (h : pickI x.Do = 4 ∧ (doA D x).1.2 = 0) : D.down = false ∧ (doA D x).2.down = false ∧ (0 ≤ x.F ∧ x.F < 8) ∧ (0 ≤ x.G ∧ x.G < 8) := by
  obtain ⟨h1, h2⟩ := h
  unfold doA at *
  rw [if_neg (by omega), if_neg (by omega), if_neg (by omega), if_pos h1] at *
  rcases turn_cases D x.F x.G with ⟨e, h3⟩ | ⟨c, hc, e, h3⟩ | ⟨e, h3, h4⟩ <;> rw [e] at h2 ⊢
  · exact (h3 h2).elim
  · exact (hc h2).elim
  · obtain ⟨a, b, c, d⟩ := pre_zero2 h3
    exact ⟨a, by show (pre D).down = false; rw [b, tick_down, a], c, d⟩
theorem read_ok {D : St} {f : Int} (hd : D.down = false) (h0 : 0 ≤ f) (h8 : f < 8) : Dk.read D f = (D.S f.toNat, 0) := by
  unfold Dk.read may; simp [hd, isB, h0, h8]
theorem newS_2 {D : St} {x : ActD} {ss : Nat → ByteArray} (h : pickI x.Do = 2 ∧ (doA D x).1.2 = 0) : newS D x ss = upd ss x.F.toNat ((doA D x).2.S x.F.toNat) := by unfold newS; rw [if_pos h]
theorem newS_3 {D : St} {x : ActD} {ss : Nat → ByteArray} (h : pickI x.Do = 3 ∧ (doA D x).1.2 = 0) : newS D x ss = if x.N < ((ss x.F.toNat).size : Int) then upd ss x.F.toNat (cutB (ss x.F.toNat) x.N.toNat) else ss := by
  unfold newS; rw [if_neg (by omega), if_pos h]
theorem newS_4 {D : St} {x : ActD} {ss : Nat → ByteArray} (h : pickI x.Do = 4 ∧ (doA D x).1.2 = 0) : newS D x ss = upd (upd ss x.F.toNat (ss x.G.toNat)) x.G.toNat ⟨#[]⟩ := by
  unfold newS; rw [if_neg (by omega), if_neg (by omega), if_pos h]
theorem newS_0 {D : St} {x : ActD} {ss : Nat → ByteArray} (h2 : ¬ (pickI x.Do = 2 ∧ (doA D x).1.2 = 0)) (h3 : ¬ (pickI x.Do = 3 ∧ (doA D x).1.2 = 0)) (h4 : ¬ (pickI x.Do = 4 ∧ (doA D x).1.2 = 0)) : newS D x ss = ss := by
  unfold newS; rw [if_neg h2, if_neg h3, if_neg h4]
/-- After a crash each file begins with what is safe. -/
theorem begins_cut {s t : ByteArray} {n : Nat} (hn : n ≤ s.size) (ht : t = cutB s n) : t.size ≤ s.size ∧ s.extract 0 t.size = t := by
  subst ht
  rw [cut_size]
  refine ⟨by omega, ?_⟩
  show cutB s _ = _
  rw [Nat.min_eq_left hn]
theorem crash_S {E : St} {kl : List Int} (hu : E.down = false) (i : Nat) : (crash E kl).S i = cutB (E.S i) (E.L i + kept E kl i) ∧ (crash E kl).L i = E.L i + kept E kl i := by
  unfold crash; rw [hu]; exact ⟨rfl, rfl⟩
theorem fell_begins {D D' E : St} {kl : List Int} (h : Fell D D' E kl) {ss : Nat → ByteArray} (hs : Safe D ss) {i : Nat} (hi : i < 8) : (ss i).size ≤ (D'.S i).size ∧ (D'.S i).extract 0 (ss i).size = ss i := by
  have hl := h.le i hi
  have hk := kept_lt E kl i (by rw [h.L]; exact hl)
  rw [h.eq, (crash_S h.up i).1]
  refine begins_cut (n := D.L i) (by rw [cut_size]; rw [h.L] at *; omega) ?_
  rw [hs i hi, cut_cut, Nat.min_eq_left (by rw [h.L]; omega), h.S i hi]
theorem fell_full {D D' E : St} {kl : List Int} (h : Fell D D' E kl) {i : Nat} (hi : i < 8) : D'.L i = (D'.S i).size := by
  have hl := h.le i hi
  have hk := kept_lt E kl i (by rw [h.L]; exact hl)
  rw [h.eq, (crash_S h.up i).1, (crash_S h.up i).2, cut_size]; omega
/-- Started and crashed again with nothing kept. -/
theorem safe_again {D' : St} (hf : ∀ i, i < 8 → D'.L i = (D'.S i).size) : Safe (crash (start0 D') []) D'.S := fun i hi => by
  have := crash_S (E := start0 D') (kl := []) rfl i
  rw [this.1, this.2, cut_cut]
  show D'.S i = cutB (D'.S i) _
  rw [cut_all _ _ (by have := hf i hi; show _ ≤ min (D'.L i + _) (D'.L i + _); omega)]
theorem final_cut {D : St} {kl : List Int} (hok : D.ok) {ss : Nat → ByteArray} (hs : Safe D ss) (hu : D.down = false) {i : Nat} (hi : i < 8) :
    ((ss i).size ≤ ((crash D kl).S i).size ∧ ((crash D kl).S i).extract 0 (ss i).size = ss i) ∧ ((crash D kl).S i).size ≤ (D.S i).size ∧ (D.S i).extract 0 ((crash D kl).S i).size = (crash D kl).S i := by
  have hl := (hok.1 i hi).1
  have hk := kept_lt D kl i hl
  rw [(crash_S hu i).1]
  refine ⟨begins_cut (n := D.L i) (by rw [cut_size]; omega) ?_, begins_cut (n := D.L i + kept D kl i) hk rfl⟩
  rw [hs i hi, cut_cut, Nat.min_eq_left (by omega)]
end Go.Pw.Dk
