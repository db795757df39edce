/- Helper text of this claim: C6: lemmas and contracts that the proved statement rests on; no conditions of its own. -/
import Derived.Test.YtcnkbpghafhceaaC5
namespace Go.Proofs.Ytcnkbpghafhceaa
open Go.RowKit Go.Pw Go.Pw.Dk
theorem DiskAt.set2 {w : World} {b : Nat} {D : St} (h : DiskAt w b D) (f : Nat) (hf : f < 8) (x : ByteArray) (y : Nat) (yi : Int) (hyi : yi = y) (hx : y ≤ x.size ∧ x.size ≤ 16777216) :
    DiskAt ((w.setCell ⟨b, f * 2, none⟩ (.string x)).setCell ⟨b, f * 2 + 1, none⟩ (.int .i64 yi)) b { D with S := upd D.S f x, L := upd D.L f y } := by
  subst hyi
  have ho := h.ok.1 f hf
  by_cases hl : D.L f ≤ x.size
  · exact (h.setS f hf x ⟨hl, hx.2⟩).setL f hf y (by show y ≤ ((upd D.S f x) f).size; rw [upd_same]; exact hx.1)
  · rw [setCell_comm _ _ _ _ (by omega)]
    exact (h.setL f hf y (by omega)).setS f hf x (by show (upd D.L f y) f ≤ _ ∧ _; rw [upd_same]; exact hx)
theorem may2_zero {D : St} {f g : Int} (h : may2 D f g = 0) : 0 ≤ f ∧ f < 8 ∧ 0 ≤ g ∧ g < 8 := by
  unfold may2 at h
  split at h
  · cases h
  · split at h
    · rename_i h2; simp only [Bool.and_eq_true] at h2; have := isB_of h2.1; have := isB_of h2.2; omega
    · cases h
set_option maxHeartbeats 1000000 in
theorem c_turn0 (b : Nat) (D : St) (f g : Int) (w : World) (h : DiskAt w b D) (he : endsB D = false) :
    Calls Try.prog 13 #[.pointer (some ⟨b, 0, none⟩), .int .i64 f, .int .i64 g] w fun e w' => e = .returned (.int .i64 (turn D f g).1) ∧ DiskAt w' b (turn D f g).2 ∧ Keeps w w' (one_ b) := by
  have ho := pre_ok h.ok
  have H := Lib.hid h; clear h
  have HE := Lib.hid he
  have hp : pre D = tick D := by simp [pre, he]
  have HP := Lib.hid hp; clear hp he
  by_cases hm : may2 (pre D) f g = 0
  · obtain ⟨m2, m3, m4, m5⟩ := may2_zero hm
    have HM := Lib.hid hm
    have hq := ho.1 g.toNat (by omega)
    by_cases hl : f = g
    · have E : turn D f g = (1, pre D) := by unfold turn; dsimp only; rw [if_neg (by simpa using hm), if_pos hl]
      have hl' : (f == g) = true := by simp [hl]
      rw [E]; clear E hm hl
      go_enter Try.func13, Try.ntmps13
      go_wp2_with fail
      with_reducible refine (c_ends _ _ _ H.out).mono ?_
      rintro e w1 ⟨rfl, hd1, hk1⟩
      obtain ⟨kv, hkv, hki⟩ := hd1.keep
      have H1 := Lib.hid hd1; have K1 := Lib.hid hk1; have KI := Lib.hid hki; clear hd1 hk1 hki
      rw [HE.out]
      have H2 : Hid (DiskAt w1 b (pre D)) := by show DiskAt w1 b (pre D); rw [HP.out]; exact H1.out
      have K2 := K1
      clear hkv
      rename World => w2
      have f2 := H2.out.fz; have f3 := H2.out.lt; have f4 := H2.out.s g.toNat (by omega); have f5 := H2.out.l g.toNat (by omega); have f6 := H2.out.s f.toNat (by omega); have f7 := H2.out.l f.toNat (by omega)
      go_wp2_with fail
      with_reducible refine (c_may2 _ _ _ _ _ _ _ H2.out rfl rfl).mono ?_
      rintro e w' ⟨rfl, rfl⟩
      rw [HM.out]
      go_wp2_with (first | (refine wp_region_text rfl (by decide +kernel) ?_) | (refine wpT_plain rfl rfl ?_; intro _ _) | (refine wpT_nil ?_))
      go_ret
      exact ⟨rfl, by repeat (first | with_reducible exact H2.out | with_reducible refine DiskAt.drew ?_ | with_reducible refine DiskAt.alloc ?_ _), by repeat (first | with_reducible exact K2.out | with_reducible refine Keeps.drew ?_ | with_reducible refine Keeps.alloc ?_ _ | with_reducible refine Keeps.set1 ?_ _ _)⟩
    · have hl' : (f == g) = false := by simp [hl]
      by_cases hlt : (pre D).L g.toNat < ((pre D).S g.toNat).size
      · have E : turn D f g = (17, pre D) := by simp [turn, hm, hl, hlt]
        rw [E]; clear E hm hl
        go_enter Try.func13, Try.ntmps13
        go_wp2_with fail
        with_reducible refine (c_ends _ _ _ H.out).mono ?_
        rintro e w1 ⟨rfl, hd1, hk1⟩
        obtain ⟨kv, hkv, hki⟩ := hd1.keep
        have H1 := Lib.hid hd1; have K1 := Lib.hid hk1; have KI := Lib.hid hki; clear hd1 hk1 hki
        rw [HE.out]
        have H2 : Hid (DiskAt w1 b (pre D)) := by show DiskAt w1 b (pre D); rw [HP.out]; exact H1.out
        have K2 := K1
        clear hkv
        rename World => w2
        have f2 := H2.out.fz; have f3 := H2.out.lt; have f4 := H2.out.s g.toNat (by omega); have f5 := H2.out.l g.toNat (by omega); have f6 := H2.out.s f.toNat (by omega); have f7 := H2.out.l f.toNat (by omega)
        go_wp2_with fail
        with_reducible refine (c_may2 _ _ _ _ _ _ _ H2.out rfl rfl).mono ?_
        rintro e w' ⟨rfl, rfl⟩
        rw [HM.out]
        go_wp2_with (first | (refine wp_region_text rfl (by decide +kernel) ?_) | (refine wpT_plain rfl rfl ?_; intro _ _) | (refine wpT_nil ?_))
        go_ret
        exact ⟨rfl, by repeat (first | with_reducible exact H2.out | with_reducible refine DiskAt.drew ?_ | with_reducible refine DiskAt.alloc ?_ _), by repeat (first | with_reducible exact K2.out | with_reducible refine Keeps.drew ?_ | with_reducible refine Keeps.alloc ?_ _ | with_reducible refine Keeps.set1 ?_ _ _)⟩
      · have E : turn D f g = (0, ⟨upd (upd (pre D).S f.toNat ((pre D).S g.toNat)) g.toNat ⟨#[]⟩, upd (upd (pre D).L f.toNat ((pre D).L g.toNat)) g.toNat 0, (pre D).lost, (pre D).down, (pre D).armed, (pre D).kl⟩) := by simp [turn, hm, hl, hlt]
        rw [E]; clear E hm
        have hne : f.toNat * 2 ≠ g.toNat * 2 := by omega
        have hne2 : f.toNat * 2 + 1 ≠ g.toNat * 2 + 1 := by omega
        have hne3 : f.toNat * 2 ≠ g.toNat * 2 + 1 := by omega
        have hne4 : f.toNat * 2 + 1 ≠ g.toNat * 2 := by omega
        clear hl
        go_enter Try.func13, Try.ntmps13
        go_wp2_with fail
        with_reducible refine (c_ends _ _ _ H.out).mono ?_
        rintro e w1 ⟨rfl, hd1, hk1⟩
        obtain ⟨kv, hkv, hki⟩ := hd1.keep
        have H1 := Lib.hid hd1; have K1 := Lib.hid hk1; have KI := Lib.hid hki; clear hd1 hk1 hki
        rw [HE.out]
        have H2 : Hid (DiskAt w1 b (pre D)) := by show DiskAt w1 b (pre D); rw [HP.out]; exact H1.out
        have K2 := K1
        clear hkv
        rename World => w2
        have f2 := H2.out.fz; have f3 := H2.out.lt; have f4 := H2.out.s g.toNat (by omega); have f5 := H2.out.l g.toNat (by omega); have f6 := H2.out.s f.toNat (by omega); have f7 := H2.out.l f.toNat (by omega)
        go_wp2_with fail
        with_reducible refine (c_may2 _ _ _ _ _ _ _ H2.out rfl rfl).mono ?_
        rintro e w' ⟨rfl, rfl⟩
        rw [HM.out]
        have HC := Lib.hid ((H2.out.set2 f.toNat (by omega) ((pre D).S g.toNat) ((pre D).L g.toNat) _ rfl hq).set2 g.toNat (by omega) ⟨#[]⟩ 0 0 rfl ⟨Nat.zero_le _, by decide⟩)
        go_wp2_with (first | (refine wp_region_text rfl (by decide +kernel) ?_) | (refine wpT_plain rfl rfl ?_; intro _ _) | (refine wpT_nil ?_))
        go_ret
        exact ⟨rfl, by repeat (first | with_reducible exact HC.out | with_reducible refine DiskAt.drew ?_ | with_reducible refine DiskAt.alloc ?_ _), by repeat (first | with_reducible exact K2.out | with_reducible refine Keeps.drew ?_ | with_reducible refine Keeps.alloc ?_ _ | with_reducible refine Keeps.set1 ?_ _ _)⟩
  · have E : turn D f g = (may2 (pre D) f g, pre D) := by simp [turn, hm]
    rw [E]; clear E
    have HN := Lib.hid hm
    generalize hM : may2 (pre D) f g = M at hm
    have HM := Lib.hid hM; clear hM
    have hm' : (M == 0) = false := by simp [hm]
    have hm2 : (M != 0) = true := by simp [hm]
    clear hm
    go_enter Try.func13, Try.ntmps13
    go_wp2_with fail
    with_reducible refine (c_ends _ _ _ H.out).mono ?_
    rintro e w1 ⟨rfl, hd1, hk1⟩
    obtain ⟨kv, hkv, hki⟩ := hd1.keep
    have H1 := Lib.hid hd1; have K1 := Lib.hid hk1; have KI := Lib.hid hki; clear hd1 hk1 hki
    rw [HE.out]
    have H2 : Hid (DiskAt w1 b (pre D)) := by show DiskAt w1 b (pre D); rw [HP.out]; exact H1.out
    have K2 := K1
    clear hkv
    rename World => w2
    go_wp2_with fail
    with_reducible refine (c_may2 _ _ _ _ _ _ _ H2.out rfl rfl).mono ?_
    rintro e w' ⟨rfl, rfl⟩
    rw [HM.out]
    go_wp2_with fail
    go_ret
    exact ⟨rfl, H2.out.alloc _, by repeat (first | with_reducible exact K2.out | with_reducible refine Keeps.drew ?_ | with_reducible refine Keeps.alloc ?_ _ | with_reducible refine Keeps.set1 ?_ _ _)⟩
set_option maxHeartbeats 1000000 in
theorem c_turn1 (b : Nat) (D : St) (f g : Int) (w : World) (h : DiskAt w b D) (he : endsB D = true) :
    Calls Try.prog 13 #[.pointer (some ⟨b, 0, none⟩), .int .i64 f, .int .i64 g] w fun e w' => e = .returned (.int .i64 (turn D f g).1) ∧ DiskAt w' b (turn D f g).2 ∧ Keeps w w' (one_ b) := by
  have ho := pre_ok h.ok
  have H := Lib.hid h; clear h
  have HE := Lib.hid he
  have hp : pre D = crash (tick D) (tick D).kl := by simp [pre, he]
  have HP := Lib.hid hp; clear hp he
  by_cases hm : may2 (pre D) f g = 0
  · obtain ⟨m2, m3, m4, m5⟩ := may2_zero hm
    have HM := Lib.hid hm
    have hq := ho.1 g.toNat (by omega)
    by_cases hl : f = g
    · have E : turn D f g = (1, pre D) := by unfold turn; dsimp only; rw [if_neg (by simpa using hm), if_pos hl]
      have hl' : (f == g) = true := by simp [hl]
      rw [E]; clear E hm hl
      go_enter Try.func13, Try.ntmps13
      go_wp2_with fail
      with_reducible refine (c_ends _ _ _ H.out).mono ?_
      rintro e w1 ⟨rfl, hd1, hk1⟩
      obtain ⟨kv, hkv, hki⟩ := hd1.keep
      have H1 := Lib.hid hd1; have K1 := Lib.hid hk1; have KI := Lib.hid hki; clear hd1 hk1 hki
      rw [HE.out]
      go_wp2_with fail
      with_reducible refine (c_crash b (tick D) kv (tick D).kl _ H1.out KI.out).mono ?_
      rintro e w2 ⟨rfl, hd2, hk2⟩
      have H2 : Hid (DiskAt w2 b (pre D)) := by show DiskAt w2 b (pre D); rw [HP.out]; exact hd2
      have K2 := Lib.hid (Keeps.trans' K1.out hk2)
      clear hd2 hk2 hkv
      have f2 := H2.out.fz; have f3 := H2.out.lt; have f4 := H2.out.s g.toNat (by omega); have f5 := H2.out.l g.toNat (by omega); have f6 := H2.out.s f.toNat (by omega); have f7 := H2.out.l f.toNat (by omega)
      go_wp2_with fail
      with_reducible refine (c_may2 _ _ _ _ _ _ _ H2.out rfl rfl).mono ?_
      rintro e w' ⟨rfl, rfl⟩
      rw [HM.out]
      go_wp2_with (first | (refine wp_region_text rfl (by decide +kernel) ?_) | (refine wpT_plain rfl rfl ?_; intro _ _) | (refine wpT_nil ?_))
      go_ret
      exact ⟨rfl, by repeat (first | with_reducible exact H2.out | with_reducible refine DiskAt.drew ?_ | with_reducible refine DiskAt.alloc ?_ _), by repeat (first | with_reducible exact K2.out | with_reducible refine Keeps.drew ?_ | with_reducible refine Keeps.alloc ?_ _ | with_reducible refine Keeps.set1 ?_ _ _)⟩
    · have hl' : (f == g) = false := by simp [hl]
      by_cases hlt : (pre D).L g.toNat < ((pre D).S g.toNat).size
      · have E : turn D f g = (17, pre D) := by simp [turn, hm, hl, hlt]
        rw [E]; clear E hm hl
        go_enter Try.func13, Try.ntmps13
        go_wp2_with fail
        with_reducible refine (c_ends _ _ _ H.out).mono ?_
        rintro e w1 ⟨rfl, hd1, hk1⟩
        obtain ⟨kv, hkv, hki⟩ := hd1.keep
        have H1 := Lib.hid hd1; have K1 := Lib.hid hk1; have KI := Lib.hid hki; clear hd1 hk1 hki
        rw [HE.out]
        go_wp2_with fail
        with_reducible refine (c_crash b (tick D) kv (tick D).kl _ H1.out KI.out).mono ?_
        rintro e w2 ⟨rfl, hd2, hk2⟩
        have H2 : Hid (DiskAt w2 b (pre D)) := by show DiskAt w2 b (pre D); rw [HP.out]; exact hd2
        have K2 := Lib.hid (Keeps.trans' K1.out hk2)
        clear hd2 hk2 hkv
        have f2 := H2.out.fz; have f3 := H2.out.lt; have f4 := H2.out.s g.toNat (by omega); have f5 := H2.out.l g.toNat (by omega); have f6 := H2.out.s f.toNat (by omega); have f7 := H2.out.l f.toNat (by omega)
        go_wp2_with fail
        with_reducible refine (c_may2 _ _ _ _ _ _ _ H2.out rfl rfl).mono ?_
        rintro e w' ⟨rfl, rfl⟩
        rw [HM.out]
        go_wp2_with (first | (refine wp_region_text rfl (by decide +kernel) ?_) | (refine wpT_plain rfl rfl ?_; intro _ _) | (refine wpT_nil ?_))
        go_ret
        exact ⟨rfl, by repeat (first | with_reducible exact H2.out | with_reducible refine DiskAt.drew ?_ | with_reducible refine DiskAt.alloc ?_ _), by repeat (first | with_reducible exact K2.out | with_reducible refine Keeps.drew ?_ | with_reducible refine Keeps.alloc ?_ _ | with_reducible refine Keeps.set1 ?_ _ _)⟩
      · have E : turn D f g = (0, ⟨upd (upd (pre D).S f.toNat ((pre D).S g.toNat)) g.toNat ⟨#[]⟩, upd (upd (pre D).L f.toNat ((pre D).L g.toNat)) g.toNat 0, (pre D).lost, (pre D).down, (pre D).armed, (pre D).kl⟩) := by simp [turn, hm, hl, hlt]
        rw [E]; clear E hm
        have hne : f.toNat * 2 ≠ g.toNat * 2 := by omega
        have hne2 : f.toNat * 2 + 1 ≠ g.toNat * 2 + 1 := by omega
        have hne3 : f.toNat * 2 ≠ g.toNat * 2 + 1 := by omega
        have hne4 : f.toNat * 2 + 1 ≠ g.toNat * 2 := by omega
        clear hl
        go_enter Try.func13, Try.ntmps13
        go_wp2_with fail
        with_reducible refine (c_ends _ _ _ H.out).mono ?_
        rintro e w1 ⟨rfl, hd1, hk1⟩
        obtain ⟨kv, hkv, hki⟩ := hd1.keep
        have H1 := Lib.hid hd1; have K1 := Lib.hid hk1; have KI := Lib.hid hki; clear hd1 hk1 hki
        rw [HE.out]
        go_wp2_with fail
        with_reducible refine (c_crash b (tick D) kv (tick D).kl _ H1.out KI.out).mono ?_
        rintro e w2 ⟨rfl, hd2, hk2⟩
        have H2 : Hid (DiskAt w2 b (pre D)) := by show DiskAt w2 b (pre D); rw [HP.out]; exact hd2
        have K2 := Lib.hid (Keeps.trans' K1.out hk2)
        clear hd2 hk2 hkv
        have f2 := H2.out.fz; have f3 := H2.out.lt; have f4 := H2.out.s g.toNat (by omega); have f5 := H2.out.l g.toNat (by omega); have f6 := H2.out.s f.toNat (by omega); have f7 := H2.out.l f.toNat (by omega)
        go_wp2_with fail
        with_reducible refine (c_may2 _ _ _ _ _ _ _ H2.out rfl rfl).mono ?_
        rintro e w' ⟨rfl, rfl⟩
        rw [HM.out]
        have HC := Lib.hid ((H2.out.set2 f.toNat (by omega) ((pre D).S g.toNat) ((pre D).L g.toNat) _ rfl hq).set2 g.toNat (by omega) ⟨#[]⟩ 0 0 rfl ⟨Nat.zero_le _, by decide⟩)
        go_wp2_with (first | (refine wp_region_text rfl (by decide +kernel) ?_) | (refine wpT_plain rfl rfl ?_; intro _ _) | (refine wpT_nil ?_))
        go_ret
        exact ⟨rfl, by repeat (first | with_reducible exact HC.out | with_reducible refine DiskAt.drew ?_ | with_reducible refine DiskAt.alloc ?_ _), by repeat (first | with_reducible exact K2.out | with_reducible refine Keeps.drew ?_ | with_reducible refine Keeps.alloc ?_ _ | with_reducible refine Keeps.set1 ?_ _ _)⟩
  · have E : turn D f g = (may2 (pre D) f g, pre D) := by simp [turn, hm]
    rw [E]; clear E
    have HN := Lib.hid hm
    generalize hM : may2 (pre D) f g = M at hm
    have HM := Lib.hid hM; clear hM
    have hm' : (M == 0) = false := by simp [hm]
    have hm2 : (M != 0) = true := by simp [hm]
    clear hm
    go_enter Try.func13, Try.ntmps13
    go_wp2_with fail
    with_reducible refine (c_ends _ _ _ H.out).mono ?_
    rintro e w1 ⟨rfl, hd1, hk1⟩
    obtain ⟨kv, hkv, hki⟩ := hd1.keep
    have H1 := Lib.hid hd1; have K1 := Lib.hid hk1; have KI := Lib.hid hki; clear hd1 hk1 hki
    rw [HE.out]
    go_wp2_with fail
    with_reducible refine (c_crash b (tick D) kv (tick D).kl _ H1.out KI.out).mono ?_
    rintro e w2 ⟨rfl, hd2, hk2⟩
    have H2 : Hid (DiskAt w2 b (pre D)) := by show DiskAt w2 b (pre D); rw [HP.out]; exact hd2
    have K2 := Lib.hid (Keeps.trans' K1.out hk2)
    clear hd2 hk2 hkv
    go_wp2_with fail
    with_reducible refine (c_may2 _ _ _ _ _ _ _ H2.out rfl rfl).mono ?_
    rintro e w' ⟨rfl, rfl⟩
    rw [HM.out]
    go_wp2_with fail
    go_ret
    exact ⟨rfl, H2.out.alloc _, by repeat (first | with_reducible exact K2.out | with_reducible refine Keeps.drew ?_ | with_reducible refine Keeps.alloc ?_ _ | with_reducible refine Keeps.set1 ?_ _ _)⟩
theorem c_turn (b : Nat) (D : St) (f g : Int) (w : World) (h : DiskAt w b D) :
    Calls Try.prog 13 #[.pointer (some ⟨b, 0, none⟩), .int .i64 f, .int .i64 g] w fun e w' => e = .returned (.int .i64 (turn D f g).1) ∧ DiskAt w' b (turn D f g).2 ∧ Keeps w w' (one_ b) := by
  cases he : endsB D
  · exact c_turn0 b D f g  w h he
  · exact c_turn1 b D f g  w h he

theorem c_read (b : Nat) (D : St) (f : Int) (w : World) (h : DiskAt w b D) :
    Calls Try.prog 16 #[.pointer (some ⟨b, 0, none⟩), .int .i64 f] w fun e w' => e = .returned (.tuple #[.string (Dk.read D f).1, .int .i64 (Dk.read D f).2]) ∧ Keeps w w' none_ := by
  have H2 := Lib.hid h
  by_cases hm : may D f = 0
  · obtain ⟨m1, m2, m3⟩ := may_zero hm
    have E : Dk.read D f = (D.S f.toNat, 0) := by simp [Dk.read, hm]
    rw [E]; clear E m1
    have HM := Lib.hid hm; clear hm
    have f2 := h.fz; have f3 := h.lt; have f4 := h.s f.toNat (by omega); clear h
    go_enter Try.func16, Try.ntmps16
    go_wp2_with fail
    with_reducible refine (c_may1 _ _ _ _ _ _ H2.out rfl rfl).mono ?_
    rintro e w' ⟨rfl, rfl⟩
    rw [HM.out]
    go_wp2_with (first | (refine wp_region_text rfl (by decide +kernel) ?_) | (refine wpT_plain rfl rfl ?_; intro _ _) | (refine wpT_nil ?_))
    go_ret2
    exact ⟨rfl, by repeat (first | with_reducible exact Keeps.refl _ _ | with_reducible refine Keeps.drew ?_ | with_reducible refine Keeps.alloc ?_ _)⟩
  · have E : Dk.read D f = (ByteArray.empty, may D f) := by simp [Dk.read, hm]
    rw [E]; clear E
    have HN := Lib.hid hm
    generalize hM : may D f = M at hm
    have HM := Lib.hid hM; clear hM h
    have hm' : (M == 0) = false := by simp [hm]
    have hm2 : (M != 0) = true := by simp [hm]
    clear hm
    go_enter Try.func16, Try.ntmps16
    go_wp2_with fail
    with_reducible refine (c_may1 _ _ _ _ _ _ H2.out rfl rfl).mono ?_
    rintro e w' ⟨rfl, rfl⟩
    rw [HM.out]
    go_wp2_with (first | (refine wp_region_text rfl (by decide +kernel) ?_) | (refine wpT_plain rfl rfl ?_; intro _ _) | (refine wpT_nil ?_))
    go_ret2
    exact ⟨rfl, by repeat (first | with_reducible exact Keeps.refl _ _ | with_reducible refine Keeps.drew ?_ | with_reducible refine Keeps.alloc ?_ _)⟩
theorem c_new (w : World) :
    Calls Try.prog 10 #[] w fun e w' => e = .returned (.pointer (some ⟨w.heap.size, 0, none⟩)) ∧ DiskAt w' w.heap.size Dk.new ∧ Keeps w w' none_ := by
  go_enter Try.func10, Try.ntmps10
  go_wp2
  go_ret
  refine ⟨rfl, ?_, (Keeps.refl _ _).alloc _⟩
  refine ⟨shape_new _ _ _ _, fun i => by rw [World.frozen?_alloc_new], fun i hi => ?_, fun i hi => ?_, by simp [Dk.new], by simp [Dk.new], by simp [Dk.new], ⟨.slice none 0 0, by simp, .inl ⟨rfl, rfl⟩⟩, ⟨fun i _ => by simp [Dk.new], by simp [Dk.new], by simp [Dk.new], by simp [Dk.new], by simp [Dk.new]⟩⟩
  · rcases i with _ | _ | _ | _ | _ | _ | _ | _ | i <;> first | omega | (simp [Dk.new]; done) | (simp [Dk.new]; rfl)
  · rcases i with _ | _ | _ | _ | _ | _ | _ | _ | i <;> first | omega | simp [Dk.new]
end Go.Proofs.Ytcnkbpghafhceaa
