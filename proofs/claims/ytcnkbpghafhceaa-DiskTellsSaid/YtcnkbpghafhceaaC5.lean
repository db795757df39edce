/- Helper text of this claim: C5: lemmas and contracts that the proved statement rests on; no conditions of its own. -/
import Derived.Test.YtcnkbpghafhceaaC4
namespace Go.Proofs.Ytcnkbpghafhceaa
open Go.RowKit Go.Pw Go.Pw.Dk
theorem setCell_comm (w : World) (b i j : Nat) (hij : i ≠ j) (u v : Value) : (w.setCell ⟨b, i, none⟩ u).setCell ⟨b, j, none⟩ v = (w.setCell ⟨b, j, none⟩ v).setCell ⟨b, i, none⟩ u := by
  unfold World.setCell
  congr 1
  refine Array.ext_getElem? fun k => ?_
  simp only [Array.getElem?_modify]
  split
  · cases w.heap[k]? with
    | none => rfl
    | some o => cases o <;> simp [Array.setIfInBounds_comm _ _ hij]
  · rfl
theorem cut_step {w : World} {b : Nat} {D : St} (h : DiskAt w b D) (f n : Nat) (hf : f < 8) (hn : n ≤ (D.S f).size) (x : Int) (hx : x = ((min (D.L f) n : Nat) : Int)) :
    DiskAt ((w.setCell ⟨b, f * 2, none⟩ (.string ((D.S f).extract 0 n))).setCell ⟨b, f * 2 + 1, none⟩ (.int .i64 x)) b { D with S := upd D.S f ((D.S f).extract 0 n), L := upd D.L f (min (D.L f) n) } := by
  subst hx
  have ho := h.ok.1 f hf
  rw [setCell_comm _ _ _ _ (by omega)]
  have hsz : ((D.S f).extract 0 n).size = n := by rw [ByteArray.size_extract]; omega
  exact (h.setL f hf (min (D.L f) n) (by omega)).setS f hf ((D.S f).extract 0 n) (by
    show (upd D.L f (min (D.L f) n)) f ≤ _ ∧ _
    rw [upd_same, hsz]; omega)
set_option maxHeartbeats 1000000 in
theorem c_flush0 (b : Nat) (D : St) (f : Int) (w : World) (h : DiskAt w b D) (he : endsB D = false) :
    Calls Try.prog 12 #[.pointer (some ⟨b, 0, none⟩), .int .i64 f] w fun e w' => e = .returned (.int .i64 (flush D f).1) ∧ DiskAt w' b (flush D f).2 ∧ Keeps w w' (one_ b) := by
  have ho := pre_ok h.ok
  have H := Lib.hid h; clear h
  have HE := Lib.hid he
  have hp : pre D = tick D := by simp [pre, he]
  have HP := Lib.hid hp; clear hp he
  by_cases hm : may (pre D) f = 0
  · obtain ⟨m1, m2, m3⟩ := may_zero hm
    have HM := Lib.hid hm
    by_cases hl : 0 < (pre D).lost
    · have E : flush D f = (14, { pre D with lost := (pre D).lost - 1 }) := by simp [flush, hm, hl]
      rw [E]; clear E hm m1
      obtain ⟨_, _, q1, _⟩ := ho
      go_enter Try.func12, Try.ntmps12
      go_wp2_with fail
      with_reducible refine (c_ends _ _ _ H.out).mono ?_
      rintro e w1 ⟨rfl, hd1, hk1⟩
      obtain ⟨kv, hkv, hki⟩ := hd1.keep
      have H1 := Lib.hid hd1; have K1 := Lib.hid hk1; have KI := Lib.hid hki; clear hd1 hk1 hki
      rw [HE.out]
      have H2 : Hid (DiskAt w1 b (pre D)) := by show DiskAt w1 b (pre D); rw [HP.out]; exact H1.out
      have K2 := K1
      clear hkv
      rename World => w2
      have f1 := H2.out.lost; have f2 := H2.out.fz; have f3 := H2.out.lt
      go_wp2_with fail
      with_reducible refine (c_may1 _ _ _ _ _ _ H2.out rfl rfl).mono ?_
      rintro e w' ⟨rfl, rfl⟩
      rw [HM.out]
      have HC := Lib.hid (H2.out.setLost ((pre D).lost - 1) (by omega) (by omega))
      go_wp2_with (first | (refine wp_region_text rfl (by decide +kernel) ?_) | (refine wpT_plain rfl rfl ?_; intro _ _) | (refine wpT_nil ?_))
      go_ret
      exact ⟨rfl, by repeat (first | with_reducible exact HC.out | with_reducible refine DiskAt.drew ?_ | with_reducible refine DiskAt.alloc ?_ _), by repeat (first | with_reducible exact K2.out | with_reducible refine Keeps.drew ?_ | with_reducible refine Keeps.alloc ?_ _ | with_reducible refine Keeps.set1 ?_ _ _)⟩
    · have E : flush D f = (0, { pre D with L := upd (pre D).L f.toNat ((pre D).S f.toNat).size }) := by simp [flush, hm, hl]
      rw [E]; clear E hm m1
      have hz : sizeI (pre D) f = ((pre D).S f.toNat).size := by simp [sizeI, isB, m2, m3]
      have HZ := Lib.hid hz; clear hz
      go_enter Try.func12, Try.ntmps12
      go_wp2_with fail
      with_reducible refine (c_ends _ _ _ H.out).mono ?_
      rintro e w1 ⟨rfl, hd1, hk1⟩
      obtain ⟨kv, hkv, hki⟩ := hd1.keep
      have H1 := Lib.hid hd1; have K1 := Lib.hid hk1; have KI := Lib.hid hki; clear hd1 hk1 hki
      rw [HE.out]
      have H2 : Hid (DiskAt w1 b (pre D)) := by show DiskAt w1 b (pre D); rw [HP.out]; exact H1.out
      have K2 := K1
      clear hkv
      rename World => w2
      have f1 := H2.out.lost; have f2 := H2.out.fz; have f3 := H2.out.lt; have f4 := H2.out.l f.toNat (by omega)
      go_wp2_with fail
      with_reducible refine (c_may1 _ _ _ _ _ _ H2.out rfl rfl).mono ?_
      rintro e w' ⟨rfl, rfl⟩
      rw [HM.out]
      have HC := Lib.hid (H2.out.setL f.toNat (by omega) ((pre D).S f.toNat).size (Nat.le_refl _))
      go_wp2_with (first | (go_at_call 17; with_reducible refine (c_size b (pre D) f _ (by repeat (first | with_reducible exact H2.out | with_reducible refine DiskAt.drew ?_ | with_reducible refine DiskAt.alloc ?_ _))).mono ?_; rintro e w' ⟨rfl, rfl⟩; rw [HZ.out]) | (first | (refine wp_region_text rfl (by decide +kernel) ?_) | (refine wpT_plain rfl rfl ?_; intro _ _) | (refine wpT_nil ?_)))
      go_ret
      exact ⟨rfl, by repeat (first | with_reducible exact HC.out | with_reducible refine DiskAt.drew ?_ | with_reducible refine DiskAt.alloc ?_ _), by repeat (first | with_reducible exact K2.out | with_reducible refine Keeps.drew ?_ | with_reducible refine Keeps.alloc ?_ _ | with_reducible refine Keeps.set1 ?_ _ _)⟩
  · have E : flush D f = (may (pre D) f, pre D) := by simp [flush, hm]
    rw [E]; clear E
    have HN := Lib.hid hm
    generalize hM : may (pre D) f = M at hm
    have HM := Lib.hid hM; clear hM
    have hm' : (M == 0) = false := by simp [hm]
    have hm2 : (M != 0) = true := by simp [hm]
    clear hm
    go_enter Try.func12, Try.ntmps12
    go_wp2_with fail
    with_reducible refine (c_ends _ _ _ H.out).mono ?_
    rintro e w1 ⟨rfl, hd1, hk1⟩
    obtain ⟨kv, hkv, hki⟩ := hd1.keep
    have H1 := Lib.hid hd1; have K1 := Lib.hid hk1; have KI := Lib.hid hki; clear hd1 hk1 hki
    rw [HE.out]
    have H2 : Hid (DiskAt w1 b (pre D)) := by show DiskAt w1 b (pre D); rw [HP.out]; exact H1.out
    have K2 := K1
    clear hkv
    rename World => w2
    go_wp2_with fail
    with_reducible refine (c_may1 _ _ _ _ _ _ H2.out rfl rfl).mono ?_
    rintro e w' ⟨rfl, rfl⟩
    rw [HM.out]
    go_wp2_with fail
    go_ret
    exact ⟨rfl, H2.out.alloc _, by repeat (first | with_reducible exact K2.out | with_reducible refine Keeps.drew ?_ | with_reducible refine Keeps.alloc ?_ _ | with_reducible refine Keeps.set1 ?_ _ _)⟩
set_option maxHeartbeats 1000000 in
theorem c_flush1 (b : Nat) (D : St) (f : Int) (w : World) (h : DiskAt w b D) (he : endsB D = true) :
    Calls Try.prog 12 #[.pointer (some ⟨b, 0, none⟩), .int .i64 f] w fun e w' => e = .returned (.int .i64 (flush D f).1) ∧ DiskAt w' b (flush D f).2 ∧ Keeps w w' (one_ b) := by
  have ho := pre_ok h.ok
  have H := Lib.hid h; clear h
  have HE := Lib.hid he
  have hp : pre D = crash (tick D) (tick D).kl := by simp [pre, he]
  have HP := Lib.hid hp; clear hp he
  by_cases hm : may (pre D) f = 0
  · obtain ⟨m1, m2, m3⟩ := may_zero hm
    have HM := Lib.hid hm
    by_cases hl : 0 < (pre D).lost
    · have E : flush D f = (14, { pre D with lost := (pre D).lost - 1 }) := by simp [flush, hm, hl]
      rw [E]; clear E hm m1
      obtain ⟨_, _, q1, _⟩ := ho
      go_enter Try.func12, Try.ntmps12
      go_wp2_with fail
      with_reducible refine (c_ends _ _ _ H.out).mono ?_
      rintro e w1 ⟨rfl, hd1, hk1⟩
      obtain ⟨kv, hkv, hki⟩ := hd1.keep
      have H1 := Lib.hid hd1; have K1 := Lib.hid hk1; have KI := Lib.hid hki; clear hd1 hk1 hki
      rw [HE.out]
      go_wp2_with fail
      with_reducible refine (c_crash b (tick D) kv (tick D).kl _ H1.out KI.out).mono ?_
      rintro e w2 ⟨rfl, hd2, hk2⟩
      have H2 : Hid (DiskAt w2 b (pre D)) := by show DiskAt w2 b (pre D); rw [HP.out]; exact hd2
      have K2 := Lib.hid (Keeps.trans' K1.out hk2)
      clear hd2 hk2 hkv
      have f1 := H2.out.lost; have f2 := H2.out.fz; have f3 := H2.out.lt
      go_wp2_with fail
      with_reducible refine (c_may1 _ _ _ _ _ _ H2.out rfl rfl).mono ?_
      rintro e w' ⟨rfl, rfl⟩
      rw [HM.out]
      have HC := Lib.hid (H2.out.setLost ((pre D).lost - 1) (by omega) (by omega))
      go_wp2_with (first | (refine wp_region_text rfl (by decide +kernel) ?_) | (refine wpT_plain rfl rfl ?_; intro _ _) | (refine wpT_nil ?_))
      go_ret
      exact ⟨rfl, by repeat (first | with_reducible exact HC.out | with_reducible refine DiskAt.drew ?_ | with_reducible refine DiskAt.alloc ?_ _), by repeat (first | with_reducible exact K2.out | with_reducible refine Keeps.drew ?_ | with_reducible refine Keeps.alloc ?_ _ | with_reducible refine Keeps.set1 ?_ _ _)⟩
    · have E : flush D f = (0, { pre D with L := upd (pre D).L f.toNat ((pre D).S f.toNat).size }) := by simp [flush, hm, hl]
      rw [E]; clear E hm m1
      have hz : sizeI (pre D) f = ((pre D).S f.toNat).size := by simp [sizeI, isB, m2, m3]
      have HZ := Lib.hid hz; clear hz
      go_enter Try.func12, Try.ntmps12
      go_wp2_with fail
      with_reducible refine (c_ends _ _ _ H.out).mono ?_
      rintro e w1 ⟨rfl, hd1, hk1⟩
      obtain ⟨kv, hkv, hki⟩ := hd1.keep
      have H1 := Lib.hid hd1; have K1 := Lib.hid hk1; have KI := Lib.hid hki; clear hd1 hk1 hki
      rw [HE.out]
      go_wp2_with fail
      with_reducible refine (c_crash b (tick D) kv (tick D).kl _ H1.out KI.out).mono ?_
      rintro e w2 ⟨rfl, hd2, hk2⟩
      have H2 : Hid (DiskAt w2 b (pre D)) := by show DiskAt w2 b (pre D); rw [HP.out]; exact hd2
      have K2 := Lib.hid (Keeps.trans' K1.out hk2)
      clear hd2 hk2 hkv
      have f1 := H2.out.lost; have f2 := H2.out.fz; have f3 := H2.out.lt; have f4 := H2.out.l f.toNat (by omega)
      go_wp2_with fail
      with_reducible refine (c_may1 _ _ _ _ _ _ H2.out rfl rfl).mono ?_
      rintro e w' ⟨rfl, rfl⟩
      rw [HM.out]
      have HC := Lib.hid (H2.out.setL f.toNat (by omega) ((pre D).S f.toNat).size (Nat.le_refl _))
      go_wp2_with (first | (go_at_call 17; with_reducible refine (c_size b (pre D) f _ (by repeat (first | with_reducible exact H2.out | with_reducible refine DiskAt.drew ?_ | with_reducible refine DiskAt.alloc ?_ _))).mono ?_; rintro e w' ⟨rfl, rfl⟩; rw [HZ.out]) | (first | (refine wp_region_text rfl (by decide +kernel) ?_) | (refine wpT_plain rfl rfl ?_; intro _ _) | (refine wpT_nil ?_)))
      go_ret
      exact ⟨rfl, by repeat (first | with_reducible exact HC.out | with_reducible refine DiskAt.drew ?_ | with_reducible refine DiskAt.alloc ?_ _), by repeat (first | with_reducible exact K2.out | with_reducible refine Keeps.drew ?_ | with_reducible refine Keeps.alloc ?_ _ | with_reducible refine Keeps.set1 ?_ _ _)⟩
  · have E : flush D f = (may (pre D) f, pre D) := by simp [flush, hm]
    rw [E]; clear E
    have HN := Lib.hid hm
    generalize hM : may (pre D) f = M at hm
    have HM := Lib.hid hM; clear hM
    have hm' : (M == 0) = false := by simp [hm]
    have hm2 : (M != 0) = true := by simp [hm]
    clear hm
    go_enter Try.func12, Try.ntmps12
    go_wp2_with fail
    with_reducible refine (c_ends _ _ _ H.out).mono ?_
    rintro e w1 ⟨rfl, hd1, hk1⟩
    obtain ⟨kv, hkv, hki⟩ := hd1.keep
    have H1 := Lib.hid hd1; have K1 := Lib.hid hk1; have KI := Lib.hid hki; clear hd1 hk1 hki
    rw [HE.out]
    go_wp2_with fail
    with_reducible refine (c_crash b (tick D) kv (tick D).kl _ H1.out KI.out).mono ?_
    rintro e w2 ⟨rfl, hd2, hk2⟩
    have H2 : Hid (DiskAt w2 b (pre D)) := by show DiskAt w2 b (pre D); rw [HP.out]; exact hd2
    have K2 := Lib.hid (Keeps.trans' K1.out hk2)
    clear hd2 hk2 hkv
    go_wp2_with fail
    with_reducible refine (c_may1 _ _ _ _ _ _ H2.out rfl rfl).mono ?_
    rintro e w' ⟨rfl, rfl⟩
    rw [HM.out]
    go_wp2_with fail
    go_ret
    exact ⟨rfl, H2.out.alloc _, by repeat (first | with_reducible exact K2.out | with_reducible refine Keeps.drew ?_ | with_reducible refine Keeps.alloc ?_ _ | with_reducible refine Keeps.set1 ?_ _ _)⟩
theorem c_flush (b : Nat) (D : St) (f : Int) (w : World) (h : DiskAt w b D) :
    Calls Try.prog 12 #[.pointer (some ⟨b, 0, none⟩), .int .i64 f] w fun e w' => e = .returned (.int .i64 (flush D f).1) ∧ DiskAt w' b (flush D f).2 ∧ Keeps w w' (one_ b) := by
  cases he : endsB D
  · exact c_flush0 b D f  w h he
  · exact c_flush1 b D f  w h he
set_option maxHeartbeats 1000000 in
theorem c_cut0 (b : Nat) (D : St) (f n : Int) (w : World) (h : DiskAt w b D) (he : endsB D = false) :
    Calls Try.prog 33 #[.pointer (some ⟨b, 0, none⟩), .int .i64 f, .int .i64 n] w fun e w' => e = .returned (.int .i64 (cut D f n).1) ∧ DiskAt w' b (cut D f n).2 ∧ Keeps w w' (one_ b) := by
  have ho := pre_ok h.ok
  have H := Lib.hid h; clear h
  have HE := Lib.hid he
  have hp : pre D = tick D := by simp [pre, he]
  have HP := Lib.hid hp; clear hp he
  by_cases hm : may (pre D) f = 0
  · obtain ⟨m1, m2, m3⟩ := may_zero hm
    have HM := Lib.hid hm
    have hq := ho.1 f.toNat (by omega)
    by_cases hl : n < 0
    · have E : cut D f n = (1, pre D) := by simp [cut, hm, hl]
      rw [E]; clear E hm m1
      go_enter Try.func33, Try.ntmps33
      go_wp2_with fail
      with_reducible refine (c_ends _ _ _ H.out).mono ?_
      rintro e w1 ⟨rfl, hd1, hk1⟩
      obtain ⟨kv, hkv, hki⟩ := hd1.keep
      have H1 := Lib.hid hd1; have K1 := Lib.hid hk1; have KI := Lib.hid hki; clear hd1 hk1 hki
      rw [HE.out]
      have H2 : Hid (DiskAt w1 b (pre D)) := by show DiskAt w1 b (pre D); rw [HP.out]; exact H1.out
      have K2 := K1
      clear hkv
      rename World => w2
      have f2 := H2.out.fz; have f3 := H2.out.lt; have f4 := H2.out.s f.toNat (by omega)
      go_wp2_with fail
      with_reducible refine (c_may1 _ _ _ _ _ _ H2.out rfl rfl).mono ?_
      rintro e w' ⟨rfl, rfl⟩
      rw [HM.out]
      go_wp2_with (first | (refine wp_region_text rfl (by decide +kernel) ?_) | (refine wpT_plain rfl rfl ?_; intro _ _) | (refine wpT_nil ?_))
      go_ret
      exact ⟨rfl, H2.out.alloc _, by repeat (first | with_reducible exact K2.out | with_reducible refine Keeps.drew ?_ | with_reducible refine Keeps.alloc ?_ _ | with_reducible refine Keeps.set1 ?_ _ _)⟩
    · have hl' : decide (n < 0) = false := by simpa using hl
      have hl0 : 0 ≤ n := by omega
      by_cases hl2 : ((pre D).S f.toNat).size < n
      · have E : cut D f n = (1, pre D) := by simp [cut, hm, hl2]
        rw [E]; clear E hm m1 hl
        go_enter Try.func33, Try.ntmps33
        go_wp2_with fail
        with_reducible refine (c_ends _ _ _ H.out).mono ?_
        rintro e w1 ⟨rfl, hd1, hk1⟩
        obtain ⟨kv, hkv, hki⟩ := hd1.keep
        have H1 := Lib.hid hd1; have K1 := Lib.hid hk1; have KI := Lib.hid hki; clear hd1 hk1 hki
        rw [HE.out]
        have H2 : Hid (DiskAt w1 b (pre D)) := by show DiskAt w1 b (pre D); rw [HP.out]; exact H1.out
        have K2 := K1
        clear hkv
        rename World => w2
        have f2 := H2.out.fz; have f3 := H2.out.lt; have f4 := H2.out.s f.toNat (by omega)
        go_wp2_with fail
        with_reducible refine (c_may1 _ _ _ _ _ _ H2.out rfl rfl).mono ?_
        rintro e w' ⟨rfl, rfl⟩
        rw [HM.out]
        go_wp2_with (first | (refine wp_region_text rfl (by decide +kernel) ?_) | (refine wpT_plain rfl rfl ?_; intro _ _) | (refine wpT_nil ?_))
        go_ret
        exact ⟨rfl, H2.out.alloc _, by repeat (first | with_reducible exact K2.out | with_reducible refine Keeps.drew ?_ | with_reducible refine Keeps.alloc ?_ _ | with_reducible refine Keeps.set1 ?_ _ _)⟩
      · have E : cut D f n = (0, { pre D with S := upd (pre D).S f.toNat (((pre D).S f.toNat).extract 0 n.toNat), L := upd (pre D).L f.toNat (min ((pre D).L f.toNat) n.toNat) }) := by simp [cut, hm, hl, hl2]
        rw [E]; clear E hm m1 hl
        have hmin : ∀ x : Int, x = ((min ((pre D).L f.toNat) n.toNat : Nat) : Int) → x = ((min ((pre D).L f.toNat) n.toNat : Nat) : Int) := fun _ h => h
        clear hmin
        by_cases hmn : n < (pre D).L f.toNat
        · have hmm : (n) = ((min ((pre D).L f.toNat) n.toNat : Nat) : Int) := by omega
          have HMM := Lib.hid hmm; clear hmm
          go_enter Try.func33, Try.ntmps33
          go_wp2_with fail
          with_reducible refine (c_ends _ _ _ H.out).mono ?_
          rintro e w1 ⟨rfl, hd1, hk1⟩
          obtain ⟨kv, hkv, hki⟩ := hd1.keep
          have H1 := Lib.hid hd1; have K1 := Lib.hid hk1; have KI := Lib.hid hki; clear hd1 hk1 hki
          rw [HE.out]
          have H2 : Hid (DiskAt w1 b (pre D)) := by show DiskAt w1 b (pre D); rw [HP.out]; exact H1.out
          have K2 := K1
          clear hkv
          rename World => w2
          have f2 := H2.out.fz; have f3 := H2.out.lt; have f4 := H2.out.s f.toNat (by omega); have f5 := H2.out.l f.toNat (by omega)
          go_wp2_with fail
          with_reducible refine (c_may1 _ _ _ _ _ _ H2.out rfl rfl).mono ?_
          rintro e w' ⟨rfl, rfl⟩
          rw [HM.out]
          have HC := Lib.hid (cut_step H2.out f.toNat n.toNat (by omega) (by omega) _ HMM.out)
          go_wp2_with (first | (refine wp_region_text rfl (by decide +kernel) ?_) | (refine wpT_plain rfl rfl ?_; intro _ _) | (refine wpT_nil ?_))
          go_ret
          exact ⟨rfl, by repeat (first | with_reducible exact HC.out | with_reducible refine DiskAt.drew ?_ | with_reducible refine DiskAt.alloc ?_ _), by repeat (first | with_reducible exact K2.out | with_reducible refine Keeps.drew ?_ | with_reducible refine Keeps.alloc ?_ _ | with_reducible refine Keeps.set1 ?_ _ _)⟩
        · have hmm : (((pre D).L f.toNat : Int)) = ((min ((pre D).L f.toNat) n.toNat : Nat) : Int) := by omega
          have HMM := Lib.hid hmm; clear hmm
          go_enter Try.func33, Try.ntmps33
          go_wp2_with fail
          with_reducible refine (c_ends _ _ _ H.out).mono ?_
          rintro e w1 ⟨rfl, hd1, hk1⟩
          obtain ⟨kv, hkv, hki⟩ := hd1.keep
          have H1 := Lib.hid hd1; have K1 := Lib.hid hk1; have KI := Lib.hid hki; clear hd1 hk1 hki
          rw [HE.out]
          have H2 : Hid (DiskAt w1 b (pre D)) := by show DiskAt w1 b (pre D); rw [HP.out]; exact H1.out
          have K2 := K1
          clear hkv
          rename World => w2
          have f2 := H2.out.fz; have f3 := H2.out.lt; have f4 := H2.out.s f.toNat (by omega); have f5 := H2.out.l f.toNat (by omega)
          go_wp2_with fail
          with_reducible refine (c_may1 _ _ _ _ _ _ H2.out rfl rfl).mono ?_
          rintro e w' ⟨rfl, rfl⟩
          rw [HM.out]
          have HC := Lib.hid (cut_step H2.out f.toNat n.toNat (by omega) (by omega) _ HMM.out)
          go_wp2_with (first | (refine wp_region_text rfl (by decide +kernel) ?_) | (refine wpT_plain rfl rfl ?_; intro _ _) | (refine wpT_nil ?_))
          go_ret
          exact ⟨rfl, by repeat (first | with_reducible exact HC.out | with_reducible refine DiskAt.drew ?_ | with_reducible refine DiskAt.alloc ?_ _), by repeat (first | with_reducible exact K2.out | with_reducible refine Keeps.drew ?_ | with_reducible refine Keeps.alloc ?_ _ | with_reducible refine Keeps.set1 ?_ _ _)⟩
  · have E : cut D f n = (may (pre D) f, pre D) := by simp [cut, hm]
    rw [E]; clear E
    have HN := Lib.hid hm
    generalize hM : may (pre D) f = M at hm
    have HM := Lib.hid hM; clear hM
    have hm' : (M == 0) = false := by simp [hm]
    have hm2 : (M != 0) = true := by simp [hm]
    clear hm
    go_enter Try.func33, Try.ntmps33
    go_wp2_with fail
    with_reducible refine (c_ends _ _ _ H.out).mono ?_
    rintro e w1 ⟨rfl, hd1, hk1⟩
    obtain ⟨kv, hkv, hki⟩ := hd1.keep
    have H1 := Lib.hid hd1; have K1 := Lib.hid hk1; have KI := Lib.hid hki; clear hd1 hk1 hki
    rw [HE.out]
    have H2 : Hid (DiskAt w1 b (pre D)) := by show DiskAt w1 b (pre D); rw [HP.out]; exact H1.out
    have K2 := K1
    clear hkv
    rename World => w2
    go_wp2_with fail
    with_reducible refine (c_may1 _ _ _ _ _ _ H2.out rfl rfl).mono ?_
    rintro e w' ⟨rfl, rfl⟩
    rw [HM.out]
    go_wp2_with fail
    go_ret
    exact ⟨rfl, H2.out.alloc _, by repeat (first | with_reducible exact K2.out | with_reducible refine Keeps.drew ?_ | with_reducible refine Keeps.alloc ?_ _ | with_reducible refine Keeps.set1 ?_ _ _)⟩
set_option maxHeartbeats 1000000 in
theorem c_cut1 (b : Nat) (D : St) (f n : Int) (w : World) (h : DiskAt w b D) (he : endsB D = true) :
    Calls Try.prog 33 #[.pointer (some ⟨b, 0, none⟩), .int .i64 f, .int .i64 n] w fun e w' => e = .returned (.int .i64 (cut D f n).1) ∧ DiskAt w' b (cut D f n).2 ∧ Keeps w w' (one_ b) := by
  have ho := pre_ok h.ok
  have H := Lib.hid h; clear h
  have HE := Lib.hid he
  have hp : pre D = crash (tick D) (tick D).kl := by simp [pre, he]
  have HP := Lib.hid hp; clear hp he
  by_cases hm : may (pre D) f = 0
  · obtain ⟨m1, m2, m3⟩ := may_zero hm
    have HM := Lib.hid hm
    have hq := ho.1 f.toNat (by omega)
    by_cases hl : n < 0
    · have E : cut D f n = (1, pre D) := by simp [cut, hm, hl]
      rw [E]; clear E hm m1
      go_enter Try.func33, Try.ntmps33
      go_wp2_with fail
      with_reducible refine (c_ends _ _ _ H.out).mono ?_
      rintro e w1 ⟨rfl, hd1, hk1⟩
      obtain ⟨kv, hkv, hki⟩ := hd1.keep
      have H1 := Lib.hid hd1; have K1 := Lib.hid hk1; have KI := Lib.hid hki; clear hd1 hk1 hki
      rw [HE.out]
      go_wp2_with fail
      with_reducible refine (c_crash b (tick D) kv (tick D).kl _ H1.out KI.out).mono ?_
      rintro e w2 ⟨rfl, hd2, hk2⟩
      have H2 : Hid (DiskAt w2 b (pre D)) := by show DiskAt w2 b (pre D); rw [HP.out]; exact hd2
      have K2 := Lib.hid (Keeps.trans' K1.out hk2)
      clear hd2 hk2 hkv
      have f2 := H2.out.fz; have f3 := H2.out.lt; have f4 := H2.out.s f.toNat (by omega)
      go_wp2_with fail
      with_reducible refine (c_may1 _ _ _ _ _ _ H2.out rfl rfl).mono ?_
      rintro e w' ⟨rfl, rfl⟩
      rw [HM.out]
      go_wp2_with (first | (refine wp_region_text rfl (by decide +kernel) ?_) | (refine wpT_plain rfl rfl ?_; intro _ _) | (refine wpT_nil ?_))
      go_ret
      exact ⟨rfl, H2.out.alloc _, by repeat (first | with_reducible exact K2.out | with_reducible refine Keeps.drew ?_ | with_reducible refine Keeps.alloc ?_ _ | with_reducible refine Keeps.set1 ?_ _ _)⟩
    · have hl' : decide (n < 0) = false := by simpa using hl
      have hl0 : 0 ≤ n := by omega
      by_cases hl2 : ((pre D).S f.toNat).size < n
      · have E : cut D f n = (1, pre D) := by simp [cut, hm, hl2]
        rw [E]; clear E hm m1 hl
        go_enter Try.func33, Try.ntmps33
        go_wp2_with fail
        with_reducible refine (c_ends _ _ _ H.out).mono ?_
        rintro e w1 ⟨rfl, hd1, hk1⟩
        obtain ⟨kv, hkv, hki⟩ := hd1.keep
        have H1 := Lib.hid hd1; have K1 := Lib.hid hk1; have KI := Lib.hid hki; clear hd1 hk1 hki
        rw [HE.out]
        go_wp2_with fail
        with_reducible refine (c_crash b (tick D) kv (tick D).kl _ H1.out KI.out).mono ?_
        rintro e w2 ⟨rfl, hd2, hk2⟩
        have H2 : Hid (DiskAt w2 b (pre D)) := by show DiskAt w2 b (pre D); rw [HP.out]; exact hd2
        have K2 := Lib.hid (Keeps.trans' K1.out hk2)
        clear hd2 hk2 hkv
        have f2 := H2.out.fz; have f3 := H2.out.lt; have f4 := H2.out.s f.toNat (by omega)
        go_wp2_with fail
        with_reducible refine (c_may1 _ _ _ _ _ _ H2.out rfl rfl).mono ?_
        rintro e w' ⟨rfl, rfl⟩
        rw [HM.out]
        go_wp2_with (first | (refine wp_region_text rfl (by decide +kernel) ?_) | (refine wpT_plain rfl rfl ?_; intro _ _) | (refine wpT_nil ?_))
        go_ret
        exact ⟨rfl, H2.out.alloc _, by repeat (first | with_reducible exact K2.out | with_reducible refine Keeps.drew ?_ | with_reducible refine Keeps.alloc ?_ _ | with_reducible refine Keeps.set1 ?_ _ _)⟩
      · have E : cut D f n = (0, { pre D with S := upd (pre D).S f.toNat (((pre D).S f.toNat).extract 0 n.toNat), L := upd (pre D).L f.toNat (min ((pre D).L f.toNat) n.toNat) }) := by simp [cut, hm, hl, hl2]
        rw [E]; clear E hm m1 hl
        have hmin : ∀ x : Int, x = ((min ((pre D).L f.toNat) n.toNat : Nat) : Int) → x = ((min ((pre D).L f.toNat) n.toNat : Nat) : Int) := fun _ h => h
        clear hmin
        by_cases hmn : n < (pre D).L f.toNat
        · have hmm : (n) = ((min ((pre D).L f.toNat) n.toNat : Nat) : Int) := by omega
          have HMM := Lib.hid hmm; clear hmm
          go_enter Try.func33, Try.ntmps33
          go_wp2_with fail
          with_reducible refine (c_ends _ _ _ H.out).mono ?_
          rintro e w1 ⟨rfl, hd1, hk1⟩
          obtain ⟨kv, hkv, hki⟩ := hd1.keep
          have H1 := Lib.hid hd1; have K1 := Lib.hid hk1; have KI := Lib.hid hki; clear hd1 hk1 hki
          rw [HE.out]
          go_wp2_with fail
          with_reducible refine (c_crash b (tick D) kv (tick D).kl _ H1.out KI.out).mono ?_
          rintro e w2 ⟨rfl, hd2, hk2⟩
          have H2 : Hid (DiskAt w2 b (pre D)) := by show DiskAt w2 b (pre D); rw [HP.out]; exact hd2
          have K2 := Lib.hid (Keeps.trans' K1.out hk2)
          clear hd2 hk2 hkv
          have f2 := H2.out.fz; have f3 := H2.out.lt; have f4 := H2.out.s f.toNat (by omega); have f5 := H2.out.l f.toNat (by omega)
          go_wp2_with fail
          with_reducible refine (c_may1 _ _ _ _ _ _ H2.out rfl rfl).mono ?_
          rintro e w' ⟨rfl, rfl⟩
          rw [HM.out]
          have HC := Lib.hid (cut_step H2.out f.toNat n.toNat (by omega) (by omega) _ HMM.out)
          go_wp2_with (first | (refine wp_region_text rfl (by decide +kernel) ?_) | (refine wpT_plain rfl rfl ?_; intro _ _) | (refine wpT_nil ?_))
          go_ret
          exact ⟨rfl, by repeat (first | with_reducible exact HC.out | with_reducible refine DiskAt.drew ?_ | with_reducible refine DiskAt.alloc ?_ _), by repeat (first | with_reducible exact K2.out | with_reducible refine Keeps.drew ?_ | with_reducible refine Keeps.alloc ?_ _ | with_reducible refine Keeps.set1 ?_ _ _)⟩
        · have hmm : (((pre D).L f.toNat : Int)) = ((min ((pre D).L f.toNat) n.toNat : Nat) : Int) := by omega
          have HMM := Lib.hid hmm; clear hmm
          go_enter Try.func33, Try.ntmps33
          go_wp2_with fail
          with_reducible refine (c_ends _ _ _ H.out).mono ?_
          rintro e w1 ⟨rfl, hd1, hk1⟩
          obtain ⟨kv, hkv, hki⟩ := hd1.keep
          have H1 := Lib.hid hd1; have K1 := Lib.hid hk1; have KI := Lib.hid hki; clear hd1 hk1 hki
          rw [HE.out]
          go_wp2_with fail
          with_reducible refine (c_crash b (tick D) kv (tick D).kl _ H1.out KI.out).mono ?_
          rintro e w2 ⟨rfl, hd2, hk2⟩
          have H2 : Hid (DiskAt w2 b (pre D)) := by show DiskAt w2 b (pre D); rw [HP.out]; exact hd2
          have K2 := Lib.hid (Keeps.trans' K1.out hk2)
          clear hd2 hk2 hkv
          have f2 := H2.out.fz; have f3 := H2.out.lt; have f4 := H2.out.s f.toNat (by omega); have f5 := H2.out.l f.toNat (by omega)
          go_wp2_with fail
          with_reducible refine (c_may1 _ _ _ _ _ _ H2.out rfl rfl).mono ?_
          rintro e w' ⟨rfl, rfl⟩
          rw [HM.out]
          have HC := Lib.hid (cut_step H2.out f.toNat n.toNat (by omega) (by omega) _ HMM.out)
          go_wp2_with (first | (refine wp_region_text rfl (by decide +kernel) ?_) | (refine wpT_plain rfl rfl ?_; intro _ _) | (refine wpT_nil ?_))
          go_ret
          exact ⟨rfl, by repeat (first | with_reducible exact HC.out | with_reducible refine DiskAt.drew ?_ | with_reducible refine DiskAt.alloc ?_ _), by repeat (first | with_reducible exact K2.out | with_reducible refine Keeps.drew ?_ | with_reducible refine Keeps.alloc ?_ _ | with_reducible refine Keeps.set1 ?_ _ _)⟩
  · have E : cut D f n = (may (pre D) f, pre D) := by simp [cut, hm]
    rw [E]; clear E
    have HN := Lib.hid hm
    generalize hM : may (pre D) f = M at hm
    have HM := Lib.hid hM; clear hM
    have hm' : (M == 0) = false := by simp [hm]
    have hm2 : (M != 0) = true := by simp [hm]
    clear hm
    go_enter Try.func33, Try.ntmps33
    go_wp2_with fail
    with_reducible refine (c_ends _ _ _ H.out).mono ?_
    rintro e w1 ⟨rfl, hd1, hk1⟩
    obtain ⟨kv, hkv, hki⟩ := hd1.keep
    have H1 := Lib.hid hd1; have K1 := Lib.hid hk1; have KI := Lib.hid hki; clear hd1 hk1 hki
    rw [HE.out]
    go_wp2_with fail
    with_reducible refine (c_crash b (tick D) kv (tick D).kl _ H1.out KI.out).mono ?_
    rintro e w2 ⟨rfl, hd2, hk2⟩
    have H2 : Hid (DiskAt w2 b (pre D)) := by show DiskAt w2 b (pre D); rw [HP.out]; exact hd2
    have K2 := Lib.hid (Keeps.trans' K1.out hk2)
    clear hd2 hk2 hkv
    go_wp2_with fail
    with_reducible refine (c_may1 _ _ _ _ _ _ H2.out rfl rfl).mono ?_
    rintro e w' ⟨rfl, rfl⟩
    rw [HM.out]
    go_wp2_with fail
    go_ret
    exact ⟨rfl, H2.out.alloc _, by repeat (first | with_reducible exact K2.out | with_reducible refine Keeps.drew ?_ | with_reducible refine Keeps.alloc ?_ _ | with_reducible refine Keeps.set1 ?_ _ _)⟩
theorem c_cut (b : Nat) (D : St) (f n : Int) (w : World) (h : DiskAt w b D) :
    Calls Try.prog 33 #[.pointer (some ⟨b, 0, none⟩), .int .i64 f, .int .i64 n] w fun e w' => e = .returned (.int .i64 (cut D f n).1) ∧ DiskAt w' b (cut D f n).2 ∧ Keeps w w' (one_ b) := by
  cases he : endsB D
  · exact c_cut0 b D f n  w h he
  · exact c_cut1 b D f n  w h he
end Go.Proofs.Ytcnkbpghafhceaa
