/- Helper text of this claim: C4: lemmas and contracts that the proved statement rests on; no conditions of its own. -/
import Derived.Test.YtcnkbpghafhceaaC3
namespace Go.Proofs.Ytcnkbpghafhceaa
open Go.RowKit Go.Pw Go.Pw.Dk
def mayL (D : St) (fs : List Int) : Int := if D.down then 13 else if fs.all isB then 0 else 1
theorem all_of {fs : List Int} (h : ∀ j, j < fs.length → isB (fs.getD j 0) = true) : fs.all isB = true := by
  rw [List.all_eq_true]
  intro x hx
  obtain ⟨i, hi, rfl⟩ := List.getElem_of_mem hx
  have := h i hi
  simpa [hi] using this
theorem not_all_of {fs : List Int} {j : Nat} (hj : j < fs.length) (h : isB (fs.getD j 0) = false) : fs.all isB = false := by
  rw [List.all_eq_false]
  exact ⟨fs[j], List.getElem_mem hj, by rw [List.getD_eq_getElem?_getD, List.getElem?_eq_getElem hj, Option.getD_some] at h; simp [h]⟩
theorem c_may (b : Nat) (D : St) (v : Value) (fs : List Int) (w : World) (h : DiskAt w b D) (hv : Ints 3 w v fs) (hlen : 0 < fs.length) :
    Calls Try.prog 35 #[.pointer (some ⟨b, 0, none⟩), v] w fun e w' => e = .returned (.int .i64 (mayL D fs)) ∧ w = w' := by
  have h1 := h.down; clear h
  rcases hv with ⟨_, h2⟩ | ⟨kb, ko, cap, n, rfl, hs, hl, hc⟩
  · rw [h2] at hlen; cases hlen
  cases hd : D.down
  · rw [hd] at h1
    have HD := Lib.hid hd; clear hd
    generalize hn : fs.length = len at hl hc hlen ⊢
    have HN := Lib.hid hn; clear hn
    have HC := Lib.hid hc; clear hc
    go_enter Try.func35, Try.ntmps35
    go_wp2
    go_loop [13] (fun i => ∃ k : Nat, k ≤ len ∧ i = .int .i64 k ∧ ∀ j, j < k → isB (fs.getD j 0) = true) (fun i => len - (intOf i).toNat)
    case atStart => exact ⟨0, by omega, rfl, fun j hj => by omega⟩
    case round =>
      obtain ⟨k, hk, rfl, hall⟩ := hrel
      have HA := Lib.hid hall; clear hall
      by_cases hlt : k < len
      · have hck := HC.out k hlt
        generalize hz : fs.getD k 0 = z at hck
        have HZ := Lib.hid hz; clear hz
        cases hb : isB z
        · have HB := Lib.hid hb; clear hb
          go_wp2_with (go_at_call 36; refine (c_is' _ _ _ HB.out).mono ?_; rintro e w' ⟨rfl, rfl⟩)
          go_ret
          refine ⟨?_, rfl⟩
          have := not_all_of (fs := fs) (j := k) (by rw [HN.out]; exact hlt) (by rw [HZ.out]; exact HB.out)
          simp [mayL, HD.out, this]
        · have HB := Lib.hid hb; clear hb
          go_wp2_with (go_at_call 36; refine (c_is' _ _ _ HB.out).mono ?_; rintro e w' ⟨rfl, rfl⟩)
          go_round
          case rel =>
            refine ⟨k + 1, by omega, by go_num, fun j hj => ?_⟩
            by_cases e : j = k
            · rw [e, HZ.out]; exact HB.out
            · exact HA.out j (by omega)
          case measure => simp [intOf]; omega
      · obtain rfl : k = len := by omega
        go_wp2
        go_ret
        refine ⟨?_, rfl⟩
        have := all_of (fs := fs) (by rw [HN.out]; exact HA.out)
        simp [mayL, HD.out, this]
  · rw [hd] at h1
    have HD := Lib.hid hd; clear hd
    go_enter Try.func35, Try.ntmps35
    go_wp2
    go_ret
    exact ⟨by simp [mayL, HD.out], rfl⟩
theorem ints_one (w : World) (f : Int) : Ints 3 (w.alloc (.cells #[.int .i64 f] 3)) (.slice (some ⟨w.heap.size, 0, none⟩) 1 1) [f] := by
  refine .inr ⟨w.heap.size, 0, 1, 1, rfl, ?_, by simp, fun i hi => ?_⟩
  · unfold World.shape? World.alloc; simp
  · obtain rfl : i = 0 := by simpa using hi
    simp
theorem ints_two (w : World) (f g : Int) : Ints 3 (w.alloc (.cells #[.int .i64 f, .int .i64 g] 3)) (.slice (some ⟨w.heap.size, 0, none⟩) 2 2) [f, g] := by
  refine .inr ⟨w.heap.size, 0, 2, 2, rfl, ?_, by simp, fun i hi => ?_⟩
  · unfold World.shape? World.alloc; simp
  · have : i = 0 ∨ i = 1 := by simp at hi; omega
    rcases this with rfl | rfl <;> simp
theorem c_may1 (b : Nat) (D : St) (f : Int) (w w0 : World) (a : Nat) (h : DiskAt w0 b D) (hw : w = w0.alloc (.cells #[.int .i64 f] 3)) (ha : a = w0.heap.size) :
    Calls Try.prog 35 #[.pointer (some ⟨b, 0, none⟩), .slice (some ⟨a, 0, none⟩) 1 1] w fun e w' => e = .returned (.int .i64 (may D f)) ∧ w = w' := by
  subst hw; subst ha
  have := c_may b D _ [f] _ (h.alloc _) (ints_one w0 f) (by simp)
  simpa [mayL, may] using this
theorem c_may2 (b : Nat) (D : St) (f g : Int) (w w0 : World) (a : Nat) (h : DiskAt w0 b D) (hw : w = w0.alloc (.cells #[.int .i64 f, .int .i64 g] 3)) (ha : a = w0.heap.size) :
    Calls Try.prog 35 #[.pointer (some ⟨b, 0, none⟩), .slice (some ⟨a, 0, none⟩) 2 2] w fun e w' => e = .returned (.int .i64 (may2 D f g)) ∧ w = w' := by
  subst hw; subst ha
  have := c_may b D _ [f, g] _ (h.alloc _) (ints_two w0 f g) (by simp)
  simpa [mayL, may2] using this
theorem Keeps.set1 {a w : World} {b : Nat} (h : Keeps a w (one_ b)) (o : Nat) (v : Value) : Keeps a (w.setCell ⟨b, o, none⟩ v) (one_ b) := h.trans' (keeps_set _ _ _ _)
theorem DiskAt.keepOf {w : World} (b : Nat) (D : St) (h : DiskAt w b D) {v : Value} (hc : w.cell? ⟨b, 19, none⟩ = some v) : Ints 3 w v D.kl := by
  obtain ⟨u, h1, h2⟩ := h.keep
  rw [hc] at h1; cases h1; exact h2
theorem may_zero {D : St} {f : Int} (h : may D f = 0) : D.down = false ∧ 0 ≤ f ∧ f < 8 := by
  unfold may at h
  split at h
  · cases h
  · split at h
    · rename_i h1 h2; exact ⟨by simpa using h1, isB_of h2⟩
    · cases h
theorem sizeI_bd {D : St} {f : Int} (h : D.ok) : 0 ≤ sizeI D f ∧ sizeI D f ≤ 16777216 := by
  unfold sizeI
  split
  · rename_i hb; have := isB_of hb; have := h.1 f.toNat (by omega); omega
  · omega
set_option maxHeartbeats 1000000 in
theorem c_append0 (b : Nat) (D : St) (f : Int) (s : ByteArray) (w : World) (h : DiskAt w b D) (hs : s.size ≤ 9223372036854775807) (he : endsB D = false) :
    Calls Try.prog 11 #[.pointer (some ⟨b, 0, none⟩), .int .i64 f, .string s] w fun e w' => e = .returned (.int .i64 (app D f s).1) ∧ DiskAt w' b (app D f s).2 ∧ Keeps w w' (one_ b) := by
  have ho := tick_ok h.ok
  have H := Lib.hid h; clear h
  have HE := Lib.hid he
  by_cases hm : may (tick D) f = 0
  · by_cases hz : 16777216 - sizeI (tick D) f < (s.size : Int)
    · have E : app D f s = (16, tick D) := by simp [app, appE, hm, he, hz]
      rw [E]; clear E he
      have HM := Lib.hid hm; clear hm
      have hb := sizeI_bd (f := f) ho
      generalize hZ : sizeI (tick D) f = Z at hz hb
      have HZ := Lib.hid hZ; clear hZ
      obtain ⟨b0, b1⟩ := hb
      go_enter Try.func11, Try.ntmps11
      go_wp2_with fail
      with_reducible refine (c_ends _ _ _ H.out).mono ?_
      rintro e w1 ⟨rfl, hd1, hk1⟩
      obtain ⟨kv, hkv, hki⟩ := hd1.keep
      have fz1 := hd1.fz
      have lt1 := hd1.lt
      have H1 := Lib.hid hd1; have K1 := Lib.hid hk1; clear hd1 hk1 hki
      rw [HE.out]
      go_wp2_with fail
      with_reducible refine (c_may1 _ _ _ _ _ _ H1.out rfl rfl).mono ?_
      rintro e w' ⟨rfl, rfl⟩
      rw [HM.out]
      go_wp2_with fail
      with_reducible refine (c_size _ _ _ _ (H1.out.alloc _)).mono ?_
      rintro e w' ⟨rfl, rfl⟩
      rw [HZ.out]
      go_wp2_with fail
      go_ret
      exact ⟨rfl, H1.out.alloc _, by repeat (first | with_reducible exact K1.out | with_reducible refine Keeps.drew ?_ | with_reducible refine Keeps.alloc ?_ _ | with_reducible refine Keeps.set1 ?_ _ _)⟩
    · have E : app D f s = (0, { tick D with S := upd (tick D).S f.toNat ((tick D).S f.toNat ++ s) }) := by simp [app, appE, hm, he, hz]
      rw [E]; clear E he
      obtain ⟨hm1, hm2, hm3⟩ := may_zero hm
      have HM := Lib.hid hm; clear hm
      have hb := sizeI_bd (f := f) ho
      have hZS : sizeI (tick D) f = ((tick D).S f.toNat).size := by simp [sizeI, isB, hm2, hm3]
      have hsz : (tick D).L f.toNat ≤ ((tick D).S f.toNat ++ s).size ∧ ((tick D).S f.toNat ++ s).size ≤ 16777216 := by
        have := ho.1 f.toNat (by omega)
        rw [ByteArray.size_append]; rw [hZS] at hz; omega
      have HSZ := Lib.hid hsz; have HHZ := Lib.hid hZS
      have hsz2 : ((tick D).S f.toNat).size + s.size ≤ 16777216 := by rw [← ByteArray.size_append]; exact hsz.2
      clear hsz hZS hm1
      generalize hZ : sizeI (tick D) f = Z at hz hb
      have HZ := Lib.hid hZ; clear hZ
      obtain ⟨b0, b1⟩ := hb
      go_enter Try.func11, Try.ntmps11
      go_wp2_with fail
      with_reducible refine (c_ends _ _ _ H.out).mono ?_
      rintro e w1 ⟨rfl, hd1, hk1⟩
      obtain ⟨kv, hkv, hki⟩ := hd1.keep
      have fz1 := hd1.fz
      have lt1 := hd1.lt
      have hs1 := hd1.s f.toNat (by omega)
      have H1 := Lib.hid hd1; have K1 := Lib.hid hk1; clear hd1 hk1 hki
      rw [HE.out]
      go_wp2_with fail
      with_reducible refine (c_may1 _ _ _ _ _ _ H1.out rfl rfl).mono ?_
      rintro e w' ⟨rfl, rfl⟩
      rw [HM.out]
      go_wp2_with fail
      with_reducible refine (c_size _ _ _ _ (H1.out.alloc _)).mono ?_
      rintro e w' ⟨rfl, rfl⟩
      rw [HZ.out]
      have HC := Lib.hid (H1.out.setS f.toNat (by omega) ((tick D).S f.toNat ++ s) HSZ.out)
      go_wp2_with (first | (refine wp_region_text rfl (by decide +kernel) ?_) | (refine wpT_plain rfl rfl ?_; intro _ _) | (refine wpT_nil ?_))
      go_ret
      exact ⟨rfl, by repeat (first | with_reducible exact HC.out | with_reducible refine DiskAt.drew ?_ | with_reducible refine DiskAt.alloc ?_ _), by repeat (first | with_reducible exact K1.out | with_reducible refine Keeps.drew ?_ | with_reducible refine Keeps.alloc ?_ _ | with_reducible refine Keeps.set1 ?_ _ _)⟩
  · have E : app D f s = (may (tick D) f, tick D) := by simp [app, appE, hm, he]
    rw [E]; clear E he
    have HM := Lib.hid hm
    have hm' : (may (tick D) f == 0) = false := by simp [hm]
    clear hm
    go_enter Try.func11, Try.ntmps11
    go_wp2_with fail
    with_reducible refine (c_ends _ _ _ H.out).mono ?_
    rintro e w1 ⟨rfl, hd1, hk1⟩
    obtain ⟨kv, hkv, hki⟩ := hd1.keep
    have fz1 := hd1.fz
    have lt1 := hd1.lt
    have H1 := Lib.hid hd1; have K1 := Lib.hid hk1; clear hd1 hk1 hki
    rw [HE.out]
    go_wp2_with fail
    with_reducible refine (c_may1 _ _ _ _ _ _ H1.out rfl rfl).mono ?_
    rintro e w' ⟨rfl, rfl⟩
    go_wp2_with fail
    go_ret
    exact ⟨rfl, H1.out.alloc _, by repeat (first | with_reducible exact K1.out | with_reducible refine Keeps.drew ?_ | with_reducible refine Keeps.alloc ?_ _ | with_reducible refine Keeps.set1 ?_ _ _)⟩
set_option maxHeartbeats 1000000 in
theorem c_append1 (b : Nat) (D : St) (f : Int) (s : ByteArray) (w : World) (h : DiskAt w b D) (hs : s.size ≤ 9223372036854775807) (he : endsB D = true) :
    Calls Try.prog 11 #[.pointer (some ⟨b, 0, none⟩), .int .i64 f, .string s] w fun e w' => e = .returned (.int .i64 (app D f s).1) ∧ DiskAt w' b (app D f s).2 ∧ Keeps w w' (one_ b) := by
  have ho := tick_ok h.ok
  have H := Lib.hid h; clear h
  have HE := Lib.hid he
  by_cases hm : may (tick D) f = 0
  · by_cases hz : 16777216 - sizeI (tick D) f < (s.size : Int)
    · have E : app D f s = (13, crash (tick D) (tick D).kl) := by simp [app, appE, hm, he, hz]
      rw [E]; clear E he
      have HM := Lib.hid hm; clear hm
      have hb := sizeI_bd (f := f) ho
      generalize hZ : sizeI (tick D) f = Z at hz hb
      have HZ := Lib.hid hZ; clear hZ
      obtain ⟨b0, b1⟩ := hb
      go_enter Try.func11, Try.ntmps11
      go_wp2_with fail
      with_reducible refine (c_ends _ _ _ H.out).mono ?_
      rintro e w1 ⟨rfl, hd1, hk1⟩
      obtain ⟨kv, hkv, hki⟩ := hd1.keep
      have fz1 := hd1.fz
      have lt1 := hd1.lt
      have H1 := Lib.hid hd1; have K1 := Lib.hid hk1; clear hd1 hk1 hki
      rw [HE.out]
      go_wp2_with fail
      with_reducible refine (c_may1 _ _ _ _ _ _ H1.out rfl rfl).mono ?_
      rintro e w' ⟨rfl, rfl⟩
      rw [HM.out]
      go_wp2_with fail
      with_reducible refine (c_size _ _ _ _ (H1.out.alloc _)).mono ?_
      rintro e w' ⟨rfl, rfl⟩
      rw [HZ.out]
      have HC := Lib.hid H1.out
      go_wp2_with (first | (refine wp_region_text rfl (by decide +kernel) ?_) | (refine wpT_plain rfl rfl ?_; intro _ _) | (refine wpT_nil ?_))
      with_reducible refine (c_crash b (tick D) kv ((tick D)).kl _ (by repeat (first | with_reducible exact HC.out | with_reducible refine DiskAt.drew ?_ | with_reducible refine DiskAt.alloc ?_ _)) (by refine DiskAt.keepOf b _ (by repeat (first | with_reducible exact HC.out | with_reducible refine DiskAt.drew ?_ | with_reducible refine DiskAt.alloc ?_ _)) ?_; go_simp)).mono ?_
      rintro e w2 ⟨rfl, hd2, hk2⟩
      go_wp2_with fail
      go_ret
      exact ⟨rfl, hd2, Keeps.trans' (by repeat (first | with_reducible exact K1.out | with_reducible refine Keeps.drew ?_ | with_reducible refine Keeps.alloc ?_ _ | with_reducible refine Keeps.set1 ?_ _ _)) hk2⟩
    · have E : app D f s = (13, crash { tick D with S := upd (tick D).S f.toNat ((tick D).S f.toNat ++ s) } (⟨upd (tick D).S f.toNat ((tick D).S f.toNat ++ s), (tick D).L, (tick D).lost, (tick D).down, (tick D).armed, (tick D).kl⟩ : St).kl) := by simp [app, appE, hm, he, hz]
      rw [E]; clear E he
      obtain ⟨hm1, hm2, hm3⟩ := may_zero hm
      have HM := Lib.hid hm; clear hm
      have hb := sizeI_bd (f := f) ho
      have hZS : sizeI (tick D) f = ((tick D).S f.toNat).size := by simp [sizeI, isB, hm2, hm3]
      have hsz : (tick D).L f.toNat ≤ ((tick D).S f.toNat ++ s).size ∧ ((tick D).S f.toNat ++ s).size ≤ 16777216 := by
        have := ho.1 f.toNat (by omega)
        rw [ByteArray.size_append]; rw [hZS] at hz; omega
      have HSZ := Lib.hid hsz; have HHZ := Lib.hid hZS
      have hsz2 : ((tick D).S f.toNat).size + s.size ≤ 16777216 := by rw [← ByteArray.size_append]; exact hsz.2
      clear hsz hZS hm1
      generalize hZ : sizeI (tick D) f = Z at hz hb
      have HZ := Lib.hid hZ; clear hZ
      obtain ⟨b0, b1⟩ := hb
      go_enter Try.func11, Try.ntmps11
      go_wp2_with fail
      with_reducible refine (c_ends _ _ _ H.out).mono ?_
      rintro e w1 ⟨rfl, hd1, hk1⟩
      obtain ⟨kv, hkv, hki⟩ := hd1.keep
      have fz1 := hd1.fz
      have lt1 := hd1.lt
      have hs1 := hd1.s f.toNat (by omega)
      have H1 := Lib.hid hd1; have K1 := Lib.hid hk1; clear hd1 hk1 hki
      rw [HE.out]
      go_wp2_with fail
      with_reducible refine (c_may1 _ _ _ _ _ _ H1.out rfl rfl).mono ?_
      rintro e w' ⟨rfl, rfl⟩
      rw [HM.out]
      go_wp2_with fail
      with_reducible refine (c_size _ _ _ _ (H1.out.alloc _)).mono ?_
      rintro e w' ⟨rfl, rfl⟩
      rw [HZ.out]
      have HC := Lib.hid (H1.out.setS f.toNat (by omega) ((tick D).S f.toNat ++ s) HSZ.out)
      go_wp2_with (first | (refine wp_region_text rfl (by decide +kernel) ?_) | (refine wpT_plain rfl rfl ?_; intro _ _) | (refine wpT_nil ?_))
      with_reducible refine (c_crash b (⟨upd (tick D).S f.toNat ((tick D).S f.toNat ++ s), (tick D).L, (tick D).lost, (tick D).down, (tick D).armed, (tick D).kl⟩ : St) kv ((⟨upd (tick D).S f.toNat ((tick D).S f.toNat ++ s), (tick D).L, (tick D).lost, (tick D).down, (tick D).armed, (tick D).kl⟩ : St)).kl _ (by repeat (first | with_reducible exact HC.out | with_reducible refine DiskAt.drew ?_ | with_reducible refine DiskAt.alloc ?_ _)) (by refine DiskAt.keepOf b _ (by repeat (first | with_reducible exact HC.out | with_reducible refine DiskAt.drew ?_ | with_reducible refine DiskAt.alloc ?_ _)) ?_; go_simp)).mono ?_
      rintro e w2 ⟨rfl, hd2, hk2⟩
      go_wp2_with fail
      go_ret
      exact ⟨rfl, hd2, Keeps.trans' (by repeat (first | with_reducible exact K1.out | with_reducible refine Keeps.drew ?_ | with_reducible refine Keeps.alloc ?_ _ | with_reducible refine Keeps.set1 ?_ _ _)) hk2⟩
  · have E : app D f s = (13, crash (tick D) (tick D).kl) := by simp [app, appE, hm, he]
    rw [E]; clear E he
    have HM := Lib.hid hm
    have hm' : (may (tick D) f == 0) = false := by simp [hm]
    clear hm
    go_enter Try.func11, Try.ntmps11
    go_wp2_with fail
    with_reducible refine (c_ends _ _ _ H.out).mono ?_
    rintro e w1 ⟨rfl, hd1, hk1⟩
    obtain ⟨kv, hkv, hki⟩ := hd1.keep
    have fz1 := hd1.fz
    have lt1 := hd1.lt
    have H1 := Lib.hid hd1; have K1 := Lib.hid hk1; clear hd1 hk1 hki
    rw [HE.out]
    go_wp2_with fail
    with_reducible refine (c_may1 _ _ _ _ _ _ H1.out rfl rfl).mono ?_
    rintro e w' ⟨rfl, rfl⟩
    have HC := Lib.hid H1.out
    go_wp2_with (first | (refine wp_region_text rfl (by decide +kernel) ?_) | (refine wpT_plain rfl rfl ?_; intro _ _) | (refine wpT_nil ?_))
    with_reducible refine (c_crash b (tick D) kv ((tick D)).kl _ (by repeat (first | with_reducible exact HC.out | with_reducible refine DiskAt.drew ?_ | with_reducible refine DiskAt.alloc ?_ _)) (by refine DiskAt.keepOf b _ (by repeat (first | with_reducible exact HC.out | with_reducible refine DiskAt.drew ?_ | with_reducible refine DiskAt.alloc ?_ _)) ?_; go_simp)).mono ?_
    rintro e w2 ⟨rfl, hd2, hk2⟩
    go_wp2_with fail
    go_ret
    exact ⟨rfl, hd2, Keeps.trans' (by repeat (first | with_reducible exact K1.out | with_reducible refine Keeps.drew ?_ | with_reducible refine Keeps.alloc ?_ _ | with_reducible refine Keeps.set1 ?_ _ _)) hk2⟩
theorem c_append (b : Nat) (D : St) (f : Int) (s : ByteArray) (w : World) (h : DiskAt w b D) (hs : s.size ≤ 9223372036854775807) :
    Calls Try.prog 11 #[.pointer (some ⟨b, 0, none⟩), .int .i64 f, .string s] w fun e w' => e = .returned (.int .i64 (app D f s).1) ∧ DiskAt w' b (app D f s).2 ∧ Keeps w w' (one_ b) := by
  cases he : endsB D
  · exact c_append0 b D f s w h hs he
  · exact c_append1 b D f s w h hs he
end Go.Proofs.Ytcnkbpghafhceaa
