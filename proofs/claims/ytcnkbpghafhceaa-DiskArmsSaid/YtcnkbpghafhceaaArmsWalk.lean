/- Helper text of this claim: ArmsWalk: lemmas and contracts that the proved statement rests on; no conditions of its own. -/
import Derived.Test.YtcnkbpghafhceaaC11
import Derived.Test.YtcnkbpghafhceaaMA
namespace Go.Proofs.Ytcnkbpghafhceaa
open Go.RowKit Go.Pw Go.Pw.Dk
/-- A slice of strings that came in. -/
def Strs (w : World) (a : Option Addr) (len : Nat) (ls : List ByteArray) : Prop :=
  len = ls.length ∧ len ≤ 9223372036854775807 ∧ (∀ s ∈ ls, s.size ≤ 9223372036854775807) ∧
  (len = 0 ∨ ∃ lb lo, a = some ⟨lb, lo, none⟩ ∧ lb < w.heap.size ∧ ∀ i, i < len → w.cell? ⟨lb, lo + i, none⟩ = some (.string (ls.getD i ByteArray.empty)))
theorem Strs.keep {w w' : World} {a : Option Addr} {len : Nat} {ls : List ByteArray} (h : Strs w a len ls) (k : Keeps w w' none_) : Strs w' a len ls := by
  obtain ⟨h1, h2, h3, h4⟩ := h
  refine ⟨h1, h2, h3, ?_⟩
  rcases h4 with h4 | ⟨lb, lo, e, hb, hc⟩
  · exact .inl h4
  · exact .inr ⟨lb, lo, e, Nat.lt_of_lt_of_le hb k.size, fun i hi => by rw [k.cell hb id]; exact hc i hi⟩
def ArmsInv (b : Nat) (n kp : Int) (ls : List ByteArray) (wr : World) (sv rv cv iv : Value) : Prop :=
  ∃ (k : Nat) (c : Int) (safe rest : ByteArray), k ≤ ls.length ∧ iv = .int .i64 k ∧ cv = .int .i64 c ∧ sv = .string safe ∧ rv = .string rest ∧ 0 ≤ c ∧ c ≤ n ∧
    safe.size + rest.size ≤ total ls k ∧
    (c < n → DiskAt wr b (mkA (safe ++ rest) safe.size (n - c) false [kp])) ∧
    (c = n → DiskAt wr b (mkA (safe ++ rest.extract 0 (kk kp rest.size)) (safe.size + kk kp rest.size) 0 true [kp]))
/-- the sum so far, exact if there are few strings -/
def SumInv (ls : List ByteArray) (tv iv : Value) : Prop :=
  ∃ (k : Nat) (t : Int), k ≤ ls.length ∧ iv = .int .i64 k ∧ tv = .int .i64 t ∧ (ls.length ≤ 50 → t = (total ls k : Nat)) ∧ (Lit.int .i64 t).wf = true
theorem c_downE {b : Nat} {D : St} {x : Bool} (w : World) (E : D.down = x) (h : DiskAt w b D) :
    Calls Try.prog 21 #[.pointer (some ⟨b, 0, none⟩)] w fun e w' => e = .returned (.bool x) ∧ w = w' := by
  subst E; exact c_down b D w h
theorem c_armE {b : Nat} {D D' : St} (n : Int) (v : Value) (kl : List Int) (w : World) (E : arm D n kl = D') (h : DiskAt w b D) (hn : n ≤ 9223372036854775807) (hv : IntsNe b w v kl) (hk : kl.length ≤ 1000000000000) :
    Calls Try.prog 25 #[.pointer (some ⟨b, 0, none⟩), .int .i64 n, v] w fun e w' => e = .returned (.tuple #[]) ∧ DiskAt w' b D' ∧ Keeps w w' (one_ b) := by
  subst E; exact c_arm b D n v kl w h hn hv hk
theorem wf_wrap64 (x : Int) : (Lit.int .i64 (wrap64 x)).wf = true := by
  apply WalkArith.wf_i64; unfold wrap64; omega
theorem wf_bounds {x : Int} (h : (Lit.int .i64 x).wf = true) : -9223372036854775808 ≤ x ∧ x ≤ 9223372036854775807 := by
  have := h
  simp only [Lit.wf, Bool.and_eq_true, decide_eq_true_eq] at this
  have e1 : IntKind.i64.min = -9223372036854775808 := by decide
  have e2 : IntKind.i64.max = 9223372036854775807 := by decide
  rw [e1, e2] at this; exact this
theorem getD_mem {ls : List ByteArray} {k : Nat} (h : k < ls.length) : ls.getD k ByteArray.empty ∈ ls := by
  rw [List.getD_eq_getElem?_getD, List.getElem?_eq_getElem h]; exact List.getElem_mem h
set_option maxRecDepth 100000 in
set_option maxHeartbeats 4000000 in
theorem arms_walk (a : Option Addr) (len cap : Nat) (ls : List ByteArray) (n kp : Int) (w : World) (hl : Strs w a len ls) (hls : ∀ s ∈ ls, s.size ≤ 140737488351232) (hn : n ≤ 9223372036854775807) (hn' : -9223372036854775808 ≤ n) :
    Calls Try.prog 6 #[.slice a len cap, .int .i64 n, .int .i64 kp] w fun e w' => e = .returned (.bool true) ∧ Keeps w w' none_ := by
  have HL := Lib.hid hl
  obtain ⟨hlen, hmx, hsz, _⟩ := hl
  have HN := Lib.hid hlen; have HSZ := Lib.hid hsz; have HLS := Lib.hid hls
  clear hlen hsz hls
  go_enter Try.func6, Try.ntmps6
  go_wp2_with fail
  with_reducible refine (c_small _).mono ?_
  rintro e w1 ⟨rfl, hk⟩
  have K1 := Lib.hid hk; clear hk
  go_wp2_with fail
  with_reducible refine (c_new _).mono ?_
  rintro e w2 ⟨rfl, hd, hk⟩
  rw [new_mkA] at hd
  have H2 := Lib.hid hd; have K2 := Lib.hid hk; clear hd hk
  have HL2 := Lib.hid (HL.out.keep (K1.out.trans' K2.out))
  go_wp2_with fail
  go_loop [9, 10] (fun tv iv => SumInv ls tv iv) (fun _ iv => len - (intOf iv).toNat)
  case atStart => exact ⟨0, 0, Nat.zero_le _, rfl, rfl, fun _ => rfl, by decide⟩
  case round =>
    obtain ⟨k, t, hk, rfl, rfl, ht, hwf⟩ := hrel
    have HT := Lib.hid ht; have HW := Lib.hid hwf; have HK := Lib.hid hk; clear ht hwf hk
    by_cases hlt : k < len
    · have hcs := HL2.out.2.2.2
      obtain ⟨lb, lo, ha, hb, hc⟩ := hcs.resolve_left (by omega)
      clear hcs
      subst ha
      have hck := hc k hlt
      have hs2 : (ls.getD k ByteArray.empty).size ≤ 140737488351232 := HLS.out _ (getD_mem (by rw [← HN.out]; exact hlt))
      have htot := total_succ ls k (by rw [← HN.out]; exact hlt)
      generalize ls.getD k ByteArray.empty = sk at hck hs2 htot
      have HTT := Lib.hid htot; clear htot hc
      go_wp2_with fail
      go_round
      case rel =>
        refine ⟨k + 1, _, by rw [← HN.out]; omega, by go_num, rfl, fun h50 => ?_, wf_wrap64 _⟩
        have h1 := HT.out h50
        have h2 := total_bound ls 140737488351232 HLS.out k HK.out
        have h3 := HK.out
        rw [HTT.out, h1, IntWalk.wrap64_in _ (by omega)]; omega
      case measure => simp [intOf]; omega
    · have hkl : k = len := by have := HK.out; rw [← HN.out] at this; omega
      have hb := wf_bounds HW.out
      obtain ⟨hb1, hb2⟩ := hb
      by_cases c1 : 50 < len
      · go_wp2_with fail
        go_ret
        exact ⟨rfl, K1.out.trans' K2.out⟩
      by_cases c2 : 20000 < t
      · go_wp2_with fail
        go_ret
        exact ⟨rfl, K1.out.trans' K2.out⟩
      by_cases c3 : n < 1
      · go_wp2_with fail
        go_ret
        exact ⟨rfl, K1.out.trans' K2.out⟩
      by_cases c4 : 100 < n
      · go_wp2_with fail
        go_ret
        exact ⟨rfl, K1.out.trans' K2.out⟩
      have htot : Hid (total ls ls.length ≤ 20000) := by
        show total ls ls.length ≤ 20000
        have h1 := HT.out (by rw [← HN.out]; omega)
        rw [hkl, HN.out] at h1
        omega
      have EA : Hid (arm (mkA ByteArray.empty 0 0 false []) n [kp] = mkA ByteArray.empty 0 n false [kp]) := by
        show _ = _
        rw [armA, show max n 0 = n from by omega]
      clear HT HW hb1 hb2
      have d1 : decide ((50 : Int) < (len : Int)) = false := by simp; omega
      have d2 : decide (20000 < t) = false := by simp; omega
      have d3 : decide (n < 1) = false := by simp; omega
      have d4 : decide (100 < n) = false := by simp; omega
      go_wp2_with fail
      with_reducible refine (c_armE n _ [kp] _ EA.out (H2.out.alloc _) (by omega) (ints_ne (ints_one _ kp) (H2.out.alloc _).sh) (by simp)).mono ?_
      rintro e w3 ⟨rfl, hd, hk⟩
      have H3 := Lib.hid hd; have K3 := Lib.hid ((K2.out.alloc _).own hk (Nat.le_refl _)); clear hd hk
      have HL3 := Lib.hid (HL.out.keep (K1.out.trans' K3.out))
      go_wp2_with fail
      clear HL2
      go_loopw [11, 12, 13, 14] (fun sv rv cv iv wr => ArmsInv w1.heap.size n kp ls wr sv rv cv iv ∧ Keeps w1 wr none_) (fun _ _ _ iv _ => len - (intOf iv).toNat)
      case atStart => exact ⟨⟨0, 0, ⟨#[]⟩, ⟨#[]⟩, Nat.zero_le _, rfl, rfl, rfl, rfl, by omega, by omega, Nat.zero_le _, fun _ => by rw [Int.sub_zero]; exact H3.out, fun h => by omega⟩, K3.out⟩
      case round =>
        obtain ⟨⟨k, c, safe, rest, hk, rfl, rfl, rfl, rfl, hc0, hcn, hsz, hup, hdn⟩, hKp⟩ := hrel
        have KA := Lib.hid hKp; have HKL : Hid (k ≤ len) := by show k ≤ len; rw [HN.out]; exact hk
        have hs20 : safe.size + rest.size ≤ 20000 := Nat.le_trans hsz (Nat.le_trans (total_le ls k ls.length hk) htot.out)
        have HZ := Lib.hid hsz
        clear hKp hk hsz
        by_cases hcl : c < n
        · have HA := Lib.hid (hup hcl)
          clear hup hdn
          by_cases hlt : k < len
          · have hcs := HL.out.2.2.2
            obtain ⟨lb, lo, ha, hb, hc⟩ := hcs.resolve_left (by omega)
            clear hcs
            subst ha
            have hck := hc k hlt
            have htt := total_succ ls k (by rw [← HN.out]; exact hlt)
            have htl := Nat.le_trans (total_le ls (k + 1) ls.length (by rw [← HN.out]; omega)) htot.out
            generalize ls.getD k ByteArray.empty = sk at hck htt
            have hz3 : safe.size + rest.size + sk.size ≤ 20000 := by have := HZ.out; omega
            have HT := Lib.hid htt; clear htt htl hc
            have cellAt : ∀ X : World, Keeps w1 X none_ → X.cell? ⟨lb, lo + k, none⟩ = some (.string sk) := fun X K => by rw [(K1.out.trans' K).cell hb id]; exact hck
            have CA := Lib.hid cellAt; clear cellAt hck hb
            have q1 := CA.out _ KA.out
            have hq : Hid (((safe ++ rest) ++ sk).size - safe.size = (rest ++ sk).size) := by show _ = _; simp only [ByteArray.size_append]; omega
            have hz4 : Hid ((safe ++ rest).size + sk.size ≤ 16777216 ∧ safe.size ≤ (safe ++ rest).size) := by show _ ∧ _; simp only [ByteArray.size_append]; omega
            by_cases h1 : c + 1 = n
            · have EA1 : Hid (app (mkA (safe ++ rest) safe.size (n - c) false [kp]) 0 sk = (13, mkA (safe ++ (rest ++ sk).extract 0 (kk kp (rest ++ sk).size)) (safe.size + kk kp (rest ++ sk).size) 0 true [kp])) := by
                show _ = _
                rw [show n - c = 1 from by omega, appA1 _ _ _ _ hz4.out.1 hz4.out.2, hq.out, ByteArray.append_assoc, extract_cut]
              have t1 : ((c + 1 : Int) == n) = true := by simpa using h1
              have h1a : n ≤ c + 1 := by omega
              have t2 : decide (c + 1 < n) = false := by simp; omega
              clear h1
              go_wp2_with (first | (refine wp_region_text rfl (by decide +kernel) ?_) | (refine wpT_plain rfl rfl ?_; intro _ _) | (refine wpT_nil ?_))
              with_reducible refine (c_downE _ (rfl : (mkA _ _ _ false _).down = false) HA.out).mono ?_
              rintro e w' ⟨rfl, rfl⟩
              go_wp2_with (first | (refine wp_region_text rfl (by decide +kernel) ?_) | (refine wpT_plain rfl rfl ?_; intro _ _) | (refine wpT_nil ?_))
              with_reducible refine (c_appendE _ _ _ EA1.out HA.out (by omega)).mono ?_
              rintro e w5 ⟨rfl, hd, hk⟩
              have HB := Lib.hid hd; have KAn := Lib.hid (KA.out.own hk (Nat.le_refl _)); clear hd hk
              have q2 := CA.out _ KAn.out
              by_cases ho : k % 2 = 1
              · have od : ((k : Int) % 2 == 1) = true := by simp; omega
                go_wp2_with (first | (refine wp_region_text rfl (by decide +kernel) ?_) | (refine wpT_plain rfl rfl ?_; intro _ _) | (refine wpT_nil ?_))
                with_reducible refine (c_downE _ (rfl : (mkA _ _ _ true _).down = true) HB.out).mono ?_
                rintro e w' ⟨rfl, rfl⟩
                go_wp2_with (first | (refine wp_region_text rfl (by decide +kernel) ?_) | (refine wpT_plain rfl rfl ?_; intro _ _) | (refine wpT_nil ?_))
                go_roundw
                case rel => first | exact ⟨⟨k + 1, c + 1, safe, rest ++ sk, by have := HN.out; omega, by go_num, rfl, rfl, rfl, by omega, by omega, by have := HT.out; have := HZ.out; simp only [ByteArray.size_append]; omega, fun h => by omega, fun _ => HB.out⟩, KAn.out⟩ | ((repeat apply Exists.intro); exact ⟨⟨⟨k + 1, c + 1, safe, rest ++ sk, by have := HN.out; omega, by go_num, rfl, rfl, rfl, by omega, by omega, by have := HT.out; have := HZ.out; simp only [ByteArray.size_append]; omega, fun h => by omega, fun _ => HB.out⟩, KAn.out⟩, rfl⟩)
                case measure => simp [intOf]; omega
              · have od : ((k : Int) % 2 == 1) = false := by simp; omega
                go_wp2_with (first | (refine wp_region_text rfl (by decide +kernel) ?_) | (refine wpT_plain rfl rfl ?_; intro _ _) | (refine wpT_nil ?_))
                go_roundw
                case rel => first | exact ⟨⟨k + 1, c + 1, safe, rest ++ sk, by have := HN.out; omega, by go_num, rfl, rfl, rfl, by omega, by omega, by have := HT.out; have := HZ.out; simp only [ByteArray.size_append]; omega, fun h => by omega, fun _ => HB.out⟩, KAn.out⟩ | ((repeat apply Exists.intro); exact ⟨⟨⟨k + 1, c + 1, safe, rest ++ sk, by have := HN.out; omega, by go_num, rfl, rfl, rfl, by omega, by omega, by have := HT.out; have := HZ.out; simp only [ByteArray.size_append]; omega, fun h => by omega, fun _ => HB.out⟩, KAn.out⟩, rfl⟩)
                case measure => simp [intOf]; omega
            · have EA1 : Hid (app (mkA (safe ++ rest) safe.size (n - c) false [kp]) 0 sk = (0, mkA (safe ++ (rest ++ sk)) safe.size (n - (c + 1)) false [kp])) := by
                show _ = _
                rw [appA _ _ _ _ _ hz4.out.1 (by omega), ByteArray.append_assoc, show n - c - 1 = n - (c + 1) from by omega]
              have t1 : ((c + 1 : Int) == n) = false := by simpa using h1
              have t2 : decide (c + 1 < n) = true := by simp; omega
              have t3 : c + 1 < n := by omega
              clear h1
              go_wp2_with (first | (refine wp_region_text rfl (by decide +kernel) ?_) | (refine wpT_plain rfl rfl ?_; intro _ _) | (refine wpT_nil ?_))
              with_reducible refine (c_downE _ (rfl : (mkA _ _ _ false _).down = false) HA.out).mono ?_
              rintro e w' ⟨rfl, rfl⟩
              go_wp2_with (first | (refine wp_region_text rfl (by decide +kernel) ?_) | (refine wpT_plain rfl rfl ?_; intro _ _) | (refine wpT_nil ?_))
              with_reducible refine (c_appendE _ _ _ EA1.out HA.out (by omega)).mono ?_
              rintro e w5 ⟨rfl, hd, hk⟩
              have HB := Lib.hid hd; have KAn := Lib.hid (KA.out.own hk (Nat.le_refl _)); clear hd hk
              have q2 := CA.out _ KAn.out
              by_cases ho : k % 2 = 1
              · have od : ((k : Int) % 2 == 1) = true := by simp; omega
                go_wp2_with (first | (refine wp_region_text rfl (by decide +kernel) ?_) | (refine wpT_plain rfl rfl ?_; intro _ _) | (refine wpT_nil ?_))
                with_reducible refine (c_downE _ (rfl : (mkA _ _ _ false _).down = false) HB.out).mono ?_
                rintro e w' ⟨rfl, rfl⟩
                have hz5 : Hid (safe.size ≤ (safe ++ (rest ++ sk)).size ∧ (safe ++ (rest ++ sk)).size - safe.size = (rest ++ sk).size) := by show _ ∧ _; simp only [ByteArray.size_append]; omega
                by_cases h2 : c + 1 + 1 = n
                · have EF : Hid (flush (mkA (safe ++ (rest ++ sk)) safe.size (n - (c + 1)) false [kp]) 0 = (13, mkA (safe ++ (rest ++ sk).extract 0 (kk kp (rest ++ sk).size)) (safe.size + kk kp (rest ++ sk).size) 0 true [kp])) := by
                    show _ = _
                    rw [show n - (c + 1) = 1 from by omega, flushA1 _ _ _ hz5.out.1, hz5.out.2, extract_cut]
                  have t4 : ((c + 1 + 1 : Int) == n) = true := by simpa using h2
                  have h2a : n ≤ c + 1 + 1 := by omega
                  have t5 : decide (c + 1 + 1 < n) = false := by simp; omega
                  clear h2
                  go_wp2_with (first | (refine wp_region_text rfl (by decide +kernel) ?_) | (refine wpT_plain rfl rfl ?_; intro _ _) | (refine wpT_nil ?_))
                  with_reducible refine (c_flushE _ _ EF.out HB.out).mono ?_
                  rintro e w6 ⟨rfl, hd, hk⟩
                  have HC := Lib.hid hd; have KAnn := Lib.hid (KAn.out.own hk (Nat.le_refl _)); clear hd hk
                  go_wp2_with (first | (refine wp_region_text rfl (by decide +kernel) ?_) | (refine wpT_plain rfl rfl ?_; intro _ _) | (refine wpT_nil ?_))
                  go_roundw
                  case rel => first | exact ⟨⟨k + 1, c + 1 + 1, safe, rest ++ sk, by have := HN.out; omega, by go_num, rfl, rfl, rfl, by omega, by omega, by have := HT.out; have := HZ.out; simp only [ByteArray.size_append]; omega, fun h => by omega, fun _ => HC.out⟩, KAnn.out⟩ | ((repeat apply Exists.intro); exact ⟨⟨⟨k + 1, c + 1 + 1, safe, rest ++ sk, by have := HN.out; omega, by go_num, rfl, rfl, rfl, by omega, by omega, by have := HT.out; have := HZ.out; simp only [ByteArray.size_append]; omega, fun h => by omega, fun _ => HC.out⟩, KAnn.out⟩, rfl⟩)
                  case measure => simp [intOf]; omega
                · have EF : Hid (flush (mkA (safe ++ (rest ++ sk)) safe.size (n - (c + 1)) false [kp]) 0 = (0, mkA ((safe ++ (rest ++ sk)) ++ ⟨#[]⟩) (safe ++ (rest ++ sk)).size (n - (c + 1 + 1)) false [kp])) := by
                    show _ = _
                    rw [flushA _ _ _ _ (by omega), show n - (c + 1) - 1 = n - (c + 1 + 1) from by omega]
                    rw [show (safe ++ (rest ++ sk)) ++ (⟨#[]⟩ : ByteArray) = safe ++ (rest ++ sk) from ByteArray.append_empty]
                  have t4 : ((c + 1 + 1 : Int) == n) = false := by simpa using h2
                  have t5 : decide (c + 1 + 1 < n) = true := by simp; omega
                  have t6 : c + 1 + 1 < n := by omega
                  clear h2
                  go_wp2_with (first | (refine wp_region_text rfl (by decide +kernel) ?_) | (refine wpT_plain rfl rfl ?_; intro _ _) | (refine wpT_nil ?_))
                  with_reducible refine (c_flushE _ _ EF.out HB.out).mono ?_
                  rintro e w6 ⟨rfl, hd, hk⟩
                  have HC := Lib.hid hd; have KAnn := Lib.hid (KAn.out.own hk (Nat.le_refl _)); clear hd hk
                  go_wp2_with (first | (refine wp_region_text rfl (by decide +kernel) ?_) | (refine wpT_plain rfl rfl ?_; intro _ _) | (refine wpT_nil ?_))
                  go_roundw
                  case rel => first | exact ⟨⟨k + 1, c + 1 + 1, safe ++ (rest ++ sk), ⟨#[]⟩, by have := HN.out; omega, by go_num, rfl, rfl, rfl, by omega, by omega, by have := HT.out; have := HZ.out; rw [show (⟨#[]⟩ : ByteArray).size = 0 from rfl]; simp only [ByteArray.size_append]; omega, fun _ => HC.out, fun h => by omega⟩, KAnn.out⟩ | ((repeat apply Exists.intro); exact ⟨⟨⟨k + 1, c + 1 + 1, safe ++ (rest ++ sk), ⟨#[]⟩, by have := HN.out; omega, by go_num, rfl, rfl, rfl, by omega, by omega, by have := HT.out; have := HZ.out; rw [show (⟨#[]⟩ : ByteArray).size = 0 from rfl]; simp only [ByteArray.size_append]; omega, fun _ => HC.out, fun h => by omega⟩, KAnn.out⟩, rfl⟩)
                  case measure => simp [intOf]; omega
              · have od : ((k : Int) % 2 == 1) = false := by simp; omega
                go_wp2_with (first | (refine wp_region_text rfl (by decide +kernel) ?_) | (refine wpT_plain rfl rfl ?_; intro _ _) | (refine wpT_nil ?_))
                go_roundw
                case rel => first | exact ⟨⟨k + 1, c + 1, safe, rest ++ sk, by have := HN.out; omega, by go_num, rfl, rfl, rfl, by omega, by omega, by have := HT.out; have := HZ.out; simp only [ByteArray.size_append]; omega, fun _ => HB.out, fun h => by omega⟩, KAn.out⟩ | ((repeat apply Exists.intro); exact ⟨⟨⟨k + 1, c + 1, safe, rest ++ sk, by have := HN.out; omega, by go_num, rfl, rfl, rfl, by omega, by omega, by have := HT.out; have := HZ.out; simp only [ByteArray.size_append]; omega, fun _ => HB.out, fun h => by omega⟩, KAn.out⟩, rfl⟩)
                case measure => simp [intOf]; omega
          · have hge : ¬ ((k : Int) < (len : Int)) := by omega
            go_wp2_with (first | (refine wp_region_text rfl (by decide +kernel) ?_) | (refine wpT_plain rfl rfl ?_; intro _ _) | (refine wpT_nil ?_))
            with_reducible refine (c_downE _ (rfl : (mkA _ _ _ false _).down = false) HA.out).mono ?_
            rintro e w' ⟨rfl, rfl⟩
            go_wp2_with (first | (refine wp_region_text rfl (by decide +kernel) ?_) | (refine wpT_plain rfl rfl ?_; intro _ _) | (refine wpT_nil ?_))
            with_reducible refine (c_readE _ _ (readA _ _ _ _) HA.out).mono ?_
            rintro e w5 ⟨rfl, hk⟩
            have K5 := Lib.hid (KA.out.trans0 hk); clear hk
            go_wp2_with (first | (refine wp_region_text rfl (by decide +kernel) ?_) | (refine wpT_plain rfl rfl ?_; intro _ _) | (refine wpT_nil ?_))
            go_ret
            exact ⟨rfl, K1.out.trans' K5.out⟩
        · have hce : c = n := by omega
          have HA := Lib.hid (hdn hce)
          clear hup hdn hcl
          by_cases hlt : k < len
          · go_wp2_with (first | (refine wp_region_text rfl (by decide +kernel) ?_) | (refine wpT_plain rfl rfl ?_; intro _ _) | (refine wpT_nil ?_))
            with_reducible refine (c_downE _ (rfl : (mkA _ _ _ true _).down = true) HA.out).mono ?_
            rintro e w' ⟨rfl, rfl⟩
            by_cases p1 : kp < 0
            · have p2 : kk kp rest.size = 0 := by unfold kk; omega
              have P2 := Lib.hid p2; clear p2
              go_wp2_with (first | (refine wp_region_text rfl (by decide +kernel) ?_) | (refine wpT_plain rfl rfl ?_; intro _ _) | (refine wpT_nil ?_))
              with_reducible refine (c_downE _ (rfl : (mkA _ _ _ true _).down = true) HA.out).mono ?_
              rintro e w' ⟨rfl, rfl⟩
              go_wp2_with (first | (refine wp_region_text rfl (by decide +kernel) ?_) | (refine wpT_plain rfl rfl ?_; intro _ _) | (refine wpT_nil ?_))
              with_reducible refine (c_startE _ (startA _ _ _ _ _) HA.out).mono ?_
              rintro e w5 ⟨rfl, hd, hk⟩
              have HB := Lib.hid hd; have K5 := Lib.hid (KA.out.own hk (Nat.le_refl _)); clear hd hk
              have ER : Hid (Dk.read (mkA (safe ++ rest.extract 0 (kk kp rest.size)) (safe.size + kk kp rest.size) 0 false [kp]) 0 = (safe ++ rest.extract 0 0, 0)) := by
                show _ = _
                rw [readA, P2.out]
              go_wp2_with (first | (refine wp_region_text rfl (by decide +kernel) ?_) | (refine wpT_plain rfl rfl ?_; intro _ _) | (refine wpT_nil ?_))
              with_reducible refine (c_readE _ _ ER.out HB.out).mono ?_
              rintro e w6 ⟨rfl, hk⟩
              have K6 := Lib.hid (K5.out.trans0 hk); clear hk
              go_wp2_with (first | (refine wp_region_text rfl (by decide +kernel) ?_) | (refine wpT_plain rfl rfl ?_; intro _ _) | (refine wpT_nil ?_))
              go_ret
              exact ⟨rfl, K1.out.trans' K6.out⟩
            by_cases p3 : kp ≤ rest.size
            · have p2 : kk kp rest.size = kp.toNat := by unfold kk; omega
              have P2 := Lib.hid p2; clear p2
              go_wp2_with (first | (refine wp_region_text rfl (by decide +kernel) ?_) | (refine wpT_plain rfl rfl ?_; intro _ _) | (refine wpT_nil ?_))
              with_reducible refine (c_downE _ (rfl : (mkA _ _ _ true _).down = true) HA.out).mono ?_
              rintro e w' ⟨rfl, rfl⟩
              go_wp2_with (first | (refine wp_region_text rfl (by decide +kernel) ?_) | (refine wpT_plain rfl rfl ?_; intro _ _) | (refine wpT_nil ?_))
              with_reducible refine (c_startE _ (startA _ _ _ _ _) HA.out).mono ?_
              rintro e w5 ⟨rfl, hd, hk⟩
              have HB := Lib.hid hd; have K5 := Lib.hid (KA.out.own hk (Nat.le_refl _)); clear hd hk
              have ER : Hid (Dk.read (mkA (safe ++ rest.extract 0 (kk kp rest.size)) (safe.size + kk kp rest.size) 0 false [kp]) 0 = (safe ++ rest.extract 0 kp.toNat, 0)) := by
                show _ = _
                rw [readA, P2.out]
              go_wp2_with (first | (refine wp_region_text rfl (by decide +kernel) ?_) | (refine wpT_plain rfl rfl ?_; intro _ _) | (refine wpT_nil ?_))
              with_reducible refine (c_readE _ _ ER.out HB.out).mono ?_
              rintro e w6 ⟨rfl, hk⟩
              have K6 := Lib.hid (K5.out.trans0 hk); clear hk
              go_wp2_with (first | (refine wp_region_text rfl (by decide +kernel) ?_) | (refine wpT_plain rfl rfl ?_; intro _ _) | (refine wpT_nil ?_))
              go_ret
              exact ⟨rfl, K1.out.trans' K6.out⟩
            · have p2 : kk kp rest.size = rest.size := by unfold kk; omega
              have P2 := Lib.hid p2; clear p2
              go_wp2_with (first | (refine wp_region_text rfl (by decide +kernel) ?_) | (refine wpT_plain rfl rfl ?_; intro _ _) | (refine wpT_nil ?_))
              with_reducible refine (c_downE _ (rfl : (mkA _ _ _ true _).down = true) HA.out).mono ?_
              rintro e w' ⟨rfl, rfl⟩
              go_wp2_with (first | (refine wp_region_text rfl (by decide +kernel) ?_) | (refine wpT_plain rfl rfl ?_; intro _ _) | (refine wpT_nil ?_))
              with_reducible refine (c_startE _ (startA _ _ _ _ _) HA.out).mono ?_
              rintro e w5 ⟨rfl, hd, hk⟩
              have HB := Lib.hid hd; have K5 := Lib.hid (KA.out.own hk (Nat.le_refl _)); clear hd hk
              have ER : Hid (Dk.read (mkA (safe ++ rest.extract 0 (kk kp rest.size)) (safe.size + kk kp rest.size) 0 false [kp]) 0 = (safe ++ rest, 0)) := by
                show _ = _
                rw [readA, P2.out, ByteArray.extract_zero_size]
              go_wp2_with (first | (refine wp_region_text rfl (by decide +kernel) ?_) | (refine wpT_plain rfl rfl ?_; intro _ _) | (refine wpT_nil ?_))
              with_reducible refine (c_readE _ _ ER.out HB.out).mono ?_
              rintro e w6 ⟨rfl, hk⟩
              have K6 := Lib.hid (K5.out.trans0 hk); clear hk
              go_wp2_with (first | (refine wp_region_text rfl (by decide +kernel) ?_) | (refine wpT_plain rfl rfl ?_; intro _ _) | (refine wpT_nil ?_))
              go_ret
              exact ⟨rfl, K1.out.trans' K6.out⟩
          · have hge : ¬ ((k : Int) < (len : Int)) := by omega
            by_cases p1 : kp < 0
            · have p2 : kk kp rest.size = 0 := by unfold kk; omega
              have P2 := Lib.hid p2; clear p2
              go_wp2_with (first | (refine wp_region_text rfl (by decide +kernel) ?_) | (refine wpT_plain rfl rfl ?_; intro _ _) | (refine wpT_nil ?_))
              with_reducible refine (c_downE _ (rfl : (mkA _ _ _ true _).down = true) HA.out).mono ?_
              rintro e w' ⟨rfl, rfl⟩
              go_wp2_with (first | (refine wp_region_text rfl (by decide +kernel) ?_) | (refine wpT_plain rfl rfl ?_; intro _ _) | (refine wpT_nil ?_))
              with_reducible refine (c_startE _ (startA _ _ _ _ _) HA.out).mono ?_
              rintro e w5 ⟨rfl, hd, hk⟩
              have HB := Lib.hid hd; have K5 := Lib.hid (KA.out.own hk (Nat.le_refl _)); clear hd hk
              have ER : Hid (Dk.read (mkA (safe ++ rest.extract 0 (kk kp rest.size)) (safe.size + kk kp rest.size) 0 false [kp]) 0 = (safe ++ rest.extract 0 0, 0)) := by
                show _ = _
                rw [readA, P2.out]
              go_wp2_with (first | (refine wp_region_text rfl (by decide +kernel) ?_) | (refine wpT_plain rfl rfl ?_; intro _ _) | (refine wpT_nil ?_))
              with_reducible refine (c_readE _ _ ER.out HB.out).mono ?_
              rintro e w6 ⟨rfl, hk⟩
              have K6 := Lib.hid (K5.out.trans0 hk); clear hk
              go_wp2_with (first | (refine wp_region_text rfl (by decide +kernel) ?_) | (refine wpT_plain rfl rfl ?_; intro _ _) | (refine wpT_nil ?_))
              go_ret
              exact ⟨rfl, K1.out.trans' K6.out⟩
            by_cases p3 : kp ≤ rest.size
            · have p2 : kk kp rest.size = kp.toNat := by unfold kk; omega
              have P2 := Lib.hid p2; clear p2
              go_wp2_with (first | (refine wp_region_text rfl (by decide +kernel) ?_) | (refine wpT_plain rfl rfl ?_; intro _ _) | (refine wpT_nil ?_))
              with_reducible refine (c_downE _ (rfl : (mkA _ _ _ true _).down = true) HA.out).mono ?_
              rintro e w' ⟨rfl, rfl⟩
              go_wp2_with (first | (refine wp_region_text rfl (by decide +kernel) ?_) | (refine wpT_plain rfl rfl ?_; intro _ _) | (refine wpT_nil ?_))
              with_reducible refine (c_startE _ (startA _ _ _ _ _) HA.out).mono ?_
              rintro e w5 ⟨rfl, hd, hk⟩
              have HB := Lib.hid hd; have K5 := Lib.hid (KA.out.own hk (Nat.le_refl _)); clear hd hk
              have ER : Hid (Dk.read (mkA (safe ++ rest.extract 0 (kk kp rest.size)) (safe.size + kk kp rest.size) 0 false [kp]) 0 = (safe ++ rest.extract 0 kp.toNat, 0)) := by
                show _ = _
                rw [readA, P2.out]
              go_wp2_with (first | (refine wp_region_text rfl (by decide +kernel) ?_) | (refine wpT_plain rfl rfl ?_; intro _ _) | (refine wpT_nil ?_))
              with_reducible refine (c_readE _ _ ER.out HB.out).mono ?_
              rintro e w6 ⟨rfl, hk⟩
              have K6 := Lib.hid (K5.out.trans0 hk); clear hk
              go_wp2_with (first | (refine wp_region_text rfl (by decide +kernel) ?_) | (refine wpT_plain rfl rfl ?_; intro _ _) | (refine wpT_nil ?_))
              go_ret
              exact ⟨rfl, K1.out.trans' K6.out⟩
            · have p2 : kk kp rest.size = rest.size := by unfold kk; omega
              have P2 := Lib.hid p2; clear p2
              go_wp2_with (first | (refine wp_region_text rfl (by decide +kernel) ?_) | (refine wpT_plain rfl rfl ?_; intro _ _) | (refine wpT_nil ?_))
              with_reducible refine (c_downE _ (rfl : (mkA _ _ _ true _).down = true) HA.out).mono ?_
              rintro e w' ⟨rfl, rfl⟩
              go_wp2_with (first | (refine wp_region_text rfl (by decide +kernel) ?_) | (refine wpT_plain rfl rfl ?_; intro _ _) | (refine wpT_nil ?_))
              with_reducible refine (c_startE _ (startA _ _ _ _ _) HA.out).mono ?_
              rintro e w5 ⟨rfl, hd, hk⟩
              have HB := Lib.hid hd; have K5 := Lib.hid (KA.out.own hk (Nat.le_refl _)); clear hd hk
              have ER : Hid (Dk.read (mkA (safe ++ rest.extract 0 (kk kp rest.size)) (safe.size + kk kp rest.size) 0 false [kp]) 0 = (safe ++ rest, 0)) := by
                show _ = _
                rw [readA, P2.out, ByteArray.extract_zero_size]
              go_wp2_with (first | (refine wp_region_text rfl (by decide +kernel) ?_) | (refine wpT_plain rfl rfl ?_; intro _ _) | (refine wpT_nil ?_))
              with_reducible refine (c_readE _ _ ER.out HB.out).mono ?_
              rintro e w6 ⟨rfl, hk⟩
              have K6 := Lib.hid (K5.out.trans0 hk); clear hk
              go_wp2_with (first | (refine wp_region_text rfl (by decide +kernel) ?_) | (refine wpT_plain rfl rfl ?_; intro _ _) | (refine wpT_nil ?_))
              go_ret
              exact ⟨rfl, K1.out.trans' K6.out⟩
end Go.Proofs.Ytcnkbpghafhceaa
