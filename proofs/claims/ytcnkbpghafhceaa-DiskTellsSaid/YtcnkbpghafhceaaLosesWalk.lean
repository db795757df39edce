/- Helper text of this claim: LosesWalk: lemmas and contracts that the proved statement rests on; no conditions of its own. -/
import Derived.Test.YtcnkbpghafhceaaTurnsWalk
import Derived.Test.YtcnkbpghafhceaaML
namespace Go.Proofs.Ytcnkbpghafhceaa
open Go.RowKit Go.Pw Go.Pw.Dk
theorem DiskAt.other {w w' : World} {b bc : Nat} {D C : St} (h : DiskAt w b D) (hc : DiskAt w bc C) (k : Keeps w w' (one_ bc)) (hne : b ≠ bc) : DiskAt w' b D :=
  h.kept k hne fun i n hi e => by
    cases e; rw [hc.sh] at hi; cases hi
theorem c_startE {b : Nat} {D D' : St} (w : World) (E : start0 D = D') (h : DiskAt w b D) :
    Calls Try.prog 15 #[.pointer (some ⟨b, 0, none⟩)] w fun e w' => e = .returned (.tuple #[]) ∧ DiskAt w' b D' ∧ Keeps w w' (one_ b) := by
  subst E; exact c_start b D w h
theorem c_loseE {b : Nat} {D D' : St} (n : Int) (w : World) (E : lose D n = D') (h : DiskAt w b D) (hn : n ≤ 9223372036854775807) :
    Calls Try.prog 18 #[.pointer (some ⟨b, 0, none⟩), .int .i64 n] w fun e w' => e = .returned (.tuple #[]) ∧ DiskAt w' b D' ∧ Keeps w w' (one_ b) := by
  subst E; exact c_lose b D n w h hn
theorem nil_ne (b : Nat) (w : World) : IntsNe b w (.slice none 0 0) [] := .inl ⟨none, 0, rfl, rfl⟩
set_option maxRecDepth 100000 in
set_option maxHeartbeats 2000000 in
theorem loses_big (s : ByteArray) (n : Int) (w : World) (h1 : s.size ≤ 9223372036854775807) (h : 50000 < s.size ∨ 20 < n) :
    Calls Try.prog 4 #[.string s, .int .i64 n] w fun e w' => e = .returned (.bool true) ∧ Keeps w w' none_ := by
  by_cases he : 50000 < s.size
  · clear h
    go_enter Try.func4, Try.ntmps4
    go_wp2_with fail
    with_reducible refine (c_small _).mono ?_
    rintro e w1 ⟨rfl, hk⟩
    have K1 := Lib.hid hk; clear hk
    go_wp2_with fail
    with_reducible refine (c_new _).mono ?_
    rintro e w2 ⟨rfl, hd, hk⟩
    rw [new_mk1] at hd
    have H2 := Lib.hid hd; have K2 := Lib.hid hk; clear hd hk
    go_wp2_with fail
    go_ret
    exact ⟨rfl, K1.out.trans' K2.out⟩
  · have hn : 20 < n := by omega
    clear h
    go_enter Try.func4, Try.ntmps4
    go_wp2_with fail
    with_reducible refine (c_small _).mono ?_
    rintro e w1 ⟨rfl, hk⟩
    have K1 := Lib.hid hk; clear hk
    go_wp2_with fail
    with_reducible refine (c_new _).mono ?_
    rintro e w2 ⟨rfl, hd, hk⟩
    rw [new_mk1] at hd
    have H2 := Lib.hid hd; have K2 := Lib.hid hk; clear hd hk
    go_wp2_with fail
    go_ret
    exact ⟨rfl, K1.out.trans' K2.out⟩
set_option maxRecDepth 100000 in
set_option maxHeartbeats 2000000 in
theorem loses_small (s : ByteArray) (n : Int) (w : World) (h1 : s.size ≤ 50000) (h : n ≤ 20) :
    Calls Try.prog 4 #[.string s, .int .i64 n] w fun e w' => e = .returned (.bool true) ∧ Keeps w w' none_ := by
  have E1 : Hid (app (mk1 ByteArray.empty 0 (max n 0) false) 0 s = (0, mk1 s 0 (max n 0) false)) := by
    have := app1 ByteArray.empty 0 (max n 0) s (by simp; omega)
    rw [ByteArray.empty_append] at this; exact this
  go_enter Try.func4, Try.ntmps4
  go_wp2_with fail
  with_reducible refine (c_small _).mono ?_
  rintro e w1 ⟨rfl, hk⟩
  have K1 := Lib.hid hk; clear hk
  go_wp2_with fail
  with_reducible refine (c_new _).mono ?_
  rintro e w2 ⟨rfl, hd, hk⟩
  rw [new_mk1] at hd
  have H2 := Lib.hid hd; have K2 := Lib.hid hk; clear hd hk
  go_wp2_with fail
  with_reducible refine (c_loseE n _ (lose1 _ _ _ n _) H2.out (by omega)).mono ?_
  rintro e w3 ⟨rfl, hd, hk⟩
  have H3 := Lib.hid hd; have K3 := Lib.hid (K2.out.own hk (Nat.le_refl _)); clear hd hk
  go_wp2_with fail
  with_reducible refine (c_appendE _ _ _ E1.out H3.out (by omega)).mono ?_
  rintro e w4 ⟨rfl, hd, hk⟩
  have H4 := Lib.hid hd; have K4 := Lib.hid (K3.out.own hk (Nat.le_refl _)); clear hd hk
  go_wp2_with fail
  go_loopw [7] (fun i wr => ∃ k : Nat, k ≤ n.toNat ∧ i = .int .i64 k ∧ DiskAt wr w1.heap.size (mk1 s 0 (max n 0 - k) false) ∧ Keeps w1 wr none_) (fun i _ => n.toNat - (intOf i).toNat)
  case atStart => exact ⟨0, by omega, rfl, by simpa using H4.out, K4.out⟩
  case round =>
    obtain ⟨k, hk, rfl, hD, hKp⟩ := hrel
    have HA := Lib.hid hD; have KA := Lib.hid hKp; clear hD hKp
    by_cases hlt : (k : Int) < n
    · have F1 : Hid (flush (mk1 s 0 (max n 0 - k) false) 0 = (14, mk1 s 0 (max n 0 - k - 1) false)) := flush1l _ _ _ (by omega)
      have F2 := Lib.hid (crash1 s 0 (max n 0 - k - 1))
      go_wp2_with fail
      with_reducible refine (c_copy _ _ _ HA.out).mono ?_
      rintro e w5 ⟨rfl, hc, hd, hk5⟩
      have hsz : w1.heap.size < w5.heap.size ∧ w1.heap.size < wr.heap.size := ⟨hd.lt, HA.out.lt⟩
      obtain ⟨hsz1, hsz2⟩ := hsz
      have HC5 := Lib.hid hc; have HD5 := Lib.hid hd; have K5 := Lib.hid (KA.out.trans0 hk5); clear hc hd hk5
      go_wp2_with fail
      with_reducible refine (c_flushE _ _ F1.out HD5.out).mono ?_
      rintro e w6 ⟨rfl, hd, hk6⟩
      have HC6 := Lib.hid (DiskAt.other HC5.out HD5.out hk6 (by omega)); have HD6 := Lib.hid hd; have K6 := Lib.hid (K5.out.own hk6 (Nat.le_refl _)); clear hd hk6
      go_wp2_with fail
      with_reducible refine (c_flushE _ _ F1.out HC6.out).mono ?_
      rintro e w7 ⟨rfl, hc, hk7⟩
      have HD7 := Lib.hid (DiskAt.other HD6.out HC6.out hk7 (by omega)); have HC7 := Lib.hid hc; have K7 := Lib.hid (K6.out.own hk7 (by omega)); clear hc hk7
      go_wp2_with fail
      with_reducible refine (c_crashE _ [] _ F2.out HC7.out (nil_ne _ _)).mono ?_
      rintro e w8 ⟨rfl, hc, hk8⟩
      have HD8 := Lib.hid (DiskAt.other HD7.out HC7.out hk8 (by omega)); have HC8 := Lib.hid hc; have K8 := Lib.hid (K7.out.own hk8 (by omega)); clear hc hk8
      go_wp2_with fail
      with_reducible refine (c_startE _ (start1 _ _ _ _) HC8.out).mono ?_
      rintro e w9 ⟨rfl, hc, hk9⟩
      have HD9 := Lib.hid (DiskAt.other HD8.out HC8.out hk9 (by omega)); have HC9 := Lib.hid hc; have K9 := Lib.hid (K8.out.own hk9 (by omega)); clear hc hk9
      have R : Hid (Dk.read (mk1 (s.extract 0 0) 0 (max n 0 - k - 1) false) 0 = (⟨#[]⟩, 0)) := by
        show _ = _
        rw [read1]
        have hz0 : (s.extract 0 0).size = 0 := by simp [ByteArray.size_extract]
        rw [show s.extract 0 0 = ⟨#[]⟩ from ByteArray.ext (Array.eq_empty_of_size_eq_zero hz0)]
      go_wp2_with fail
      with_reducible refine (c_readE _ _ R.out HC9.out).mono ?_
      rintro e w10 ⟨rfl, hk10⟩
      have HD10 := Lib.hid (HD9.out.kept hk10 id (fun _ _ _ => id)); have K10 := Lib.hid (K9.out.trans0 hk10); clear hk10
      go_wp2_with fail
      go_roundw
      case rel => exact ⟨k + 1, by omega, by go_num, by have := HD10.out; rw [show (max n 0 - ((k + 1 : Nat) : Int)) = max n 0 - k - 1 from by omega]; exact this, K10.out⟩
      case measure => simp [intOf]; omega
    · have hz : max n 0 - (k : Int) = 0 := by omega
      rw [hz] at HA
      have F1 : Hid (flush (mk1 s 0 0 false) 0 = (0, mk1 s s.size 0 false)) := flush1o _ _
      have F2 : Hid (crash (mk1 s s.size 0 false) [] = mk1 s s.size 0 true) := by
        have := crash1 s s.size 0
        rw [ByteArray.extract_zero_size] at this; exact this
      clear hz
      go_wp2_with fail
      with_reducible refine (c_flushE _ _ F1.out HA.out).mono ?_
      rintro e w6 ⟨rfl, hd, hk6⟩
      have HD6 := Lib.hid hd; have K6 := Lib.hid (KA.out.own hk6 (Nat.le_refl _)); clear hd hk6
      go_wp2_with fail
      with_reducible refine (c_crashE _ [] _ F2.out HD6.out (nil_ne _ _)).mono ?_
      rintro e w8 ⟨rfl, hc, hk8⟩
      have HC8 := Lib.hid hc; have K8 := Lib.hid (K6.out.own hk8 (Nat.le_refl _)); clear hc hk8
      go_wp2_with fail
      with_reducible refine (c_startE _ (start1 _ _ _ _) HC8.out).mono ?_
      rintro e w9 ⟨rfl, hc, hk9⟩
      have HC9 := Lib.hid hc; have K9 := Lib.hid (K8.out.own hk9 (Nat.le_refl _)); clear hc hk9
      go_wp2_with fail
      with_reducible refine (c_readE _ _ (read1 _ _ _) HC9.out).mono ?_
      rintro e w10 ⟨rfl, hk10⟩
      have K10 := Lib.hid (K9.out.trans0 hk10); clear hk10
      go_wp2_with fail
      go_ret
      exact ⟨rfl, K1.out.trans' K10.out⟩
end Go.Proofs.Ytcnkbpghafhceaa
