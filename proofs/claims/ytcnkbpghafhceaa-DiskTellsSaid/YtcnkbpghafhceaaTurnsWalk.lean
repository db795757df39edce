/- Helper text of this claim: TurnsWalk: lemmas and contracts that the proved statement rests on; no conditions of its own. -/
import Derived.Test.YtcnkbpghafhceaaC8
import Derived.Test.YtcnkbpghafhceaaMT
import Derived.Laws.Cover1
namespace Go.Proofs.Ytcnkbpghafhceaa
open Go.RowKit Go.Pw Go.Pw.Dk
theorem IntsNe.of {b : Nat} {w w' : World} {v : Value} {zs : List Int} (h : IntsNe w.heap.size w v zs) (k : Keeps w w' none_) (hb : w.heap.size ≤ b) : IntsNe b w' v zs := by
  rcases h with h | ⟨kb, ko, cap, h1, h2, h3, h4, h5⟩
  · exact .inl h
  · exact .inr ⟨kb, ko, cap, h1, Nat.lt_of_lt_of_le h2 k.size, by omega, h4, fun i hi => by rw [k.cell h2 id]; exact h5 i hi⟩
theorem c_appendE {b : Nat} {D D' : St} (f : Int) (s : ByteArray) {r : Int} (w : World) (E : app D f s = (r, D')) (h : DiskAt w b D) (hs : s.size ≤ 9223372036854775807) :
    Calls Try.prog 11 #[.pointer (some ⟨b, 0, none⟩), .int .i64 f, .string s] w fun e w' => e = .returned (.int .i64 r) ∧ DiskAt w' b D' ∧ Keeps w w' (one_ b) := by
  have := c_append b D f s w h hs
  rw [E] at this; exact this
theorem c_flushE {b : Nat} {D D' : St} (f : Int) {r : Int} (w : World) (E : flush D f = (r, D')) (h : DiskAt w b D) :
    Calls Try.prog 12 #[.pointer (some ⟨b, 0, none⟩), .int .i64 f] w fun e w' => e = .returned (.int .i64 r) ∧ DiskAt w' b D' ∧ Keeps w w' (one_ b) := by
  have := c_flush b D f w h
  rw [E] at this; exact this
theorem c_turnE {b : Nat} {D D' : St} (f g : Int) {r : Int} (w : World) (E : turn D f g = (r, D')) (h : DiskAt w b D) :
    Calls Try.prog 13 #[.pointer (some ⟨b, 0, none⟩), .int .i64 f, .int .i64 g] w fun e w' => e = .returned (.int .i64 r) ∧ DiskAt w' b D' ∧ Keeps w w' (one_ b) := by
  have := c_turn b D f g w h
  rw [E] at this; exact this
theorem c_cutE {b : Nat} {D D' : St} (f n : Int) {r : Int} (w : World) (E : cut D f n = (r, D')) (h : DiskAt w b D) :
    Calls Try.prog 33 #[.pointer (some ⟨b, 0, none⟩), .int .i64 f, .int .i64 n] w fun e w' => e = .returned (.int .i64 r) ∧ DiskAt w' b D' ∧ Keeps w w' (one_ b) := by
  have := c_cut b D f n w h
  rw [E] at this; exact this
theorem c_readE {b : Nat} {D : St} (f : Int) {s : ByteArray} {r : Int} (w : World) (E : Dk.read D f = (s, r)) (h : DiskAt w b D) :
    Calls Try.prog 16 #[.pointer (some ⟨b, 0, none⟩), .int .i64 f] w fun e w' => e = .returned (.tuple #[.string s, .int .i64 r]) ∧ Keeps w w' none_ := by
  have := c_read b D f w h
  rw [E] at this; exact this
theorem c_crashE {b : Nat} {D D' : St} (v : Value) (kl : List Int) (w : World) (E : crash D kl = D') (h : DiskAt w b D) (hv : IntsNe b w v kl) :
    Calls Try.prog 14 #[.pointer (some ⟨b, 0, none⟩), v] w fun e w' => e = .returned (.tuple #[]) ∧ DiskAt w' b D' ∧ Keeps w w' (one_ b) := by
  subst E; exact c_crashNe b D v kl w h hv
theorem c_sizeE {b : Nat} {D : St} (f : Int) {r : Int} (w : World) (E : sizeI D f = r) (h : DiskAt w b D) :
    Calls Try.prog 17 #[.pointer (some ⟨b, 0, none⟩), .int .i64 f] w fun e w' => e = .returned (.int .i64 r) ∧ w = w' := by
  subst E; exact c_size b D f w h
set_option maxRecDepth 100000 in
set_option maxHeartbeats 1000000 in
theorem turns_big (elder newer : ByteArray) (stp : Int) (kv : Value) (w : World) (h1 : elder.size ≤ 9223372036854775807) (h2 : newer.size ≤ 9223372036854775807) (h : 50000 < elder.size ∨ 50000 < newer.size) :
    Calls Try.prog 3 #[.string elder, .string newer, .int .i64 stp, kv] w fun e w' => e = .returned (.bool true) ∧ Keeps w w' none_ := by
  by_cases he : 50000 < elder.size
  · clear h
    go_enter Try.func3, Try.ntmps3
    go_wp2_with fail
    with_reducible refine (c_small _).mono ?_
    rintro e w1 ⟨rfl, hk⟩
    have K1 := Lib.hid hk; clear hk
    go_wp2_with fail
    with_reducible refine (c_new _).mono ?_
    rintro e w2 ⟨rfl, hd, hk⟩
    have K2 := Lib.hid (K1.out.trans' hk); clear hd hk
    go_wp2_with fail
    go_ret
    exact ⟨rfl, K2.out⟩
  · have hn : 50000 < newer.size := by omega
    clear h
    go_enter Try.func3, Try.ntmps3
    go_wp2_with fail
    with_reducible refine (c_small _).mono ?_
    rintro e w1 ⟨rfl, hk⟩
    have K1 := Lib.hid hk; clear hk
    go_wp2_with fail
    with_reducible refine (c_new _).mono ?_
    rintro e w2 ⟨rfl, hd, hk⟩
    have K2 := Lib.hid (K1.out.trans' hk); clear hd hk
    go_wp2_with fail
    go_ret
    exact ⟨rfl, K2.out⟩
set_option maxRecDepth 100000 in
set_option maxHeartbeats 2000000 in
theorem turns_zero (elder newer : ByteArray) (kv : Value) (kl : List Int) (w : World) (h1 : elder.size ≤ 50000) (h2 : newer.size ≤ 50000) (hv : IntsNe w.heap.size w kv kl) :
    Calls Try.prog 3 #[.string elder, .string newer, .int .i64 0, kv] w fun e w' => e = .returned (.bool true) ∧ Keeps w w' none_ := by
  have HV := Lib.hid hv; clear hv
  have E1 : Hid (app (mk2 ByteArray.empty 0 ByteArray.empty 0 false) 3 elder = (0, mk2 elder 0 ByteArray.empty 0 false)) := by
    have := app3 ByteArray.empty 0 ByteArray.empty 0 elder (by simp; omega)
    rw [ByteArray.empty_append] at this; exact this
  have E2 : Hid (flush (mk2 elder 0 ByteArray.empty 0 false) 3 = (0, mk2 elder elder.size ByteArray.empty 0 false)) := flush3 _ _ _ _
  have E3 : Hid (turn (mk2 elder elder.size ByteArray.empty 0 false) 3 4 = (0, mk2 ByteArray.empty 0 ⟨#[]⟩ 0 false)) := turn34b _ _ _ _ (by simp)
  obtain ⟨k3, k4, _, _, e4⟩ := crash2 ByteArray.empty 0 ⟨#[]⟩ 0 kl
  have hx : (ByteArray.empty).extract 0 (0 + k3) = ByteArray.empty := by simp
  rw [hx] at e4
  have E4 := Lib.hid e4; clear e4 hx
  go_enter Try.func3, Try.ntmps3
  go_wp2_with fail
  with_reducible refine (c_small _).mono ?_
  rintro e w1 ⟨rfl, hk⟩
  have K1 := Lib.hid hk; clear hk
  go_wp2_with fail
  with_reducible refine (c_new _).mono ?_
  rintro e w2 ⟨rfl, hd, hk⟩
  rw [new_mk2] at hd
  have H2 := Lib.hid hd; have K2 := Lib.hid hk; clear hd hk
  go_wp2_with fail
  with_reducible refine (c_appendE _ _ _ E1.out H2.out (by first | omega | decide)).mono ?_
  rintro e w3 ⟨rfl, hd, hk⟩
  have H3 := Lib.hid hd; have K3 := Lib.hid (K2.out.own hk (Nat.le_refl _)); clear hd hk
  go_wp2_with fail
  with_reducible refine (c_flushE _ _ E2.out H3.out).mono ?_
  rintro e w4 ⟨rfl, hd, hk⟩
  have H4 := Lib.hid hd; have K4 := Lib.hid (K3.out.own hk (Nat.le_refl _)); clear hd hk
  go_wp2_with fail
  with_reducible refine (c_turnE _ _ _ E3.out H4.out).mono ?_
  rintro e w5 ⟨rfl, hd, hk⟩
  have H5 := Lib.hid hd; have K5 := Lib.hid (K4.out.own hk (Nat.le_refl _)); clear hd hk
  go_wp2_with fail
  with_reducible refine (c_crashE _ kl _ E4.out H5.out (by exact HV.out.of (K1.out.trans' K5.out) K1.out.size)).mono ?_
  rintro e w6 ⟨rfl, hd, hk⟩
  have H6 := Lib.hid hd; have K6 := Lib.hid (K5.out.own hk (Nat.le_refl _)); clear hd hk
  go_wp2_with fail
  with_reducible refine (c_start _ _ _ H6.out).mono ?_
  rintro e w7 ⟨rfl, hd, hk⟩
  have H7 := Lib.hid hd; have K7 := Lib.hid (K6.out.own hk (Nat.le_refl _)); clear hd hk
  have H7' := Lib.hid (start2 _ _ _ _ _ ▸ H7.out)
  clear H7
  have H7 := H7'
  clear H7'
  go_wp2_with fail
  with_reducible refine (c_readE _ _ (read3 _ _ _ _) H7.out).mono ?_
  rintro e w8 ⟨rfl, hk⟩
  have H8 := Lib.hid (H7.out.kept hk id (fun _ _ _ => id)); have K8 := Lib.hid (K7.out.trans0 hk); clear hk
  go_wp2_with fail
  go_ret
  exact ⟨by first | rfl | simp [Nat.min_le_right], K1.out.trans' K8.out⟩
set_option maxRecDepth 100000 in
set_option maxHeartbeats 2000000 in
theorem turns_one (elder newer : ByteArray) (kv : Value) (kl : List Int) (w : World) (h1 : elder.size ≤ 50000) (h2 : newer.size ≤ 50000) (hv : IntsNe w.heap.size w kv kl) (hne : newer.size ≠ 0) :
    Calls Try.prog 3 #[.string elder, .string newer, .int .i64 1, kv] w fun e w' => e = .returned (.bool true) ∧ Keeps w w' none_ := by
  have HV := Lib.hid hv; clear hv
  have E1 : Hid (app (mk2 ByteArray.empty 0 ByteArray.empty 0 false) 3 elder = (0, mk2 elder 0 ByteArray.empty 0 false)) := by
    have := app3 ByteArray.empty 0 ByteArray.empty 0 elder (by simp; omega)
    rw [ByteArray.empty_append] at this; exact this
  have E2 : Hid (flush (mk2 elder 0 ByteArray.empty 0 false) 3 = (0, mk2 elder elder.size ByteArray.empty 0 false)) := flush3 _ _ _ _
  have E4 : Hid (app (mk2 elder elder.size ByteArray.empty 0 false) 4 newer = (0, mk2 elder elder.size newer 0 false)) := by
    have := app4 elder elder.size ByteArray.empty 0 newer (by simp; omega)
    rw [ByteArray.empty_append] at this; exact this
  have hb1 : newer.toList.isEmpty = false := by
    rw [ByteArray.toList_eq]
    cases h : newer.data.toList with
    | nil => exfalso; apply hne; show newer.data.size = 0; rw [← Array.length_toList, h]; rfl
    | cons a l => rfl
  have hlt : 0 < newer.size := by omega
  have E3 : Hid (turn (mk2 elder elder.size newer 0 false) 3 4 = (17, mk2 elder elder.size newer 0 false)) := turn34a _ _ _ _ hlt
  obtain ⟨k3, k4, hk3, hk4, e4⟩ := crash2 elder elder.size newer 0 kl
  have hx : elder.extract 0 (elder.size + k3) = elder := by
    have : elder.size + k3 = elder.size := by omega
    rw [this]; exact ByteArray.extract_zero_size
  rw [hx] at e4
  have hsz : (newer.extract 0 (0 + k4)).size ≤ newer.size := by rw [ByteArray.size_extract]; omega
  have E5 := Lib.hid e4; clear e4 hx hne
  go_enter Try.func3, Try.ntmps3
  go_wp2_with fail
  with_reducible refine (c_small _).mono ?_
  rintro e w1 ⟨rfl, hk⟩
  have K1 := Lib.hid hk; clear hk
  go_wp2_with fail
  with_reducible refine (c_new _).mono ?_
  rintro e w2 ⟨rfl, hd, hk⟩
  rw [new_mk2] at hd
  have H2 := Lib.hid hd; have K2 := Lib.hid hk; clear hd hk
  go_wp2_with fail
  with_reducible refine (c_appendE _ _ _ E1.out H2.out (by first | omega | decide)).mono ?_
  rintro e w3 ⟨rfl, hd, hk⟩
  have H3 := Lib.hid hd; have K3 := Lib.hid (K2.out.own hk (Nat.le_refl _)); clear hd hk
  go_wp2_with fail
  with_reducible refine (c_flushE _ _ E2.out H3.out).mono ?_
  rintro e w4 ⟨rfl, hd, hk⟩
  have H4 := Lib.hid hd; have K4 := Lib.hid (K3.out.own hk (Nat.le_refl _)); clear hd hk
  go_wp2_with fail
  with_reducible refine (c_appendE _ _ _ E4.out H4.out (by first | omega | decide)).mono ?_
  rintro e w5 ⟨rfl, hd, hk⟩
  have H5 := Lib.hid hd; have K5 := Lib.hid (K4.out.own hk (Nat.le_refl _)); clear hd hk
  go_wp2_with fail
  with_reducible refine (c_turnE _ _ _ E3.out H5.out).mono ?_
  rintro e w6 ⟨rfl, hd, hk⟩
  have H6 := Lib.hid hd; have K6 := Lib.hid (K5.out.own hk (Nat.le_refl _)); clear hd hk
  go_wp2_with fail
  with_reducible refine (c_crashE _ kl _ E5.out H6.out (by exact HV.out.of (K1.out.trans' K6.out) K1.out.size)).mono ?_
  rintro e w7 ⟨rfl, hd, hk⟩
  have H7 := Lib.hid hd; have K7 := Lib.hid (K6.out.own hk (Nat.le_refl _)); clear hd hk
  go_wp2_with fail
  with_reducible refine (c_start _ _ _ H7.out).mono ?_
  rintro e w8 ⟨rfl, hd, hk⟩
  have H8 := Lib.hid hd; have K8 := Lib.hid (K7.out.own hk (Nat.le_refl _)); clear hd hk
  have H8' := Lib.hid (start2 _ _ _ _ _ ▸ H8.out)
  clear H8
  have H8 := H8'
  clear H8'
  go_wp2_with fail
  with_reducible refine (c_readE _ _ (read3 _ _ _ _) H8.out).mono ?_
  rintro e w9 ⟨rfl, hk⟩
  have H9 := Lib.hid (H8.out.kept hk id (fun _ _ _ => id)); have K9 := Lib.hid (K8.out.trans0 hk); clear hk
  go_wp2_with fail
  with_reducible refine (c_sizeE _ _ (size4 _ _ _ _) H9.out).mono ?_
  rintro e w' ⟨rfl, rfl⟩
  go_wp2_with fail
  go_ret
  exact ⟨by first | rfl | simp [Nat.min_le_right], K1.out.trans' K9.out⟩
set_option maxRecDepth 100000 in
set_option maxHeartbeats 2000000 in
theorem turns_oneE (elder : ByteArray) (kv : Value) (kl : List Int) (w : World) (h1 : elder.size ≤ 50000) (hv : IntsNe w.heap.size w kv kl) :
    Calls Try.prog 3 #[.string elder, .string ⟨#[]⟩, .int .i64 1, kv] w fun e w' => e = .returned (.bool true) ∧ Keeps w w' none_ := by
  have HV := Lib.hid hv; clear hv
  have E1 : Hid (app (mk2 ByteArray.empty 0 ByteArray.empty 0 false) 3 elder = (0, mk2 elder 0 ByteArray.empty 0 false)) := by
    have := app3 ByteArray.empty 0 ByteArray.empty 0 elder (by simp; omega)
    rw [ByteArray.empty_append] at this; exact this
  have E2 : Hid (flush (mk2 elder 0 ByteArray.empty 0 false) 3 = (0, mk2 elder elder.size ByteArray.empty 0 false)) := flush3 _ _ _ _
  have E4 : Hid (app (mk2 elder elder.size ByteArray.empty 0 false) 4 ⟨#[]⟩ = (0, mk2 elder elder.size ⟨#[]⟩ 0 false)) := app4 elder elder.size ByteArray.empty 0 ⟨#[]⟩ (by decide)
  have E3 : Hid (turn (mk2 elder elder.size ⟨#[]⟩ 0 false) 3 4 = (0, mk2 ⟨#[]⟩ 0 ⟨#[]⟩ 0 false)) := turn34b _ _ _ _ (by decide)
  obtain ⟨k3, k4, hk3, hk4, e4⟩ := crash2 ⟨#[]⟩ 0 ⟨#[]⟩ 0 kl
  have hx : ((⟨#[]⟩ : ByteArray).extract 0 (0 + k3)) = ⟨#[]⟩ := by
    have : k3 = 0 := Nat.le_zero.1 hk3
    rw [this]; rfl
  have hy : ((⟨#[]⟩ : ByteArray).extract 0 (0 + k4)) = ⟨#[]⟩ := by
    have : k4 = 0 := Nat.le_zero.1 hk4
    rw [this]; rfl
  rw [hx, hy] at e4
  have E5 := Lib.hid e4; clear e4 hx hy
  go_enter Try.func3, Try.ntmps3
  go_wp2_with fail
  with_reducible refine (c_small _).mono ?_
  rintro e w1 ⟨rfl, hk⟩
  have K1 := Lib.hid hk; clear hk
  go_wp2_with fail
  with_reducible refine (c_new _).mono ?_
  rintro e w2 ⟨rfl, hd, hk⟩
  rw [new_mk2] at hd
  have H2 := Lib.hid hd; have K2 := Lib.hid hk; clear hd hk
  go_wp2_with fail
  with_reducible refine (c_appendE _ _ _ E1.out H2.out (by first | omega | decide)).mono ?_
  rintro e w3 ⟨rfl, hd, hk⟩
  have H3 := Lib.hid hd; have K3 := Lib.hid (K2.out.own hk (Nat.le_refl _)); clear hd hk
  go_wp2_with fail
  with_reducible refine (c_flushE _ _ E2.out H3.out).mono ?_
  rintro e w4 ⟨rfl, hd, hk⟩
  have H4 := Lib.hid hd; have K4 := Lib.hid (K3.out.own hk (Nat.le_refl _)); clear hd hk
  go_wp2_with fail
  with_reducible refine (c_appendE _ _ _ E4.out H4.out (by first | omega | decide)).mono ?_
  rintro e w5 ⟨rfl, hd, hk⟩
  have H5 := Lib.hid hd; have K5 := Lib.hid (K4.out.own hk (Nat.le_refl _)); clear hd hk
  go_wp2_with fail
  with_reducible refine (c_turnE _ _ _ E3.out H5.out).mono ?_
  rintro e w6 ⟨rfl, hd, hk⟩
  have H6 := Lib.hid hd; have K6 := Lib.hid (K5.out.own hk (Nat.le_refl _)); clear hd hk
  go_wp2_with fail
  with_reducible refine (c_crashE _ kl _ E5.out H6.out (by exact HV.out.of (K1.out.trans' K6.out) K1.out.size)).mono ?_
  rintro e w7 ⟨rfl, hd, hk⟩
  have H7 := Lib.hid hd; have K7 := Lib.hid (K6.out.own hk (Nat.le_refl _)); clear hd hk
  go_wp2_with fail
  with_reducible refine (c_start _ _ _ H7.out).mono ?_
  rintro e w8 ⟨rfl, hd, hk⟩
  have H8 := Lib.hid hd; have K8 := Lib.hid (K7.out.own hk (Nat.le_refl _)); clear hd hk
  have H8' := Lib.hid (start2 _ _ _ _ _ ▸ H8.out)
  clear H8
  have H8 := H8'
  clear H8'
  go_wp2_with fail
  with_reducible refine (c_readE _ _ (read3 _ _ _ _) H8.out).mono ?_
  rintro e w9 ⟨rfl, hk⟩
  have H9 := Lib.hid (H8.out.kept hk id (fun _ _ _ => id)); have K9 := Lib.hid (K8.out.trans0 hk); clear hk
  go_wp2_with fail
  with_reducible refine (c_sizeE _ _ (size4 _ _ _ _) H9.out).mono ?_
  rintro e w' ⟨rfl, rfl⟩
  go_wp2_with fail
  go_ret
  exact ⟨by first | rfl | simp [Nat.min_le_right], K1.out.trans' K9.out⟩
set_option maxRecDepth 100000 in
set_option maxHeartbeats 2000000 in
theorem turns_more (elder newer : ByteArray) (stp : Int) (kv : Value) (kl : List Int) (w : World) (h1 : elder.size ≤ 50000) (h2 : newer.size ≤ 50000) (hv : IntsNe w.heap.size w kv kl) (s0 : (stp == 0) = false) (s1 : (stp == 1) = false) :
    Calls Try.prog 3 #[.string elder, .string newer, .int .i64 stp, kv] w fun e w' => e = .returned (.bool true) ∧ Keeps w w' none_ := by
  have HV := Lib.hid hv; clear hv
  have E1 : Hid (app (mk2 ByteArray.empty 0 ByteArray.empty 0 false) 3 elder = (0, mk2 elder 0 ByteArray.empty 0 false)) := by
    have := app3 ByteArray.empty 0 ByteArray.empty 0 elder (by simp; omega)
    rw [ByteArray.empty_append] at this; exact this
  have E2 : Hid (flush (mk2 elder 0 ByteArray.empty 0 false) 3 = (0, mk2 elder elder.size ByteArray.empty 0 false)) := flush3 _ _ _ _
  have E4 : Hid (app (mk2 elder elder.size ByteArray.empty 0 false) 4 newer = (0, mk2 elder elder.size newer 0 false)) := by
    have := app4 elder elder.size ByteArray.empty 0 newer (by simp; omega)
    rw [ByteArray.empty_append] at this; exact this
  have E6 : Hid (flush (mk2 elder elder.size newer 0 false) 4 = (0, mk2 elder elder.size newer newer.size false)) := flush4 _ _ _ _
  have s2 : (stp != 0) = true := by simp [bne, s0]
  have s3 : (stp != 1) = true := by simp [bne, s1]
  have E3 : Hid (turn (mk2 elder elder.size newer newer.size false) 3 4 = (0, mk2 newer newer.size ⟨#[]⟩ 0 false)) := turn34b _ _ _ _ (by omega)
  obtain ⟨k3, k4, hk3, hk4, e4⟩ := crash2 newer newer.size ⟨#[]⟩ 0 kl
  have hx : newer.extract 0 (newer.size + k3) = newer := by
    have : newer.size + k3 = newer.size := by omega
    rw [this]; exact ByteArray.extract_zero_size
  have hy : ((⟨#[]⟩ : ByteArray).extract 0 (0 + k4)) = ⟨#[]⟩ := by
    have : k4 = 0 := Nat.le_zero.1 hk4
    rw [this]; rfl
  rw [hx, hy] at e4
  have E5 := Lib.hid e4; clear e4 hx hy
  go_enter Try.func3, Try.ntmps3
  go_wp2_with fail
  with_reducible refine (c_small _).mono ?_
  rintro e w1 ⟨rfl, hk⟩
  have K1 := Lib.hid hk; clear hk
  go_wp2_with fail
  with_reducible refine (c_new _).mono ?_
  rintro e w2 ⟨rfl, hd, hk⟩
  rw [new_mk2] at hd
  have H2 := Lib.hid hd; have K2 := Lib.hid hk; clear hd hk
  go_wp2_with fail
  with_reducible refine (c_appendE _ _ _ E1.out H2.out (by first | omega | decide)).mono ?_
  rintro e w3 ⟨rfl, hd, hk⟩
  have H3 := Lib.hid hd; have K3 := Lib.hid (K2.out.own hk (Nat.le_refl _)); clear hd hk
  go_wp2_with fail
  with_reducible refine (c_flushE _ _ E2.out H3.out).mono ?_
  rintro e w4 ⟨rfl, hd, hk⟩
  have H4 := Lib.hid hd; have K4 := Lib.hid (K3.out.own hk (Nat.le_refl _)); clear hd hk
  go_wp2_with fail
  with_reducible refine (c_appendE _ _ _ E4.out H4.out (by first | omega | decide)).mono ?_
  rintro e w5 ⟨rfl, hd, hk⟩
  have H5 := Lib.hid hd; have K5 := Lib.hid (K4.out.own hk (Nat.le_refl _)); clear hd hk
  go_wp2_with fail
  with_reducible refine (c_flushE _ _ E6.out H5.out).mono ?_
  rintro e w6 ⟨rfl, hd, hk⟩
  have H6 := Lib.hid hd; have K6 := Lib.hid (K5.out.own hk (Nat.le_refl _)); clear hd hk
  go_wp2_with fail
  with_reducible refine (c_turnE _ _ _ E3.out H6.out).mono ?_
  rintro e w7 ⟨rfl, hd, hk⟩
  have H7 := Lib.hid hd; have K7 := Lib.hid (K6.out.own hk (Nat.le_refl _)); clear hd hk
  go_wp2_with fail
  with_reducible refine (c_crashE _ kl _ E5.out H7.out (by exact HV.out.of (K1.out.trans' K7.out) K1.out.size)).mono ?_
  rintro e w8 ⟨rfl, hd, hk⟩
  have H8 := Lib.hid hd; have K8 := Lib.hid (K7.out.own hk (Nat.le_refl _)); clear hd hk
  go_wp2_with fail
  with_reducible refine (c_start _ _ _ H8.out).mono ?_
  rintro e w9 ⟨rfl, hd, hk⟩
  have H9 := Lib.hid hd; have K9 := Lib.hid (K8.out.own hk (Nat.le_refl _)); clear hd hk
  have H9' := Lib.hid (start2 _ _ _ _ _ ▸ H9.out)
  clear H9
  have H9 := H9'
  clear H9'
  go_wp2_with fail
  with_reducible refine (c_readE _ _ (read3 _ _ _ _) H9.out).mono ?_
  rintro e w10 ⟨rfl, hk⟩
  have H10 := Lib.hid (H9.out.kept hk id (fun _ _ _ => id)); have K10 := Lib.hid (K9.out.trans0 hk); clear hk
  go_wp2_with fail
  with_reducible refine (c_sizeE _ _ (size4 _ _ _ _) H10.out).mono ?_
  rintro e w' ⟨rfl, rfl⟩
  go_wp2_with fail
  go_ret
  exact ⟨by first | rfl | simp [Nat.min_le_right], K1.out.trans' K10.out⟩
end Go.Proofs.Ytcnkbpghafhceaa
