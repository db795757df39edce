/- Helper text of this claim: C8: lemmas and contracts that the proved statement rests on; no conditions of its own. -/
import Derived.Test.YtcnkbpghafhceaaC7
namespace Go.Proofs.Ytcnkbpghafhceaa
open Go.RowKit Go.Pw Go.Pw.Dk
theorem _root_.Go.Pw.Keeps.own {w w1 w2 : World} {b : Nat} (h : Keeps w w1 none_) (k : Keeps w1 w2 (one_ b)) (hb : w.heap.size ≤ b) : Keeps w w2 none_ :=
  h.trans k fun i hi e => by cases e; omega
def sm1 : St := (app Dk.new 1 ⟨#[104, 101, 108, 108, 111]⟩).2
def sm2 : St := (flush sm1 1).2
def sm3 : St := (app sm2 1 ⟨#[121, 111, 117]⟩).2
def sm4 : St := crash sm3 [9, 1]
def sm5 : St := start0 sm4
def sm6 : St := lose sm5 1
def sm7 : St := (flush sm6 1).2
def sm8 : St := (app sm7 2 ⟨#[120]⟩).2
def sm9 : St := (turn sm8 1 2).2
def sm10 : St := (flush sm9 2).2
def sm11 : St := (turn sm10 1 2).2
def sm12 : St := (app sm11 8 ⟨#[]⟩).2
def sm13 : St := (cut sm12 1 2).2
set_option maxRecDepth 100000 in
set_option maxHeartbeats 4000000 in
theorem c_small (w : World) : Calls Try.prog 9 #[] w fun e w' => e = .returned (.bool true) ∧ Keeps w w' none_ := by
  go_enter Try.func9, Try.ntmps9
  go_wp2_with fail
  with_reducible refine (c_new _).mono ?_
  rintro e w1 ⟨rfl, hd, hk⟩
  have H1 := Lib.hid hd; have K1 := Lib.hid hk; clear hd hk
  go_wp2_with fail
  with_reducible refine (c_append w.heap.size Dk.new 1 ⟨#[104, 101, 108, 108, 111]⟩ _ H1.out (by decide)).mono ?_
  rintro e w2 ⟨rfl, hd, hk⟩
  rw [show (app Dk.new 1 ⟨#[104, 101, 108, 108, 111]⟩).1 = 0 from by decide +kernel]
  have H2 : Hid (DiskAt w2 w.heap.size sm1) := hd; have K2 := Lib.hid (K1.out.own hk (Nat.le_refl _)); clear hd hk
  go_wp2_with fail
  with_reducible refine (c_flush w.heap.size sm1 1 _ H2.out).mono ?_
  rintro e w3 ⟨rfl, hd, hk⟩
  rw [show (flush sm1 1).1 = 0 from by decide +kernel]
  have H3 : Hid (DiskAt w3 w.heap.size sm2) := hd; have K3 := Lib.hid (K2.out.own hk (Nat.le_refl _)); clear hd hk
  go_wp2_with fail
  with_reducible refine (c_append w.heap.size sm2 1 ⟨#[121, 111, 117]⟩ _ H3.out (by decide)).mono ?_
  rintro e w4 ⟨rfl, hd, hk⟩
  rw [show (app sm2 1 ⟨#[121, 111, 117]⟩).1 = 0 from by decide +kernel]
  have H4 : Hid (DiskAt w4 w.heap.size sm3) := hd; have K4 := Lib.hid (K3.out.own hk (Nat.le_refl _)); clear hd hk
  go_wp2_with fail
  with_reducible refine (c_crash w.heap.size sm3 _ [9, 1] _ (H4.out.alloc _) (ints_two _ 9 1)).mono ?_
  rintro e w5 ⟨rfl, hd, hk⟩
  have H5 : Hid (DiskAt w5 w.heap.size sm4) := hd; have K5 := Lib.hid ((K4.out.alloc _).own hk (Nat.le_refl _)); clear hd hk
  go_wp2_with fail
  with_reducible refine (c_read w.heap.size sm4 1 _ H5.out).mono ?_
  rintro e w6 ⟨rfl, hk⟩
  rw [show (Dk.read sm4 1).1 = ⟨#[]⟩ from by decide +kernel]
  rw [show (Dk.read sm4 1).2 = 13 from by decide +kernel]
  have H6 := Lib.hid (H5.out.kept hk id (fun _ _ _ => id)); have K6 := Lib.hid (K5.out.trans0 hk); clear hk
  go_wp2_with fail
  with_reducible refine (c_down w.heap.size sm4 _ H6.out).mono ?_
  rintro e w' ⟨rfl, rfl⟩
  rw [show sm4.down = true from by decide +kernel]
  go_wp2_with fail
  with_reducible refine (c_start w.heap.size sm4 _ H6.out).mono ?_
  rintro e w7 ⟨rfl, hd, hk⟩
  have H7 : Hid (DiskAt w7 w.heap.size sm5) := hd; have K7 := Lib.hid (K6.out.own hk (Nat.le_refl _)); clear hd hk
  go_wp2_with fail
  with_reducible refine (c_read w.heap.size sm5 1 _ H7.out).mono ?_
  rintro e w8 ⟨rfl, hk⟩
  rw [show (Dk.read sm5 1).1 = ⟨#[104, 101, 108, 108, 111, 121]⟩ from by decide +kernel]
  rw [show (Dk.read sm5 1).2 = 0 from by decide +kernel]
  have H8 := Lib.hid (H7.out.kept hk id (fun _ _ _ => id)); have K8 := Lib.hid (K7.out.trans0 hk); clear hk
  go_wp2_with fail
  with_reducible refine (c_lose w.heap.size sm5 1 _ H8.out (by decide)).mono ?_
  rintro e w9 ⟨rfl, hd, hk⟩
  have H9 : Hid (DiskAt w9 w.heap.size sm6) := hd; have K9 := Lib.hid (K8.out.own hk (Nat.le_refl _)); clear hd hk
  go_wp2_with fail
  with_reducible refine (c_flush w.heap.size sm6 1 _ H9.out).mono ?_
  rintro e w10 ⟨rfl, hd, hk⟩
  rw [show (flush sm6 1).1 = 14 from by decide +kernel]
  have H10 : Hid (DiskAt w10 w.heap.size sm7) := hd; have K10 := Lib.hid (K9.out.own hk (Nat.le_refl _)); clear hd hk
  go_wp2_with fail
  with_reducible refine (c_append w.heap.size sm7 2 ⟨#[120]⟩ _ H10.out (by decide)).mono ?_
  rintro e w11 ⟨rfl, hd, hk⟩
  rw [show (app sm7 2 ⟨#[120]⟩).1 = 0 from by decide +kernel]
  have H11 : Hid (DiskAt w11 w.heap.size sm8) := hd; have K11 := Lib.hid (K10.out.own hk (Nat.le_refl _)); clear hd hk
  go_wp2_with fail
  with_reducible refine (c_turn w.heap.size sm8 1 2 _ H11.out).mono ?_
  rintro e w12 ⟨rfl, hd, hk⟩
  rw [show (turn sm8 1 2).1 = 17 from by decide +kernel]
  have H12 : Hid (DiskAt w12 w.heap.size sm9) := hd; have K12 := Lib.hid (K11.out.own hk (Nat.le_refl _)); clear hd hk
  go_wp2_with fail
  with_reducible refine (c_flush w.heap.size sm9 2 _ H12.out).mono ?_
  rintro e w13 ⟨rfl, hd, hk⟩
  rw [show (flush sm9 2).1 = 0 from by decide +kernel]
  have H13 : Hid (DiskAt w13 w.heap.size sm10) := hd; have K13 := Lib.hid (K12.out.own hk (Nat.le_refl _)); clear hd hk
  go_wp2_with fail
  with_reducible refine (c_turn w.heap.size sm10 1 2 _ H13.out).mono ?_
  rintro e w14 ⟨rfl, hd, hk⟩
  rw [show (turn sm10 1 2).1 = 0 from by decide +kernel]
  have H14 : Hid (DiskAt w14 w.heap.size sm11) := hd; have K14 := Lib.hid (K13.out.own hk (Nat.le_refl _)); clear hd hk
  go_wp2_with fail
  with_reducible refine (c_read w.heap.size sm11 1 _ H14.out).mono ?_
  rintro e w15 ⟨rfl, hk⟩
  rw [show (Dk.read sm11 1).1 = ⟨#[120]⟩ from by decide +kernel]
  rw [show (Dk.read sm11 1).2 = 0 from by decide +kernel]
  have H15 := Lib.hid (H14.out.kept hk id (fun _ _ _ => id)); have K15 := Lib.hid (K14.out.trans0 hk); clear hk
  go_wp2_with fail
  with_reducible refine (c_size w.heap.size sm11 2 _ H15.out).mono ?_
  rintro e w' ⟨rfl, rfl⟩
  rw [show sizeI sm11 2 = 0 from by decide +kernel]
  go_wp2_with fail
  with_reducible refine (c_append w.heap.size sm11 8 ⟨#[]⟩ _ H15.out (by decide)).mono ?_
  rintro e w16 ⟨rfl, hd, hk⟩
  rw [show (app sm11 8 ⟨#[]⟩).1 = 1 from by decide +kernel]
  have H16 : Hid (DiskAt w16 w.heap.size sm12) := hd; have K16 := Lib.hid (K15.out.own hk (Nat.le_refl _)); clear hd hk
  go_wp2_with fail
  with_reducible refine (c_cut w.heap.size sm12 1 2 _ H16.out).mono ?_
  rintro e w17 ⟨rfl, hd, hk⟩
  rw [show (cut sm12 1 2).1 = 1 from by decide +kernel]
  have H17 : Hid (DiskAt w17 w.heap.size sm13) := hd; have K17 := Lib.hid (K16.out.own hk (Nat.le_refl _)); clear hd hk
  go_wp2_with fail
  go_ret
  exact ⟨rfl, K17.out⟩
end Go.Proofs.Ytcnkbpghafhceaa
