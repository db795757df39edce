/- Helper text of this claim: lemmas and contracts that the proved statement rests on; no conditions of its own. -/
import Derived.Test.YtohhkegmbgancaaGreatDoorGAa4
namespace Go.Proofs.YtohhkegmbgancaaGreatDoor
set_option maxHeartbeats 8000000
open Go.Shelf Go.RowKit Go.Pw Go.Vc Go.Cs Go.Lib
set_option linter.unusedVariables false
set_option maxRecDepth 100000
theorem zef : ∀ (x y : List UInt8), Op.bytesLess x y = decide (x < y)
 | [], [] => by simp [Op.bytesLess]
 | [], b :: bs => by simp [Op.bytesLess]
 | a :: x, [] => by simp [Op.bytesLess]
 | a :: x, b :: y => by
  rw [Op.bytesLess, zef x y]
  simp only [List.cons_lt_cons_iff]
  by_cases h1 : a < b <;> by_cases h2 : a = b <;> by_cases h3 : x < y <;> simp [h1, h2, h3]
theorem zee (x y : List UInt8) : Op.bytesLess (str x).toList (str y).toList = ltT x y := by
 rw [zef]
 have e : ∀ z : List UInt8, (str z).toList = z := fun z => by rw [← L_str z]; exact ByteArray.toList_eq _
 rw [e, e]; rfl
theorem rs_I {w : World} {v : Value} (l : List Int) (g : Nat) (p : Int → Int → Bool) (hv : RowO w v inC l) (hl : l.length ≤ 1000000) (hg : ∀ (args : Array Value) (w : World), (callFunc g args).run Tryz.prog w = .ok (.enter g args) w)
  (hp : ∀ x y, ∀ w', Calls Tryz.prog g #[.int .i64 x, .int .i64 y] w' fun e w'' => e = .returned (.bool (p x y)) ∧ Kp w' w'' n_) :
  Calls Tryz.prog 119 #[v, .func (.func g) #[] #[]] w fun e w' => e = .returned (.bool (risesB p l)) ∧ Kp w w' n_ := by
 obtain ⟨a, cap, rfl, hr⟩ := hv
 refine zaa (args := [.slice a l.length cap, .func (.func g) #[] #[]]) Tryz.func119 rfl NL ?_; refine GW ?_
 refine Loop.intro (ι := Nat) (fun i => [(0, .slice a l.length cap), (1, .func (.func g) #[] #[]), (5, .int .i64 ((i + 1 : Nat) : Int))])
  (fun i wr => Kp w wr n_ ∧ (i = 0 ∨ i < l.length) ∧ ∀ j (h : j + 1 < l.length), j < i → p (l[j]'(by omega)) l[j + 1] = true) (fun i => l.length - i) 0 ⟨rfl, rfl, rfl, trivial⟩ ⟨Kp.refl _ _, .inl rfl, fun _ _ h => by omega⟩ ?_
 rintro i gg wr ⟨hK, hi, he⟩
 refine GW ?_
 by_cases hlt : i + 1 < l.length
 ·obtain ⟨gb, o, rfl, hgb, hat⟩ := hr (by omega)
  have hlt1 : i < l.length := by omega
  have hpc := hp l[i] l[i + 1] wr.drew
  obtain ⟨q, hq⟩ : ∃ q, p l[i] l[i + 1] = q := ⟨_, rfl⟩
  rw [hq] at hpc
  have hc := zbS hat hlt
  have hc1 := zbS hat hlt1
  refine KGO ?_
  rw [show (((i + 1 : Nat) : Int) - 1).toNat = i by omega]
  refine KGO ?_
  refine CallS.of (hg _ _) hpc ?_
  rintro e w1 ⟨rfl, k1⟩
  have K1 := hK.trans0 ((Kp.refl wr n_).drew.trans0 k1)
  refine RT ?_
  cases q with
  | true =>
   refine KGO ?_
   exact ⟨i + 1, ⟨rfl, rfl, v_int (by omega), trivial⟩, ⟨K1, .inr hlt, fun j h hj => by
    rcases Nat.lt_or_ge j i with h' | h'
    ·exact he j h h'
    ·obtain rfl : j = i := by omega
     exact hq⟩, by dsimp only; omega⟩
  | false =>
   refine KGO ?_
   refine ⟨zad ?_, K1⟩
   cases hb : risesB p l with
   | false => rfl
   | true => rw [(zaY p l).1 hb i hlt] at hq; cases hq
 ·refine KGO ?_
  exact ⟨by rw [(zaY p l).2 fun j h => he j h (by omega)], hK⟩
theorem rs_T {w : World} {v : Value} (l : List (List UInt8)) (g : Nat) (p : (List UInt8) → (List UInt8) → Bool) (hv : RowO w v txC l) (hl : l.length ≤ 1000000) (hg : ∀ (args : Array Value) (w : World), (callFunc g args).run Tryz.prog w = .ok (.enter g args) w)
  (hp : ∀ x y, ∀ w', Calls Tryz.prog g #[.string (str x), .string (str y)] w' fun e w'' => e = .returned (.bool (p x y)) ∧ Kp w' w'' n_) :
  Calls Tryz.prog 121 #[v, .func (.func g) #[] #[]] w fun e w' => e = .returned (.bool (risesB p l)) ∧ Kp w w' n_ := by
 obtain ⟨a, cap, rfl, hr⟩ := hv
 refine zaa (args := [.slice a l.length cap, .func (.func g) #[] #[]]) Tryz.func121 rfl NL ?_; refine GW ?_
 refine Loop.intro (ι := Nat) (fun i => [(0, .slice a l.length cap), (1, .func (.func g) #[] #[]), (5, .int .i64 ((i + 1 : Nat) : Int))])
  (fun i wr => Kp w wr n_ ∧ (i = 0 ∨ i < l.length) ∧ ∀ j (h : j + 1 < l.length), j < i → p (l[j]'(by omega)) l[j + 1] = true) (fun i => l.length - i) 0 ⟨rfl, rfl, rfl, trivial⟩ ⟨Kp.refl _ _, .inl rfl, fun _ _ h => by omega⟩ ?_
 rintro i gg wr ⟨hK, hi, he⟩
 refine GW ?_
 by_cases hlt : i + 1 < l.length
 ·obtain ⟨gb, o, rfl, hgb, hat⟩ := hr (by omega)
  have hlt1 : i < l.length := by omega
  have hpc := hp l[i] l[i + 1] wr.drew
  obtain ⟨q, hq⟩ : ∃ q, p l[i] l[i + 1] = q := ⟨_, rfl⟩
  rw [hq] at hpc
  have hc := zbB hat hlt
  have hc1 := zbB hat hlt1
  refine KGO ?_
  rw [show (((i + 1 : Nat) : Int) - 1).toNat = i by omega]
  refine KGO ?_
  refine CallS.of (hg _ _) hpc ?_
  rintro e w1 ⟨rfl, k1⟩
  have K1 := hK.trans0 ((Kp.refl wr n_).drew.trans0 k1)
  refine RT ?_
  cases q with
  | true =>
   refine KGO ?_
   exact ⟨i + 1, ⟨rfl, rfl, v_int (by omega), trivial⟩, ⟨K1, .inr hlt, fun j h hj => by
    rcases Nat.lt_or_ge j i with h' | h'
    ·exact he j h h'
    ·obtain rfl : j = i := by omega
     exact hq⟩, by dsimp only; omega⟩
  | false =>
   refine KGO ?_
   refine ⟨zad ?_, K1⟩
   cases hb : risesB p l with
   | false => rfl
   | true => rw [(zaY p l).1 hb i hlt] at hq; cases hq
 ·refine KGO ?_
  exact ⟨by rw [(zaY p l).2 fun j h => he j h (by omega)], hK⟩
theorem rs_Ml {w : World} {v : Value} (l : List Mr) (g : Nat) (p : Mr → Mr → Bool) (hv : RowO w v mrC l) (hl : l.length ≤ 1000000) (hg : ∀ (args : Array Value) (w : World), (callFunc g args).run Tryz.prog w = .ok (.enter g args) w)
  (hp : ∀ x y, ∀ w', Calls Tryz.prog g #[.agg (mrC x).toArray, .agg (mrC y).toArray] w' fun e w'' => e = .returned (.bool (p x y)) ∧ Kp w' w'' n_) :
  Calls Tryz.prog 54 #[v, .func (.func g) #[] #[]] w fun e w' => e = .returned (.bool (risesB p l)) ∧ Kp w w' n_ := by
 obtain ⟨a, cap, rfl, hr⟩ := hv
 refine zaa (args := [.slice a l.length cap, .func (.func g) #[] #[]]) Tryz.func54 rfl NL ?_; refine GW ?_
 refine Loop.intro (ι := Nat) (fun i => [(0, .slice a l.length cap), (1, .func (.func g) #[] #[]), (5, .int .i64 ((i + 1 : Nat) : Int))])
  (fun i wr => Kp w wr n_ ∧ (i = 0 ∨ i < l.length) ∧ ∀ j (h : j + 1 < l.length), j < i → p (l[j]'(by omega)) l[j + 1] = true) (fun i => l.length - i) 0 ⟨rfl, rfl, rfl, trivial⟩ ⟨Kp.refl _ _, .inl rfl, fun _ _ h => by omega⟩ ?_
 rintro i gg wr ⟨hK, hi, he⟩
 refine GW ?_
 by_cases hlt : i + 1 < l.length
 ·obtain ⟨gb, o, rfl, hgb, hat⟩ := hr (by omega)
  have hlt1 : i < l.length := by omega
  have hpc := hp l[i] l[i + 1] wr.drew
  obtain ⟨q, hq⟩ : ∃ q, p l[i] l[i + 1] = q := ⟨_, rfl⟩
  rw [hq] at hpc
  refine KGO ?_
  simp only [show (((i + 1 : Nat) : Int) - 1).toNat = i from by omega]
  refine CallS.of (hg _ _) hpc ?_
  rintro e w1 ⟨rfl, k1⟩
  have K1 := hK.trans0 ((Kp.refl wr n_).drew.trans0 k1)
  refine RT ?_
  cases q with
  | true =>
   refine KGO ?_
   exact ⟨i + 1, ⟨rfl, rfl, v_int (by omega), trivial⟩, ⟨K1, .inr hlt, fun j h hj => by
    rcases Nat.lt_or_ge j i with h' | h'
    ·exact he j h h'
    ·obtain rfl : j = i := by omega
     exact hq⟩, by dsimp only; omega⟩
  | false =>
   refine KGO ?_
   refine ⟨zad ?_, K1⟩
   cases hb : risesB p l with
   | false => rfl
   | true => rw [(zaY p l).1 hb i hlt] at hq; cases hq
 ·refine KGO ?_
  exact ⟨by rw [(zaY p l).2 fun j h => he j h (by omega)], hK⟩
theorem znG {w : World} {v : Value} (l : List Sc) (g : Nat) (p : Sc → Sc → Bool) (hv : RowO w v srcC l) (hl : l.length ≤ 1000000) (hg : ∀ (args : Array Value) (w : World), (callFunc g args).run Tryz.prog w = .ok (.enter g args) w)
  (hp : ∀ x y, ∀ w', Calls Tryz.prog g #[.agg (srcC x).toArray, .agg (srcC y).toArray] w' fun e w'' => e = .returned (.bool (p x y)) ∧ Kp w' w'' n_) :
  Calls Tryz.prog 56 #[v, .func (.func g) #[] #[]] w fun e w' => e = .returned (.bool (risesB p l)) ∧ Kp w w' n_ := by
 obtain ⟨a, cap, rfl, hr⟩ := hv
 refine zaa (args := [.slice a l.length cap, .func (.func g) #[] #[]]) Tryz.func56 rfl NL ?_; refine GW ?_
 refine Loop.intro (ι := Nat) (fun i => [(0, .slice a l.length cap), (1, .func (.func g) #[] #[]), (5, .int .i64 ((i + 1 : Nat) : Int))])
  (fun i wr => Kp w wr n_ ∧ (i = 0 ∨ i < l.length) ∧ ∀ j (h : j + 1 < l.length), j < i → p (l[j]'(by omega)) l[j + 1] = true) (fun i => l.length - i) 0 ⟨rfl, rfl, rfl, trivial⟩ ⟨Kp.refl _ _, .inl rfl, fun _ _ h => by omega⟩ ?_
 rintro i gg wr ⟨hK, hi, he⟩
 refine GW ?_
 by_cases hlt : i + 1 < l.length
 ·obtain ⟨gb, o, rfl, hgb, hat⟩ := hr (by omega)
  have hlt1 : i < l.length := by omega
  have hpc := hp l[i] l[i + 1] wr.drew
  obtain ⟨q, hq⟩ : ∃ q, p l[i] l[i + 1] = q := ⟨_, rfl⟩
  rw [hq] at hpc
  refine KGO ?_
  simp only [show (((i + 1 : Nat) : Int) - 1).toNat = i from by omega]
  refine CallS.of (hg _ _) hpc ?_
  rintro e w1 ⟨rfl, k1⟩
  have K1 := hK.trans0 ((Kp.refl wr n_).drew.trans0 k1)
  refine RT ?_
  cases q with
  | true =>
   refine KGO ?_
   exact ⟨i + 1, ⟨rfl, rfl, v_int (by omega), trivial⟩, ⟨K1, .inr hlt, fun j h hj => by
    rcases Nat.lt_or_ge j i with h' | h'
    ·exact he j h h'
    ·obtain rfl : j = i := by omega
     exact hq⟩, by dsimp only; omega⟩
  | false =>
   refine KGO ?_
   refine ⟨zad ?_, K1⟩
   cases hb : risesB p l with
   | false => rfl
   | true => rw [(zaY p l).1 hb i hlt] at hq; cases hq
 ·refine KGO ?_
  exact ⟨by rw [(zaY p l).2 fun j h => he j h (by omega)], hK⟩
section
variable {w : World}
theorem zku (x y : Int) : Calls Tryz.prog 120 #[.int .i64 x, .int .i64 y] w fun e w' => e = .returned (.bool (ltI x y)) ∧ Kp w w' n_ := by
 refine zaa (args := [.int .i64 x, .int .i64 y]) Tryz.func120 rfl NL ?_; refine GW ?_
 refine KGO ?_
 exact ⟨rfl, Kp.refl _ _⟩
theorem zkA (x y : List UInt8) : Calls Tryz.prog 122 #[.string (str x), .string (str y)] w fun e w' => e = .returned (.bool (ltT x y)) ∧ Kp w w' n_ := by
 refine zaa (args := [.string (str x), .string (str y)]) Tryz.func122 rfl NL ?_; refine GW ?_
 refine KGO ?_
 exact ⟨by rw [zee], Kp.refl _ _⟩
theorem zgY (x y : Mr) : Calls Tryz.prog 55 #[.agg (mrC x).toArray, .agg (mrC y).toArray] w fun e w' => e = .returned (.bool (idB x.m y.m)) ∧ Kp w w' n_ := by
 refine zaa (args := [.agg (mrC x).toArray, .agg (mrC y).toArray]) Tryz.func55 rfl NL ?_; refine GW ?_
 obtain ⟨a_b1, v_b1, k_w1, z_w1, r_w1⟩ := new5 w 42 (mrC x)
 generalize w.alloc (.cells (List.toArray (mrC x)) 42) = w1 at *
 generalize hs_b1 : w.heap.size = b1 at *
 obtain ⟨a_b2, v_b2, k_w2, z_w2, r_w2⟩ := new5 w1 42 (mrC y)
 generalize w1.alloc (.cells (List.toArray (mrC y)) 42) = w2 at *
 generalize hs_b2 : w1.heap.size = b2 at *
 have a1 := zac a_b1 k_w2
 refine KGO ?_
 exact ⟨rfl, k_w1.trans0 k_w2⟩
theorem zgW (x y : Sc) : Calls Tryz.prog 57 #[.agg (srcC x).toArray, .agg (srcC y).toArray] w fun e w' => e = .returned (.bool (nameB x y)) ∧ Kp w w' n_ := by
 refine zaa (args := [.agg (srcC x).toArray, .agg (srcC y).toArray]) Tryz.func57 rfl NL ?_; refine GW ?_
 obtain ⟨a_b1, v_b1, k_w1, z_w1, r_w1⟩ := new5 w 76 (srcC x)
 generalize w.alloc (.cells (List.toArray (srcC x)) 76) = w1 at *
 generalize hs_b1 : w.heap.size = b1 at *
 obtain ⟨a_b2, v_b2, k_w2, z_w2, r_w2⟩ := new5 w1 76 (srcC y)
 generalize w1.alloc (.cells (List.toArray (srcC y)) 76) = w2 at *
 generalize hs_b2 : w1.heap.size = b2 at *
 have a1 := zac a_b1 k_w2
 refine KGO ?_
 exact ⟨by rw [zee]; rfl, k_w1.trans0 k_w2⟩
end
section
variable {w : World}
theorem ac_in (n lo hi : Int) : Calls Tryz.prog 38 #[.int .i64 n, .int .i64 lo, .int .i64 hi] w fun e w' => e = .returned (.bool (inR n lo hi)) ∧ w = w' := zbR n lo hi
theorem zoA {h : Hd} {A : Acc} (x : Mr) (hb : RowB w h.B.v A.boxes) (hbl : A.boxes.length ≤ 1000000) (hx : MailOk w x) (hxb : x.m.boxes.length ≤ 1000000) (hxf : x.m.flags.length ≤ 1000000) (hxl : ∀ f ∈ x.m.flags, f.length ≤ 1000000) (hnm : 0 ≤ A.nm ∧ A.nm ≤ 4611686018427387904) :
  Calls Tryz.prog 60 #[.agg (accC h A).toArray, .agg (mrC x).toArray] w fun e w' => e = .returned (.bool (fitM A x.m)) ∧ Kp w w' n_ := by
 have hbn : x.b.n = x.m.boxes.length := RowO.len hx.b
 have hfn : x.f.n = x.m.flags.length := RowO.len hx.f
 have hxB : RowI w (.slice x.b.a x.m.boxes.length x.b.c) x.m.boxes := by rw [← hbn]; exact hx.b
 have hxF : RowT w (.slice x.f.a x.m.flags.length x.f.c) x.m.flags := by rw [← hfn]; exact hx.f
 refine zaa (args := [.agg (accC h A).toArray, .agg (mrC x).toArray]) Tryz.func60 rfl NL ?_; refine GW ?_
 obtain ⟨a_b1, v_b1, k_w1, z_w1, r_w1⟩ := new5 w 36 (accC h A)
 generalize w.alloc (.cells (List.toArray (accC h A)) 36) = w1 at *
 generalize hs_b1 : w.heap.size = b1 at *
 obtain ⟨a_b2, v_b2, k_w2, z_w2, r_w2⟩ := new5 w1 42 (mrC x)
 generalize w1.alloc (.cells (List.toArray (mrC x)) 42) = w2 at *
 generalize hs_b2 : w1.heap.size = b2 at *
 have K2 : Kp w w2 n_ := k_w1.trans0 k_w2
 have a1 := zac a_b1 k_w2
 have kr2 := Kp.refl w2 n_
 have am := a_b2
 unfold mrC at am
 rw [hbn, hfn] at am
 refine KGO ?_
 refine CallS.of (Tryz.call38 _ _) (ac_in (w := w2) x.m.id 1 (A.nm - 1)) ?_
 rintro e w2' ⟨rfl, rfl⟩
 refine RT ?_
 by_cases c1 : inR x.m.id 1 (A.nm - 1) = true
 rotate_left
 ·have c1 : inR x.m.id 1 (A.nm - 1) = false := by simpa using c1
  rw [c1]
  refine KGO ?_
  exact ⟨zad (by unfold fitM; rw [c1]; rfl), K2⟩
 rw [c1]
 by_cases c2 : 0 < x.m.boxes.length
 rotate_left
 ·refine KGO ?_
  exact ⟨zad (by unfold fitM; rw [decide_eq_false c2]; simp), K2⟩
 refine KGO ?_
 refine CallS.of (Tryz.call119 _ _) (rs_I (w := w2) x.m.boxes 120 ltI (hxB.keep K2) hxb Tryz.call120 (fun x y w' => zku x y)) ?_
 rintro e w3 ⟨rfl, k3⟩
 have K3 := K2.trans0 k3
 have a13 := zac a1 k3
 have am3 := zac am k3
 have kr3 := Kp.refl w3 n_
 refine RT ?_
 by_cases c3 : risesB ltI x.m.boxes = true
 rotate_left
 ·have c3 : risesB ltI x.m.boxes = false := by simpa using c3
  rw [c3]
  refine KGO ?_
  exact ⟨zad (by unfold fitM; rw [c3]; simp), K3⟩
 rw [c3]
 refine KGO ?_
 refine CallS.of (Tryz.call74 _ _) (zgT (w := w3) (h := h) (A := A) x.m.boxes (hb.keep K3) hbl (hxB.keep K3) (by omega)) ?_
 rintro e w4 ⟨rfl, k4⟩
 have K4 := K3.trans0 k4
 have a14 := zac a13 k4
 have am4 := zac am3 k4
 have kr4 := Kp.refl w4 n_
 refine RT ?_
 by_cases c4 : thereB A.boxes x.m.boxes = true
 rotate_left
 ·have c4 : thereB A.boxes x.m.boxes = false := by simpa using c4
  rw [c4]
  refine KGO ?_
  exact ⟨zad (by unfold fitM; rw [c4]; simp), K4⟩
 rw [c4]
 by_cases c5 : x.m.flags.length ≤ 20
 rotate_left
 ·refine KGO ?_
  exact ⟨zad (by unfold fitM; rw [decide_eq_false c5]; simp), K4⟩
 refine KGO ?_
 refine CallS.of (Tryz.call121 _ _) (rs_T (w := w4) x.m.flags 122 ltT (hxF.keep K4) hxf Tryz.call122 (fun x y w' => zkA x y)) ?_
 rintro e w5 ⟨rfl, k5⟩
 have K5 := K4.trans0 k5
 have a15 := zac a14 k5
 have am5 := zac am4 k5
 have kr5 := Kp.refl w5 n_
 refine RT ?_
 by_cases c6 : risesB ltT x.m.flags = true
 rotate_left
 ·have c6 : risesB ltT x.m.flags = false := by simpa using c6
  rw [c6]
  refine KGO ?_
  exact ⟨zad (by unfold fitM; rw [c6]; simp), K5⟩
 rw [c6]
 refine KGO ?_
 refine CallS.of (Tryz.call73 _ _) (zeq (w := w5) x.m.flags (hxF.keep K5) (by omega) (fun f hf => by have := hxl f hf; omega)) ?_
 rintro e w6 ⟨rfl, k6⟩
 have K6 := K5.trans0 k6
 have a16 := zac a15 k6
 have am6 := zac am5 k6
 have kr6 := Kp.refl w6 n_
 refine RT ?_
 by_cases c7 : flagsB x.m.flags = true
 rotate_left
 ·have c7 : flagsB x.m.flags = false := by simpa using c7
  rw [c7]
  refine KGO ?_
  exact ⟨zad (by unfold fitM; rw [c7]; simp), K6⟩
 rw [c7]
 refine KGO ?_
 refine CallS.of (Tryz.call38 _ _) (ac_in (w := w6) x.m.at_ 0 1099511627776) ?_
 rintro e w6' ⟨rfl, rfl⟩
 refine RT ?_
 by_cases c8 : inR x.m.at_ 0 1099511627776 = true
 rotate_left
 ·have c8 : inR x.m.at_ 0 1099511627776 = false := by simpa using c8
  rw [c8]
  refine KGO ?_
  exact ⟨zad (by unfold fitM; rw [c8]; simp), K6⟩
 rw [c8]
 refine KGO ?_
 refine CallS.of (Tryz.call38 _ _) (ac_in (w := w6) x.m.size 0 65536) ?_
 rintro e w6' ⟨rfl, rfl⟩
 refine RT ?_
 by_cases c9 : inR x.m.size 0 65536 = true
 rotate_left
 ·have c9 : inR x.m.size 0 65536 = false := by simpa using c9
  rw [c9]
  refine KGO ?_
  exact ⟨zad (by unfold fitM; rw [c9]; simp), K6⟩
 rw [c9]
 refine KGO ?_
 refine CallS.of (Tryz.call38 _ _) (ac_in (w := w6) x.m.mod 0 A.st) ?_
 rintro e w6' ⟨rfl, rfl⟩
 refine RT ?_
 refine KGO ?_
 exact ⟨zad (by unfold fitM; rw [c1, decide_eq_true c2, c3, c4, decide_eq_true c5, c6, c7, c8, c9]; rfl), K6⟩
theorem zhB {h : Hd} {A : Acc} {b : Nat} (x : Mr) (ha : At w b 0 (accC h A)) (hb : RowB w h.B.v A.boxes) (hbl : A.boxes.length ≤ 1000000) (hx : MailOk w x) (hxb : x.m.boxes.length ≤ 1000000) (hxf : x.m.flags.length ≤ 1000000) (hxl : ∀ f ∈ x.m.flags, f.length ≤ 1000000) (hnm : 0 ≤ A.nm ∧ A.nm ≤ 4611686018427387904) :
  Calls Tryz.prog 59 #[.agg (mrC x).toArray, .pointer (some ⟨b, 0, none⟩)] w fun e w' => e = .returned (.bool (!fitM A x.m)) ∧ Kp w w' n_ := by
 refine zaa (args := [.agg (mrC x).toArray, .pointer (some ⟨b, 0, none⟩)]) Tryz.func59 rfl NL ?_; refine GW ?_
 obtain ⟨a_b1, v_b1, k_w1, z_w1, r_w1⟩ := new5 w 42 (mrC x)
 generalize w.alloc (.cells (List.toArray (mrC x)) 42) = w1 at *
 generalize hs_b1 : w.heap.size = b1 at *
 have a1 := zac ha k_w1
 refine KGO ?_
 refine CallS.of (Tryz.call60 _ _) (zoA (w := w1) (h := h) (A := A) x (hb.keep k_w1) hbl (hx.keep k_w1) hxb hxf hxl hnm) ?_
 rintro e w2 ⟨rfl, k2⟩
 refine RT ?_
 refine KGO ?_
 exact ⟨rfl, k_w1.trans0 k2⟩
end
end Go.Proofs.YtohhkegmbgancaaGreatDoor
