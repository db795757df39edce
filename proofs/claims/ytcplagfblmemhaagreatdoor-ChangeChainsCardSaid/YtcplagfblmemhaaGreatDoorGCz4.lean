/- Helper text of this claim: lemmas and contracts that the proved statement rests on; no conditions of its own. -/
import Derived.Test.YtcplagfblmemhaaGreatDoorGBl1
namespace Go.Proofs.YtcplagfblmemhaaGreatDoor
set_option linter.unusedVariables false
set_option maxHeartbeats 8000000
open Go.Shelf Go.RowKit Go.Pw Go.Vc Go.Cs Go.Lib Go.Cd Go.Cx
set_option linter.unusedVariables false
set_option maxRecDepth 100000
section
variable {α : Type} {of : Int} {id : α → Int} {same : α → α → Bool}
theorem cmp_l (a : α) (x : List α) : cmpD of id same (a :: x) [] = ⟨of, id a, 3⟩ :: cmpD of id same x [] := by rw [cmpD]
theorem cmp_r (b : α) (y : List α) : cmpD of id same [] (b :: y) = ⟨of, id b, 1⟩ :: cmpD of id same [] y := by rw [cmpD]
theorem zoT {a b : α} (x y : List α) (h : id a < id b) : cmpD of id same (a :: x) (b :: y) = ⟨of, id a, 3⟩ :: cmpD of id same x (b :: y) := by rw [cmpD, if_pos h]
theorem zoB {a b : α} (x y : List α) (h : id b < id a) : cmpD of id same (a :: x) (b :: y) = ⟨of, id b, 1⟩ :: cmpD of id same (a :: x) y := by rw [cmpD, if_neg (by omega), if_pos h]
theorem zoS {a b : α} (x y : List α) (h : id a = id b) (hs : same a b = true) : cmpD of id same (a :: x) (b :: y) = cmpD of id same x y := by rw [cmpD, if_neg (by omega), if_neg (by omega), hs]; rfl
theorem zoK {a b : α} (x y : List α) (h : id a = id b) (hs : same a b = false) : cmpD of id same (a :: x) (b :: y) = ⟨of, id a, 2⟩ :: cmpD of id same x y := by rw [cmpD, if_neg (by omega), if_neg (by omega), hs]; rfl
end
structure GhCz4 where
 X : List Mr
 Y : List Mr
 a : Option Addr
 c : Nat
 b : Option Addr
 d : Nat
 l : Option Addr
 m : Nat
 out : List Chg
section
variable {w : World}
theorem zpd {va vb : Sl} (X Y : List Mr) (ha : RowO w (.slice va.a X.length va.c) mrC X) (hb : RowO w (.slice vb.a Y.length vb.c) mrC Y) (oa : ∀ x ∈ X, MailOk w x ∧ x.m.boxes.length ≤ 1000000 ∧ x.m.flags.length ≤ 1000000) (ob : ∀ y ∈ Y, MailOk w y) (ca : X.length ≤ va.c) (cb : Y.length ≤ vb.c) (hl : X.length + Y.length ≤ 100000) :
  Calls Tryz.prog 33 #[.int .i64 1, .slice va.a X.length va.c, .slice vb.a Y.length vb.c, .func (.func 34) #[] #[], .func (.func 30) #[] #[]] w fun e w' => ∃ v, e = .returned v ∧ OwnChg w' w.heap.size v (cmpD 1 Ml.id (fun a b => decide (a = b)) (X.map (·.m)) (Y.map (·.m))) ∧ Kp w w' n_ := by
 refine zaa (args := [.int .i64 1, .slice va.a X.length va.c, .slice vb.a Y.length vb.c, .func (.func 34) #[] #[], .func (.func 30) #[] #[]]) Tryz.func33 rfl NL ?_; refine GW ?_
 obtain ⟨T, hT⟩ : ∃ T, cmpD 1 Ml.id (fun a b => decide (a = b)) (X.map (·.m)) (Y.map (·.m)) = T := ⟨_, rfl⟩
 rw [hT]
 refine Loop.intro (ι := GhCz4) (fun i => [(0, .int .i64 1), (1, .slice i.a i.X.length i.c), (2, .slice i.b i.Y.length i.d), (3, .func (.func 34) #[] #[]), (4, .func (.func 30) #[] #[]), (10, .slice i.l i.out.length i.m)])
  (fun i wr => Kp w wr n_ ∧ RowO w (.slice i.a i.X.length i.c) mrC i.X ∧ RowO w (.slice i.b i.Y.length i.d) mrC i.Y ∧ i.X.length ≤ i.c ∧ i.Y.length ≤ i.d ∧ OwnChg wr w.heap.size (.slice i.l i.out.length i.m) i.out ∧ i.out ++ cmpD 1 Ml.id (fun a b => decide (a = b)) (i.X.map (·.m)) (i.Y.map (·.m)) = T ∧ i.out.length + i.X.length + i.Y.length ≤ 200000 ∧ (∀ x ∈ i.X, MailOk w x ∧ x.m.boxes.length ≤ 1000000 ∧ x.m.flags.length ≤ 1000000) ∧ (∀ y ∈ i.Y, MailOk w y)) (fun i => i.X.length + i.Y.length) ⟨X, Y, va.a, va.c, vb.a, vb.c, none, 0, []⟩ ⟨rfl, rfl, rfl, rfl, rfl, rfl, trivial⟩
  ⟨Kp.refl _ _, ha, hb, ca, cb, World.ownsRow_nil _ _ _ _, hT, by dsimp only; simp only [List.length_nil]; omega, oa, ob⟩ ?_
 clear ha hb ca cb hl hT oa ob
 rintro ⟨X, Y, xa, xc, ya, yc, la, lc, out⟩ gf wr ⟨hK, hX, hY, cX, cY, ho, hT, hsz, oX, oY⟩
 dsimp only at hX hY cX cY ho hT hsz oX oY ⊢
 refine GW ?_
 have q0 := Kp.refl wr n_
 cases X with
 | nil =>
  cases Y with
  | nil =>
   have hT : out = T := by rw [← hT]; unfold cmpD; simp
   subst hT
   refine KGO ?_
   exact ⟨_, rfl, ho, hK⟩
  | cons y Y =>
   obtain ⟨a', cp', e1, hY'⟩ := hY
   injection e1 with e1 _ e2
   subst e1; subst e2
   obtain ⟨gy, oy, rfl, hgy, haty⟩ := hY' (by simp)
   have hy0 := zbC haty lenMl (i := 0) (by simp)
   simp only [List.getElem_cons_zero] at hy0
   simp only [List.length_cons] at cY hsz ⊢
   refine KGO ?_
   refine Draw.held (fun u => Kp w u n_) (fun _ => true) (by decide +kernel) (hK).drew ?_
   refine KGO ?_
   refine Draw.held (fun u => Kp w u n_) (fun _ => true) (by decide +kernel) (hK.drew).drew ?_
   refine KGO ?_
   have K_ := hK.trans0 ((Kp.refl wr n_).drew.drew.drew)
   first | refine LoadW (by rfl) (by rfl) hy0 K_ (by rfl) ?_ | skip
   refine GW ?_
   refine CallS.of (Tryz.call34 _ _) (zbn y) ?_
   rintro e w1 ⟨rfl, k1⟩
   refine RT ?_
   have K1 := (K_).trans0 k1
   have o1 := zab ho (((Kp.refl wr n_).drew.drew.drew).trans0 k1)
   refine KGO ?_
   refine RunV.of (zaE _ _ _ _) ?_
   refine KGO ?_
   refine RunV.of (bs1Chg ⟨1, y.m.id, 1⟩ _) ?_
   have k2 : Kp w1 (w1.alloc (.cells (List.toArray (chC ⟨1, y.m.id, 1⟩)) 66)) n_ := (Kp.refl _ _).alloc _
   have h2 := zaq w1 66 (chC ⟨1, y.m.id, 1⟩)
   have o2 := zab o1 k2
   generalize w1.alloc (.cells (List.toArray (chC ⟨1, y.m.id, 1⟩)) 66) = w2 at k2 h2 o2 ⊢
   generalize w1.heap.size = g2 at h2 ⊢
   have K2 := K1.trans0 k2
   refine KGO ?_
   refine tyChg.app1 ⟨1, y.m.id, 1⟩ o2 K2.size h2 (by omega) (by omega) fun v3 w3 o3 k3 => ?_
   have K3 := zaZ o2 k3 K2 (Nat.le_refl _)
   obtain ⟨a3, c3, rfl⟩ := zac o3
   refine KGO ?_
   refine Cut.fromI (l := 1) (by omega) (by omega) (by omega) ?_
   refine GW ?_
   refine KGO ?_
   exact ⟨⟨[], Y, xa, xc, _, _, a3, c3, _⟩, ⟨rfl, rfl, rfl, rfl, rfl, rfl, trivial⟩, ⟨K3, hX, zaV lenMl hgy haty cY, cX, by dsimp only; have : (1 : Int).toNat = 1 := rfl; omega, o3, by rw [← hT]; simp only [List.map_nil, List.map_cons, cmp_r, List.append_assoc, List.singleton_append], by dsimp only; simp only [List.length_append, List.length_singleton, List.length_nil] at hsz ⊢; omega, oX, fun z hz => oY z (List.mem_cons_of_mem _ hz)⟩, by dsimp only; simp only [List.length_cons, List.length_nil]; omega⟩
 | cons x X =>
  obtain ⟨a', cp', e1, hX'⟩ := hX
  injection e1 with e1 _ e2
  subst e1; subst e2
  obtain ⟨gx, ox, rfl, hgx, hatx⟩ := hX' (by simp)
  have hx0 := zbC hatx lenMl (i := 0) (by simp)
  simp only [List.getElem_cons_zero] at hx0
  simp only [List.length_cons] at cX hsz ⊢
  cases Y with
  | nil =>
   refine KGO ?_
   refine Draw.held (fun u => Kp w u n_) (fun _ => true) (by decide +kernel) (hK).drew ?_
   refine KGO ?_
   have K_ := hK.trans0 ((Kp.refl wr n_).drew.drew)
   first | refine LoadW (by rfl) (by rfl) hx0 K_ (by rfl) ?_ | skip
   refine GW ?_
   refine CallS.of (Tryz.call34 _ _) (zbn x) ?_
   rintro e w1 ⟨rfl, k1⟩
   refine RT ?_
   have K1 := (K_).trans0 k1
   have o1 := zab ho (((Kp.refl wr n_).drew.drew).trans0 k1)
   refine KGO ?_
   refine RunV.of (zaE _ _ _ _) ?_
   refine KGO ?_
   refine RunV.of (bs1Chg ⟨1, x.m.id, 3⟩ _) ?_
   have k2 : Kp w1 (w1.alloc (.cells (List.toArray (chC ⟨1, x.m.id, 3⟩)) 66)) n_ := (Kp.refl _ _).alloc _
   have h2 := zaq w1 66 (chC ⟨1, x.m.id, 3⟩)
   have o2 := zab o1 k2
   generalize w1.alloc (.cells (List.toArray (chC ⟨1, x.m.id, 3⟩)) 66) = w2 at k2 h2 o2 ⊢
   generalize w1.heap.size = g2 at h2 ⊢
   have K2 := K1.trans0 k2
   refine KGO ?_
   refine tyChg.app1 ⟨1, x.m.id, 3⟩ o2 K2.size h2 (by omega) (by omega) fun v3 w3 o3 k3 => ?_
   have K3 := zaZ o2 k3 K2 (Nat.le_refl _)
   obtain ⟨a3, c3, rfl⟩ := zac o3
   refine KGO ?_
   refine Cut.fromI (l := 1) (by omega) (by omega) (by omega) ?_
   refine GW ?_
   refine KGO ?_
   exact ⟨⟨X, [], _, _, ya, yc, a3, c3, _⟩, ⟨rfl, rfl, rfl, rfl, rfl, rfl, trivial⟩, ⟨K3, zaV lenMl hgx hatx cX, hY, by dsimp only; have : (1 : Int).toNat = 1 := rfl; omega, cY, o3, by rw [← hT]; simp only [List.map_nil, List.map_cons, cmp_l, List.append_assoc, List.singleton_append], by dsimp only; simp only [List.length_append, List.length_singleton, List.length_nil] at hsz ⊢; omega, fun z hz => oX z (List.mem_cons_of_mem _ hz), oY⟩, by dsimp only; simp only [List.length_cons, List.length_nil]; omega⟩
  | cons y Y =>
   obtain ⟨a', cp', e1, hY'⟩ := hY
   injection e1 with e1 _ e2
   subst e1; subst e2
   obtain ⟨gy, oy, rfl, hgy, haty⟩ := hY' (by simp)
   have hy0 := zbC haty lenMl (i := 0) (by simp)
   simp only [List.getElem_cons_zero] at hy0
   simp only [List.length_cons] at cY hsz ⊢
   refine KGO ?_
   have hYr : RowO w (.slice (some ⟨gy, oy, none⟩) (Y.length + 1) yc) mrC (y :: Y) := ⟨_, yc, by rw [List.length_cons], fun _ => ⟨gy, oy, rfl, hgy, haty⟩⟩
   have hXr : RowO w (.slice (some ⟨gx, ox, none⟩) (X.length + 1) xc) mrC (x :: X) := ⟨_, xc, by rw [List.length_cons], fun _ => ⟨gx, ox, rfl, hgx, hatx⟩⟩
   refine Draw.held (fun u => Kp w u n_) (fun _ => true) (by decide +kernel) (hK).drew ?_
   refine KGO ?_
   first | refine HeldW (by rfl) (by rfl) hx0 (fun _ hu => hu) (by rfl) ?_ | skip
   refine KGO ?_
   refine CallS.of (Tryz.call34 _ _) (zbn x) ?_
   rintro e w1 ⟨rfl, k1⟩
   refine RT ?_
   have Kw1 := (hK.drew).trans0 k1
   refine ⟨Kw1, ?_⟩
   refine KGO ?_
   first | refine HeldW (by rfl) (by rfl) hy0 (fun _ hu => hu) (by rfl) ?_ | skip
   refine KGO ?_
   refine CallS.of (Tryz.call34 _ _) (zbn y) ?_
   rintro e w2 ⟨rfl, k2⟩
   refine RT ?_
   have Kw2 := (Kw1).trans0 k2
   refine ⟨Kw2, ?_⟩
   refine KGO ?_
   have J2 : Kp wr w2 n_ := ((Kp.refl wr n_).drew.trans0 k1).trans0 k2
   by_cases hlt : x.m.id < y.m.id
   ·refine KGO ?_
    clear k1 k2
    have K_ := hK.trans0 (J2.drew)
    first | refine LoadW (by rfl) (by rfl) hx0 K_ (by rfl) ?_ | skip
    refine GW ?_
    refine CallS.of (Tryz.call34 _ _) (zbn x) ?_
    rintro e w1 ⟨rfl, k1⟩
    refine RT ?_
    have K1 := (K_).trans0 k1
    have o1 := zab ho ((J2.drew).trans0 k1)
    refine KGO ?_
    refine RunV.of (zaE _ _ _ _) ?_
    refine KGO ?_
    refine RunV.of (bs1Chg ⟨1, x.m.id, 3⟩ _) ?_
    have k2 : Kp w1 (w1.alloc (.cells (List.toArray (chC ⟨1, x.m.id, 3⟩)) 66)) n_ := (Kp.refl _ _).alloc _
    have h2 := zaq w1 66 (chC ⟨1, x.m.id, 3⟩)
    have o2 := zab o1 k2
    generalize w1.alloc (.cells (List.toArray (chC ⟨1, x.m.id, 3⟩)) 66) = w2 at k2 h2 o2 ⊢
    generalize w1.heap.size = g2 at h2 ⊢
    have K2 := K1.trans0 k2
    refine KGO ?_
    refine tyChg.app1 ⟨1, x.m.id, 3⟩ o2 K2.size h2 (by omega) (by omega) fun v3 w3 o3 k3 => ?_
    have K3 := zaZ o2 k3 K2 (Nat.le_refl _)
    obtain ⟨a3, c3, rfl⟩ := zac o3
    refine KGO ?_
    refine Cut.fromI (l := 1) (by omega) (by omega) (by omega) ?_
    refine GW ?_
    refine KGO ?_
    exact ⟨⟨X, y :: Y, _, _, _, yc, a3, c3, _⟩, ⟨rfl, rfl, rfl, rfl, rfl, rfl, trivial⟩, ⟨K3, zaV lenMl hgx hatx cX, hYr, by dsimp only; have : (1 : Int).toNat = 1 := rfl; omega, by dsimp only; rw [List.length_cons]; omega, o3, by rw [← hT]; simp only [List.map_cons]; rw [zoT _ _ hlt, List.append_assoc]; rfl, by dsimp only; simp only [List.length_append, List.length_cons, List.length_nil] at hsz ⊢; omega, fun z hz => oX z (List.mem_cons_of_mem _ hz), oY⟩, by dsimp only; simp only [List.length_cons]; omega⟩
   ·refine KGO ?_
    clear k1 k2
    refine Draw.held (fun u => Kp w u n_) (fun _ => true) (by decide +kernel) (Kw2).drew ?_
    refine KGO ?_
    first | refine HeldW (by rfl) (by rfl) hy0 (fun _ hu => hu) (by rfl) ?_ | skip
    refine KGO ?_
    refine CallS.of (Tryz.call34 _ _) (zbn y) ?_
    rintro e w4 ⟨rfl, k4⟩
    refine RT ?_
    have Kw4 := (Kw2.drew).trans0 k4
    refine ⟨Kw4, ?_⟩
    refine KGO ?_
    first | refine HeldW (by rfl) (by rfl) hx0 (fun _ hu => hu) (by rfl) ?_ | skip
    refine KGO ?_
    refine CallS.of (Tryz.call34 _ _) (zbn x) ?_
    rintro e w5 ⟨rfl, k5⟩
    refine RT ?_
    have Kw5 := (Kw4).trans0 k5
    refine ⟨Kw5, ?_⟩
    refine KGO ?_
    have J5 : Kp wr w5 n_ := (J2.drew.trans0 k4).trans0 k5
    by_cases hgt : y.m.id < x.m.id
    ·refine KGO ?_
     clear k4 k5
     have K_ := hK.trans0 (J5.drew)
     first | refine LoadW (by rfl) (by rfl) hy0 K_ (by rfl) ?_ | skip
     refine GW ?_
     refine CallS.of (Tryz.call34 _ _) (zbn y) ?_
     rintro e w1 ⟨rfl, k1⟩
     refine RT ?_
     have K1 := (K_).trans0 k1
     have o1 := zab ho ((J5.drew).trans0 k1)
     refine KGO ?_
     refine RunV.of (zaE _ _ _ _) ?_
     refine KGO ?_
     refine RunV.of (bs1Chg ⟨1, y.m.id, 1⟩ _) ?_
     have k2 : Kp w1 (w1.alloc (.cells (List.toArray (chC ⟨1, y.m.id, 1⟩)) 66)) n_ := (Kp.refl _ _).alloc _
     have h2 := zaq w1 66 (chC ⟨1, y.m.id, 1⟩)
     have o2 := zab o1 k2
     generalize w1.alloc (.cells (List.toArray (chC ⟨1, y.m.id, 1⟩)) 66) = w2 at k2 h2 o2 ⊢
     generalize w1.heap.size = g2 at h2 ⊢
     have K2 := K1.trans0 k2
     refine KGO ?_
     refine tyChg.app1 ⟨1, y.m.id, 1⟩ o2 K2.size h2 (by omega) (by omega) fun v3 w3 o3 k3 => ?_
     have K3 := zaZ o2 k3 K2 (Nat.le_refl _)
     obtain ⟨a3, c3, rfl⟩ := zac o3
     refine KGO ?_
     refine Cut.fromI (l := 1) (by omega) (by omega) (by omega) ?_
     refine GW ?_
     refine KGO ?_
     exact ⟨⟨x :: X, Y, _, xc, _, _, a3, c3, _⟩, ⟨rfl, rfl, rfl, rfl, rfl, rfl, trivial⟩, ⟨K3, hXr, zaV lenMl hgy haty cY, by dsimp only; rw [List.length_cons]; omega, by dsimp only; have : (1 : Int).toNat = 1 := rfl; omega, o3, by rw [← hT]; simp only [List.map_cons]; rw [zoB _ _ hgt, List.append_assoc]; rfl, by dsimp only; simp only [List.length_append, List.length_cons, List.length_nil] at hsz ⊢; omega, oX, fun z hz => oY z (List.mem_cons_of_mem _ hz)⟩, by dsimp only; simp only [List.length_cons]; omega⟩
    ·have he : x.m.id = y.m.id := by omega
     refine KGO ?_
     clear k4 k5
     have K := Kw5.drew
     first | refine LoadW (by rfl) (by rfl) hx0 K (by rfl) ?_ | skip
     refine GW ?_
     refine KGO ?_
     first | refine LoadW (by rfl) (by rfl) hy0 K (by rfl) ?_ | skip
     refine GW ?_
     refine CallS.of (Tryz.call30 _ _) (zif x y ((oX x List.mem_cons_self).1.keep K) ((oY y List.mem_cons_self).keep K) (oX x List.mem_cons_self).2.1 (oX x List.mem_cons_self).2.2 he) ?_
     rintro e w6 ⟨rfl, k6⟩
     refine RT ?_
     have K6 := K.trans0 k6
     have J6 := J5.drew.trans0 k6
     by_cases hs : x.m = y.m
     ·rw [decide_eq_true hs]
      refine KGO ?_
      refine Cut.fromI (l := 1) (by omega) (by omega) (by omega) ?_
      refine GW ?_
      refine Cut.fromI (l := 1) (by omega) (by omega) (by omega) ?_
      refine GW ?_
      refine KGO ?_
      have o6 := zab ho J6
      exact ⟨⟨X, Y, _, _, _, _, la, lc, out⟩, ⟨rfl, rfl, rfl, rfl, rfl, rfl, trivial⟩, ⟨by first | exact K6 | exact K6.drew, zaV lenMl hgx hatx cX, zaV lenMl hgy haty cY, by dsimp only; have : (1 : Int).toNat = 1 := rfl; omega, by dsimp only; have : (1 : Int).toNat = 1 := rfl; omega, by first | exact o6 | exact zab o6 (Kp.refl _ _).drew, by rw [← hT]; simp only [List.map_cons]; rw [zoS _ _ he (decide_eq_true hs)], by dsimp only; omega, fun z hz => oX z (List.mem_cons_of_mem _ hz), fun z hz => oY z (List.mem_cons_of_mem _ hz)⟩, by dsimp only; simp only [List.length_cons]; omega⟩
     ·rw [decide_eq_false hs]
      refine KGO ?_
      have K_ := hK.trans0 (J6)
      first | refine LoadW (by rfl) (by rfl) hx0 K_ (by rfl) ?_ | skip
      refine GW ?_
      refine CallS.of (Tryz.call34 _ _) (zbn x) ?_
      rintro e w1 ⟨rfl, k1⟩
      refine RT ?_
      have K1 := (K_).trans0 k1
      have o1 := zab ho ((J6).trans0 k1)
      refine KGO ?_
      refine RunV.of (zaE _ _ _ _) ?_
      refine KGO ?_
      refine RunV.of (bs1Chg ⟨1, x.m.id, 2⟩ _) ?_
      have k2 : Kp w1 (w1.alloc (.cells (List.toArray (chC ⟨1, x.m.id, 2⟩)) 66)) n_ := (Kp.refl _ _).alloc _
      have h2 := zaq w1 66 (chC ⟨1, x.m.id, 2⟩)
      have o2 := zab o1 k2
      generalize w1.alloc (.cells (List.toArray (chC ⟨1, x.m.id, 2⟩)) 66) = w2 at k2 h2 o2 ⊢
      generalize w1.heap.size = g2 at h2 ⊢
      have K2 := K1.trans0 k2
      refine KGO ?_
      refine tyChg.app1 ⟨1, x.m.id, 2⟩ o2 K2.size h2 (by omega) (by omega) fun v3 w3 o3 k3 => ?_
      have K3 := zaZ o2 k3 K2 (Nat.le_refl _)
      obtain ⟨a3, c3, rfl⟩ := zac o3
      refine KGO ?_
      refine Cut.fromI (l := 1) (by omega) (by omega) (by omega) ?_
      refine GW ?_
      refine Cut.fromI (l := 1) (by omega) (by omega) (by omega) ?_
      refine GW ?_
      refine KGO ?_
      exact ⟨⟨X, Y, _, _, _, _, a3, c3, _⟩, ⟨rfl, rfl, rfl, rfl, rfl, rfl, trivial⟩, ⟨by first | exact K3 | exact K3.drew, zaV lenMl hgx hatx cX, zaV lenMl hgy haty cY, by dsimp only; have : (1 : Int).toNat = 1 := rfl; omega, by dsimp only; have : (1 : Int).toNat = 1 := rfl; omega, by first | exact o3 | exact zab o3 (Kp.refl _ _).drew, by rw [← hT]; simp only [List.map_cons]; rw [zoK _ _ he (decide_eq_false hs), List.append_assoc]; rfl, by dsimp only; simp only [List.length_append, List.length_cons, List.length_nil] at hsz ⊢; omega, fun z hz => oX z (List.mem_cons_of_mem _ hz), fun z hz => oY z (List.mem_cons_of_mem _ hz)⟩, by dsimp only; simp only [List.length_cons]; omega⟩
end
structure GhCz5 where
 X : List Bx
 Y : List Bx
 a : Option Addr
 c : Nat
 b : Option Addr
 d : Nat
 l : Option Addr
 m : Nat
 out : List Chg
section
variable {w : World}
theorem zpi {va vb : Sl} (X Y : List Bx) (ha : RowO w (.slice va.a X.length va.c) boxCells X) (hb : RowO w (.slice vb.a Y.length vb.c) boxCells Y) (ca : X.length ≤ va.c) (cb : Y.length ≤ vb.c) (hl : X.length + Y.length ≤ 100000) :
  Calls Tryz.prog 35 #[.int .i64 2, .slice va.a X.length va.c, .slice vb.a Y.length vb.c, .func (.func 36) #[] #[], .func (.func 37) #[] #[]] w fun e w' => ∃ v, e = .returned v ∧ OwnChg w' w.heap.size v (cmpD 2 Bx.id (fun a b => decide (a = b)) (X) (Y)) ∧ Kp w w' n_ := by
 refine zaa (args := [.int .i64 2, .slice va.a X.length va.c, .slice vb.a Y.length vb.c, .func (.func 36) #[] #[], .func (.func 37) #[] #[]]) Tryz.func35 rfl NL ?_; refine GW ?_
 obtain ⟨T, hT⟩ : ∃ T, cmpD 2 Bx.id (fun a b => decide (a = b)) (X) (Y) = T := ⟨_, rfl⟩
 rw [hT]
 refine Loop.intro (ι := GhCz5) (fun i => [(0, .int .i64 2), (1, .slice i.a i.X.length i.c), (2, .slice i.b i.Y.length i.d), (3, .func (.func 36) #[] #[]), (4, .func (.func 37) #[] #[]), (10, .slice i.l i.out.length i.m)])
  (fun i wr => Kp w wr n_ ∧ RowO w (.slice i.a i.X.length i.c) boxCells i.X ∧ RowO w (.slice i.b i.Y.length i.d) boxCells i.Y ∧ i.X.length ≤ i.c ∧ i.Y.length ≤ i.d ∧ OwnChg wr w.heap.size (.slice i.l i.out.length i.m) i.out ∧ i.out ++ cmpD 2 Bx.id (fun a b => decide (a = b)) (i.X) (i.Y) = T ∧ i.out.length + i.X.length + i.Y.length ≤ 200000) (fun i => i.X.length + i.Y.length) ⟨X, Y, va.a, va.c, vb.a, vb.c, none, 0, []⟩ ⟨rfl, rfl, rfl, rfl, rfl, rfl, trivial⟩
  ⟨Kp.refl _ _, ha, hb, ca, cb, World.ownsRow_nil _ _ _ _, hT, by dsimp only; simp only [List.length_nil]; omega⟩ ?_
 clear ha hb ca cb hl hT
 rintro ⟨X, Y, xa, xc, ya, yc, la, lc, out⟩ gf wr ⟨hK, hX, hY, cX, cY, ho, hT, hsz⟩
 dsimp only at hX hY cX cY ho hT hsz ⊢
 refine GW ?_
 have q0 := Kp.refl wr n_
 cases X with
 | nil =>
  cases Y with
  | nil =>
   have hT : out = T := by rw [← hT]; unfold cmpD; simp
   subst hT
   refine KGO ?_
   exact ⟨_, rfl, ho, hK⟩
  | cons y Y =>
   obtain ⟨a', cp', e1, hY'⟩ := hY
   injection e1 with e1 _ e2
   subst e1; subst e2
   obtain ⟨gy, oy, rfl, hgy, haty⟩ := hY' (by simp)
   have hy0 := zbC haty boxLen (i := 0) (by simp)
   simp only [List.getElem_cons_zero] at hy0
   simp only [List.length_cons] at cY hsz ⊢
   refine KGO ?_
   refine Draw.held (fun u => Kp w u n_) (fun _ => true) (by decide +kernel) (hK).drew ?_
   refine KGO ?_
   refine Draw.held (fun u => Kp w u n_) (fun _ => true) (by decide +kernel) (hK.drew).drew ?_
   refine KGO ?_
   have K_ := hK.trans0 ((Kp.refl wr n_).drew.drew.drew)
   first | refine LoadW (by rfl) (by rfl) hy0 K_ (by rfl) ?_ | skip
   refine GW ?_
   refine CallS.of (Tryz.call36 _ _) (zbH y) ?_
   rintro e w1 ⟨rfl, k1⟩
   refine RT ?_
   have K1 := (K_).trans0 k1
   have o1 := zab ho (((Kp.refl wr n_).drew.drew.drew).trans0 k1)
   refine KGO ?_
   refine RunV.of (zaE _ _ _ _) ?_
   refine KGO ?_
   refine RunV.of (bs1Chg ⟨2, y.id, 1⟩ _) ?_
   have k2 : Kp w1 (w1.alloc (.cells (List.toArray (chC ⟨2, y.id, 1⟩)) 66)) n_ := (Kp.refl _ _).alloc _
   have h2 := zaq w1 66 (chC ⟨2, y.id, 1⟩)
   have o2 := zab o1 k2
   generalize w1.alloc (.cells (List.toArray (chC ⟨2, y.id, 1⟩)) 66) = w2 at k2 h2 o2 ⊢
   generalize w1.heap.size = g2 at h2 ⊢
   have K2 := K1.trans0 k2
   refine KGO ?_
   refine tyChg.app1 ⟨2, y.id, 1⟩ o2 K2.size h2 (by omega) (by omega) fun v3 w3 o3 k3 => ?_
   have K3 := zaZ o2 k3 K2 (Nat.le_refl _)
   obtain ⟨a3, c3, rfl⟩ := zac o3
   refine KGO ?_
   refine Cut.fromI (l := 1) (by omega) (by omega) (by omega) ?_
   refine GW ?_
   refine KGO ?_
   exact ⟨⟨[], Y, xa, xc, _, _, a3, c3, _⟩, ⟨rfl, rfl, rfl, rfl, rfl, rfl, trivial⟩, ⟨K3, hX, zaV boxLen hgy haty cY, cX, by dsimp only; have : (1 : Int).toNat = 1 := rfl; omega, o3, by rw [← hT]; simp only [cmp_r, List.append_assoc, List.singleton_append], by dsimp only; simp only [List.length_append, List.length_singleton, List.length_nil] at hsz ⊢; omega⟩, by dsimp only; simp only [List.length_cons, List.length_nil]; omega⟩
 | cons x X =>
  obtain ⟨a', cp', e1, hX'⟩ := hX
  injection e1 with e1 _ e2
  subst e1; subst e2
  obtain ⟨gx, ox, rfl, hgx, hatx⟩ := hX' (by simp)
  have hx0 := zbC hatx boxLen (i := 0) (by simp)
  simp only [List.getElem_cons_zero] at hx0
  simp only [List.length_cons] at cX hsz ⊢
  cases Y with
  | nil =>
   refine KGO ?_
   refine Draw.held (fun u => Kp w u n_) (fun _ => true) (by decide +kernel) (hK).drew ?_
   refine KGO ?_
   have K_ := hK.trans0 ((Kp.refl wr n_).drew.drew)
   first | refine LoadW (by rfl) (by rfl) hx0 K_ (by rfl) ?_ | skip
   refine GW ?_
   refine CallS.of (Tryz.call36 _ _) (zbH x) ?_
   rintro e w1 ⟨rfl, k1⟩
   refine RT ?_
   have K1 := (K_).trans0 k1
   have o1 := zab ho (((Kp.refl wr n_).drew.drew).trans0 k1)
   refine KGO ?_
   refine RunV.of (zaE _ _ _ _) ?_
   refine KGO ?_
   refine RunV.of (bs1Chg ⟨2, x.id, 3⟩ _) ?_
   have k2 : Kp w1 (w1.alloc (.cells (List.toArray (chC ⟨2, x.id, 3⟩)) 66)) n_ := (Kp.refl _ _).alloc _
   have h2 := zaq w1 66 (chC ⟨2, x.id, 3⟩)
   have o2 := zab o1 k2
   generalize w1.alloc (.cells (List.toArray (chC ⟨2, x.id, 3⟩)) 66) = w2 at k2 h2 o2 ⊢
   generalize w1.heap.size = g2 at h2 ⊢
   have K2 := K1.trans0 k2
   refine KGO ?_
   refine tyChg.app1 ⟨2, x.id, 3⟩ o2 K2.size h2 (by omega) (by omega) fun v3 w3 o3 k3 => ?_
   have K3 := zaZ o2 k3 K2 (Nat.le_refl _)
   obtain ⟨a3, c3, rfl⟩ := zac o3
   refine KGO ?_
   refine Cut.fromI (l := 1) (by omega) (by omega) (by omega) ?_
   refine GW ?_
   refine KGO ?_
   exact ⟨⟨X, [], _, _, ya, yc, a3, c3, _⟩, ⟨rfl, rfl, rfl, rfl, rfl, rfl, trivial⟩, ⟨K3, zaV boxLen hgx hatx cX, hY, by dsimp only; have : (1 : Int).toNat = 1 := rfl; omega, cY, o3, by rw [← hT]; simp only [cmp_l, List.append_assoc, List.singleton_append], by dsimp only; simp only [List.length_append, List.length_singleton, List.length_nil] at hsz ⊢; omega⟩, by dsimp only; simp only [List.length_cons, List.length_nil]; omega⟩
  | cons y Y =>
   obtain ⟨a', cp', e1, hY'⟩ := hY
   injection e1 with e1 _ e2
   subst e1; subst e2
   obtain ⟨gy, oy, rfl, hgy, haty⟩ := hY' (by simp)
   have hy0 := zbC haty boxLen (i := 0) (by simp)
   simp only [List.getElem_cons_zero] at hy0
   simp only [List.length_cons] at cY hsz ⊢
   refine KGO ?_
   have hYr : RowO w (.slice (some ⟨gy, oy, none⟩) (Y.length + 1) yc) boxCells (y :: Y) := ⟨_, yc, by rw [List.length_cons], fun _ => ⟨gy, oy, rfl, hgy, haty⟩⟩
   have hXr : RowO w (.slice (some ⟨gx, ox, none⟩) (X.length + 1) xc) boxCells (x :: X) := ⟨_, xc, by rw [List.length_cons], fun _ => ⟨gx, ox, rfl, hgx, hatx⟩⟩
   refine Draw.held (fun u => Kp w u n_) (fun _ => true) (by decide +kernel) (hK).drew ?_
   refine KGO ?_
   first | refine HeldW (by rfl) (by rfl) hx0 (fun _ hu => hu) (by rfl) ?_ | skip
   refine KGO ?_
   refine CallS.of (Tryz.call36 _ _) (zbH x) ?_
   rintro e w1 ⟨rfl, k1⟩
   refine RT ?_
   have Kw1 := (hK.drew).trans0 k1
   refine ⟨Kw1, ?_⟩
   refine KGO ?_
   first | refine HeldW (by rfl) (by rfl) hy0 (fun _ hu => hu) (by rfl) ?_ | skip
   refine KGO ?_
   refine CallS.of (Tryz.call36 _ _) (zbH y) ?_
   rintro e w2 ⟨rfl, k2⟩
   refine RT ?_
   have Kw2 := (Kw1).trans0 k2
   refine ⟨Kw2, ?_⟩
   refine KGO ?_
   have J2 : Kp wr w2 n_ := ((Kp.refl wr n_).drew.trans0 k1).trans0 k2
   by_cases hlt : x.id < y.id
   ·refine KGO ?_
    clear k1 k2
    have K_ := hK.trans0 (J2.drew)
    first | refine LoadW (by rfl) (by rfl) hx0 K_ (by rfl) ?_ | skip
    refine GW ?_
    refine CallS.of (Tryz.call36 _ _) (zbH x) ?_
    rintro e w1 ⟨rfl, k1⟩
    refine RT ?_
    have K1 := (K_).trans0 k1
    have o1 := zab ho ((J2.drew).trans0 k1)
    refine KGO ?_
    refine RunV.of (zaE _ _ _ _) ?_
    refine KGO ?_
    refine RunV.of (bs1Chg ⟨2, x.id, 3⟩ _) ?_
    have k2 : Kp w1 (w1.alloc (.cells (List.toArray (chC ⟨2, x.id, 3⟩)) 66)) n_ := (Kp.refl _ _).alloc _
    have h2 := zaq w1 66 (chC ⟨2, x.id, 3⟩)
    have o2 := zab o1 k2
    generalize w1.alloc (.cells (List.toArray (chC ⟨2, x.id, 3⟩)) 66) = w2 at k2 h2 o2 ⊢
    generalize w1.heap.size = g2 at h2 ⊢
    have K2 := K1.trans0 k2
    refine KGO ?_
    refine tyChg.app1 ⟨2, x.id, 3⟩ o2 K2.size h2 (by omega) (by omega) fun v3 w3 o3 k3 => ?_
    have K3 := zaZ o2 k3 K2 (Nat.le_refl _)
    obtain ⟨a3, c3, rfl⟩ := zac o3
    refine KGO ?_
    refine Cut.fromI (l := 1) (by omega) (by omega) (by omega) ?_
    refine GW ?_
    refine KGO ?_
    exact ⟨⟨X, y :: Y, _, _, _, yc, a3, c3, _⟩, ⟨rfl, rfl, rfl, rfl, rfl, rfl, trivial⟩, ⟨K3, zaV boxLen hgx hatx cX, hYr, by dsimp only; have : (1 : Int).toNat = 1 := rfl; omega, by dsimp only; rw [List.length_cons]; omega, o3, by rw [← hT]; rw [zoT _ _ hlt, List.append_assoc]; rfl, by dsimp only; simp only [List.length_append, List.length_cons, List.length_nil] at hsz ⊢; omega⟩, by dsimp only; simp only [List.length_cons]; omega⟩
   ·refine KGO ?_
    clear k1 k2
    refine Draw.held (fun u => Kp w u n_) (fun _ => true) (by decide +kernel) (Kw2).drew ?_
    refine KGO ?_
    first | refine HeldW (by rfl) (by rfl) hy0 (fun _ hu => hu) (by rfl) ?_ | skip
    refine KGO ?_
    refine CallS.of (Tryz.call36 _ _) (zbH y) ?_
    rintro e w4 ⟨rfl, k4⟩
    refine RT ?_
    have Kw4 := (Kw2.drew).trans0 k4
    refine ⟨Kw4, ?_⟩
    refine KGO ?_
    first | refine HeldW (by rfl) (by rfl) hx0 (fun _ hu => hu) (by rfl) ?_ | skip
    refine KGO ?_
    refine CallS.of (Tryz.call36 _ _) (zbH x) ?_
    rintro e w5 ⟨rfl, k5⟩
    refine RT ?_
    have Kw5 := (Kw4).trans0 k5
    refine ⟨Kw5, ?_⟩
    refine KGO ?_
    have J5 : Kp wr w5 n_ := (J2.drew.trans0 k4).trans0 k5
    by_cases hgt : y.id < x.id
    ·refine KGO ?_
     clear k4 k5
     have K_ := hK.trans0 (J5.drew)
     first | refine LoadW (by rfl) (by rfl) hy0 K_ (by rfl) ?_ | skip
     refine GW ?_
     refine CallS.of (Tryz.call36 _ _) (zbH y) ?_
     rintro e w1 ⟨rfl, k1⟩
     refine RT ?_
     have K1 := (K_).trans0 k1
     have o1 := zab ho ((J5.drew).trans0 k1)
     refine KGO ?_
     refine RunV.of (zaE _ _ _ _) ?_
     refine KGO ?_
     refine RunV.of (bs1Chg ⟨2, y.id, 1⟩ _) ?_
     have k2 : Kp w1 (w1.alloc (.cells (List.toArray (chC ⟨2, y.id, 1⟩)) 66)) n_ := (Kp.refl _ _).alloc _
     have h2 := zaq w1 66 (chC ⟨2, y.id, 1⟩)
     have o2 := zab o1 k2
     generalize w1.alloc (.cells (List.toArray (chC ⟨2, y.id, 1⟩)) 66) = w2 at k2 h2 o2 ⊢
     generalize w1.heap.size = g2 at h2 ⊢
     have K2 := K1.trans0 k2
     refine KGO ?_
     refine tyChg.app1 ⟨2, y.id, 1⟩ o2 K2.size h2 (by omega) (by omega) fun v3 w3 o3 k3 => ?_
     have K3 := zaZ o2 k3 K2 (Nat.le_refl _)
     obtain ⟨a3, c3, rfl⟩ := zac o3
     refine KGO ?_
     refine Cut.fromI (l := 1) (by omega) (by omega) (by omega) ?_
     refine GW ?_
     refine KGO ?_
     exact ⟨⟨x :: X, Y, _, xc, _, _, a3, c3, _⟩, ⟨rfl, rfl, rfl, rfl, rfl, rfl, trivial⟩, ⟨K3, hXr, zaV boxLen hgy haty cY, by dsimp only; rw [List.length_cons]; omega, by dsimp only; have : (1 : Int).toNat = 1 := rfl; omega, o3, by rw [← hT]; rw [zoB _ _ hgt, List.append_assoc]; rfl, by dsimp only; simp only [List.length_append, List.length_cons, List.length_nil] at hsz ⊢; omega⟩, by dsimp only; simp only [List.length_cons]; omega⟩
    ·have he : x.id = y.id := by omega
     refine KGO ?_
     clear k4 k5
     have K := Kw5.drew
     first | refine LoadW (by rfl) (by rfl) hx0 K (by rfl) ?_ | skip
     refine GW ?_
     refine KGO ?_
     first | refine LoadW (by rfl) (by rfl) hy0 K (by rfl) ?_ | skip
     refine GW ?_
     refine CallS.of (Tryz.call37 _ _) (zkM x y) ?_
     rintro e w6 ⟨rfl, k6⟩
     refine RT ?_
     have K6 := K.trans0 k6
     have J6 := J5.drew.trans0 k6
     by_cases hs : x = y
     ·rw [decide_eq_true hs]
      refine KGO ?_
      refine Cut.fromI (l := 1) (by omega) (by omega) (by omega) ?_
      refine GW ?_
      refine Cut.fromI (l := 1) (by omega) (by omega) (by omega) ?_
      refine GW ?_
      refine KGO ?_
      have o6 := zab ho J6
      exact ⟨⟨X, Y, _, _, _, _, la, lc, out⟩, ⟨rfl, rfl, rfl, rfl, rfl, rfl, trivial⟩, ⟨by first | exact K6 | exact K6.drew, zaV boxLen hgx hatx cX, zaV boxLen hgy haty cY, by dsimp only; have : (1 : Int).toNat = 1 := rfl; omega, by dsimp only; have : (1 : Int).toNat = 1 := rfl; omega, by first | exact o6 | exact zab o6 (Kp.refl _ _).drew, by rw [← hT]; rw [zoS _ _ he (decide_eq_true hs)], by dsimp only; omega⟩, by dsimp only; simp only [List.length_cons]; omega⟩
     ·rw [decide_eq_false hs]
      refine KGO ?_
      have K_ := hK.trans0 (J6)
      first | refine LoadW (by rfl) (by rfl) hx0 K_ (by rfl) ?_ | skip
      refine GW ?_
      refine CallS.of (Tryz.call36 _ _) (zbH x) ?_
      rintro e w1 ⟨rfl, k1⟩
      refine RT ?_
      have K1 := (K_).trans0 k1
      have o1 := zab ho ((J6).trans0 k1)
      refine KGO ?_
      refine RunV.of (zaE _ _ _ _) ?_
      refine KGO ?_
      refine RunV.of (bs1Chg ⟨2, x.id, 2⟩ _) ?_
      have k2 : Kp w1 (w1.alloc (.cells (List.toArray (chC ⟨2, x.id, 2⟩)) 66)) n_ := (Kp.refl _ _).alloc _
      have h2 := zaq w1 66 (chC ⟨2, x.id, 2⟩)
      have o2 := zab o1 k2
      generalize w1.alloc (.cells (List.toArray (chC ⟨2, x.id, 2⟩)) 66) = w2 at k2 h2 o2 ⊢
      generalize w1.heap.size = g2 at h2 ⊢
      have K2 := K1.trans0 k2
      refine KGO ?_
      refine tyChg.app1 ⟨2, x.id, 2⟩ o2 K2.size h2 (by omega) (by omega) fun v3 w3 o3 k3 => ?_
      have K3 := zaZ o2 k3 K2 (Nat.le_refl _)
      obtain ⟨a3, c3, rfl⟩ := zac o3
      refine KGO ?_
      refine Cut.fromI (l := 1) (by omega) (by omega) (by omega) ?_
      refine GW ?_
      refine Cut.fromI (l := 1) (by omega) (by omega) (by omega) ?_
      refine GW ?_
      refine KGO ?_
      exact ⟨⟨X, Y, _, _, _, _, a3, c3, _⟩, ⟨rfl, rfl, rfl, rfl, rfl, rfl, trivial⟩, ⟨by first | exact K3 | exact K3.drew, zaV boxLen hgx hatx cX, zaV boxLen hgy haty cY, by dsimp only; have : (1 : Int).toNat = 1 := rfl; omega, by dsimp only; have : (1 : Int).toNat = 1 := rfl; omega, by first | exact o3 | exact zab o3 (Kp.refl _ _).drew, by rw [← hT]; rw [zoK _ _ he (decide_eq_false hs), List.append_assoc]; rfl, by dsimp only; simp only [List.length_append, List.length_cons, List.length_nil] at hsz ⊢; omega⟩, by dsimp only; simp only [List.length_cons]; omega⟩
end
end Go.Proofs.YtcplagfblmemhaaGreatDoor
namespace Go.Proofs.YtcplagfblmemhaaGreatDoor
set_option linter.unusedVariables false
set_option maxHeartbeats 8000000
open Go.Shelf Go.RowKit Go.Pw Go.Vc Go.Cs Go.Lib
set_option linter.unusedVariables false
set_option maxRecDepth 100000
section
end
section
end
def KeyM (m : GM (List UInt8)) (ks : List (List UInt8)) : Prop := ∀ k, m.get k = if k ∈ ks then some (.bool true) else none
theorem KeyM.put {m : GM (List UInt8)} {ks : List (List UInt8)} (h : KeyM m ks) (k : List UInt8) : KeyM (m.put k (.bool true)) (ks ++ [k]) := fun k' => by
 rw [GM.get_put, h k']
 by_cases e : k' = k
 ·subst e; simp
 ·simp [e]
section
end
end Go.Proofs.YtcplagfblmemhaaGreatDoor
