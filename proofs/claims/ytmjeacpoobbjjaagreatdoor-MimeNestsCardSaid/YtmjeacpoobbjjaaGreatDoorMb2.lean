/- Helper lemmas that the proved statement rests on; no conditions of their own. -/
import Derived.Test.YtmjeacpoobbjjaaGreatDoorMb1
set_option linter.unusedVariables false
set_option maxHeartbeats 8000000
set_option maxRecDepth 100000
namespace Go.Proofs.YtmjeacpoobbjjaaGreatDoor
open Go.Shelf Go.RowKit Go.Pw Go.Vc Go.Cs Go.Lib Go.Tk Go.Hd Go.Ty Go.Me
def spnC (x : Nat × Nat) : List Value := [.int .i64 (x.1 : Nat), .int .i64 (x.2 : Nat)]
theorem lenSpn (x : Nat × Nat) : (spnC x).length = 2 := rfl
theorem spnInfo : (Tryz.prog.info? 55).map (fun i => (i.zero, i.size, i.bytes)) = some (some (.agg #[.int .i64 0, .int .i64 0]), 2, 16) := by kernel_rfl
theorem tySpn : RowTy 53 55 spnC 2 16 := ⟨Tryz.underlying53, ⟨_, spnInfo, rfl⟩, by decide, lenSpn, fun x => List.all_eq_true.1 (by rfl)⟩
abbrev OwnSp (w : World) (B : Nat) (v : Value) (l : List (Nat × Nat)) : Prop := OwnR 55 spnC 2 w B v l
theorem zaY (a b : Int) (w : World) : (Instr.build 55 [(0, .int .i64 a), (1, .int .i64 b)].toArray).run Tryz.prog w = .ok (.agg #[.int .i64 a, .int .i64 b]) w := by
 simp [Instr.build, go_sem, Tryz.runUnderlying55]
theorem bs1Spn (x : Nat × Nat) (w : World) : (Instr.buildSlice 53 1 [(0, .agg #[.int .i64 (x.1 : Nat), .int .i64 (x.2 : Nat)])].toArray).run Tryz.prog w = .ok (.slice (some ⟨w.heap.size, 0, none⟩) 1 1) (w.alloc (.cells (List.toArray (spnC x)) 55)) := by
 simp [Instr.buildSlice, go_sem, Tryz.runUnderlying53, spnC]
def opI (o : Option Nat) : Int := match o with | none => -1 | some o => (o : Int)
section
variable {w : World}
theorem zfo {s : List UInt8} {i : Nat} (h : i < s.length) : byteAt (str s) i = s.getD i 0 := by
 rw [zbk h, List.getD_eq_getElem?_getD, List.getElem?_eq_getElem h]; rfl
theorem zjh (s b : List UInt8) (a : Nat) (hs : s.length ≤ 100000000) (hb : b.length ≤ 100000000) (ha : a ≤ s.length) : Calls Tryz.prog 48 #[.string (str s), .int .i64 (a : Nat), .string (str b)] w fun e w' => ∃ v, e = .returned v ∧ OwnSp w' w.heap.size v (bodiesM s a b) ∧ Kp w w' n_ := by
 have hz := zae s
 rw [zfg s b a ha]
 refine zaa (args := [.string (str s), .int .i64 (a : Nat), .string (str b)]) Tryz.func48 rfl NL ?_; refine GW ?_
 obtain ⟨a_b3, v_b3, k_w1, z_w1, r_w1⟩ := new5 w 9 ([.string (str s)])
 generalize w.alloc (.cells (List.toArray ([.string (str s)])) 9) = w1 at *
 generalize hs_b3 : w.heap.size = b3 at *
 obtain ⟨a_b5, v_b5, k_w2, z_w2, r_w2⟩ := new5 w1 9 ([.string (str b)])
 generalize w1.alloc (.cells (List.toArray ([.string (str b)])) 9) = w2 at *
 generalize hs_b5 : w1.heap.size = b5 at *
 obtain ⟨a_b6, v_b6, k_w3, z_w3, r_w3⟩ := new5 w2 53 ([.slice none 0 0])
 generalize w2.alloc (.cells (List.toArray ([.slice none 0 0])) 53) = w3 at *
 generalize hs_b6 : w2.heap.size = b6 at *
 refine KGO ?_
 obtain ⟨a_b7, v_b7, k_w4, z_w4, r_w4⟩ := new5 w3 53 ([.slice none 0 0])
 generalize w3.alloc (.cells (List.toArray ([.slice none 0 0])) 53) = w4 at *
 generalize hs_b7 : w3.heap.size = b7 at *
 refine KGO ?_
 obtain ⟨a_b8, v_b8, k_w5, z_w5, r_w5⟩ := new5 w4 3 ([.int .i64 0])
 generalize w4.alloc (.cells (List.toArray ([.int .i64 0])) 3) = w5 at *
 generalize hs_b8 : w4.heap.size = b8 at *
 refine KGO ?_
 refine Store.cellK (i := 0) v_b8 (by simp) (by rfl) ⟨rfl, by simp, by simp⟩ fun w6 v8 k8 => ?_
 have k46 : Kp w4 w6 n_ := zab k_w5 k8 (by omega)
 have v7 := v_b7.keep0 k46
 have k36 := k_w4.trans0 k46
 have v6 := v_b6.keep0 k36
 have k26 := k_w3.trans0 k36
 have v5 := v_b5.keep0 k26
 have v3 := v_b3.keep0 (k_w2.trans0 k26)
 have K6 := k_w1.trans0 (k_w2.trans0 k26)
 have hz8 : b3 < b5 ∧ b5 < b6 ∧ b6 < b7 ∧ b7 < b8 := by omega
 have hb3 : w.heap.size ≤ b3 := by omega
 clear k_w1 k_w2 k_w3 k_w4 k_w5 v_b3 v_b5 v_b6 v_b7 v_b8 k8 k46 k36 k26 a_b3 a_b5 a_b6 a_b7 a_b8
 have v8 : VarK w6 b8 3 [.int .i64 (-1)] := v8
 have a3 := v3.at
 have q3 := Kp.refl w6 n_
 refine KGO ?_
 refine CallS.of (Tryz.call75 _ _) (zkh (str s) (a : Nat) w6) ?_
 rintro e w7 ⟨bs, bf, rfl, vs, vf, h1, h2, k7⟩
 have z8 := v8.lt
 have v3 := v3.keep0 k7
 have v5 := v5.keep0 k7
 have v6 := v6.keep0 k7
 have v7 := v7.keep0 k7
 have v8 := v8.keep0 k7
 have K7 := K6.trans0 k7
 have zf := vf.lt
 clear a3 q3 r_w1 r_w2 r_w3 r_w4 r_w5
 refine RT ?_
 obtain ⟨DD, hDD⟩ : ∃ D, w7.heap.size = D := ⟨_, rfl⟩
 obtain ⟨TT, hTT⟩ : ∃ T, T = bodL s b (linesM s a) none := ⟨_, rfl⟩
 rw [← hTT]
 refine Range.introW (α := Nat × Nat) lnE (by rfl) (fun _ _ => rfl) rfl rfl (by decide) (fun _ => rfl) (one_ bf) (fun q e => by have e : q = bf := e; omega)
  (fun pre W => Kp w7 W (fun q => b6 ≤ q) ∧ VarK W b6 53 [.slice none 0 0] ∧ VarK W bs 9 [.string (str s)] ∧ ∃ v D o, VarK W b7 53 [v] ∧ VarK W b8 3 [.int .i64 (opI o)] ∧ OwnSp W (DD + 2) v D ∧ (∀ rest, pre ++ rest = linesM s a → D ++ bodL s b rest o = TT) ∧ (∀ x, o = some x → x ≤ s.length) ∧ D.length ≤ pre.length)
  (fun c pre W => c = .ret ∧ Kp w7 W (fun q => b6 ≤ q) ∧ ∃ v, VarK W b6 53 [v] ∧ OwnSp W (DD + 2) v TT)
  (fun xs => xs = linesM s a) (fun pre x W => ∃ rest, pre ++ x :: rest = linesM s a) ?_ ?_ ?_ ?_ ?_ ?_ ?_
 ·rintro pre W W' ⟨i1, i2, i3, v, D, o, i4, i5, i6, i7, i8, i9⟩ hsz kk
  refine ⟨i1.trans kk fun q hq e => ?_, i2.keep kk (by rintro (e | e) <;> (try have e : b6 = bf := e) <;> omega), i3.keep kk (by rintro (e | e) <;> (try have e : bs = bf := e) <;> omega), v, D, o, i4.keep kk (by rintro (e | e) <;> (try have e : b7 = bf := e) <;> omega), i5.keep kk (by rintro (e | e) <;> (try have e : b8 = bf := e) <;> omega), zaf i6 kk fun q hq e => ?_, i7, i8, i9⟩
  ·rcases e with e | e
   ·have e : q = bf := e
    omega
   ·omega
  ·obtain ⟨_, _, _, hBq, _⟩ := zah i6 hq
   rcases e with e | e
   ·have e : q = bf := e
    omega
   ·omega
 ·rintro c pre W W' ⟨rfl, i1, v, i2, i3⟩ hsz kk
  refine ⟨rfl, i1.trans kk fun q hq e => ?_, v, i2.keep kk (by rintro (e | e) <;> (try have e : b6 = bf := e) <;> omega), zaf i3 kk fun q hq e => ?_⟩
  ·rcases e with e | e
   ·have e : q = bf := e
    omega
   ·omega
  ·obtain ⟨_, _, _, hBq, _⟩ := zah i3 hq
   rcases e with e | e
   ·have e : q = bf := e
    omega
   ·omega
 ·intro W kk hsz
  exact ⟨kk.of_none, v6.keep0 kk, vs.keep0 kk, .slice none 0 0, [], none, v7.keep0 kk, v8.keep0 kk, World.ownsRow_nil _ _ _ _, fun rest e => by rw [hTT, ← e]; rfl, fun x e => (by cases e), Nat.zero_le _⟩
 ·intro J Jx hJ1 hJk hJxk hY W hkW hJ0
  exact zlk (w := W) s a hs ha J Jx (fun pre W h => (hJ1 pre W h).1.2.2.1) hJk (fun pre x W h he => hY pre x W h he) (vf.keep0 hkW) hJ0
 ·rintro pre ⟨p, t⟩ W ⟨i1, i2, i3, v, D, o, i4, i5, i6, i7, i8, i9⟩ ⟨rest, hrest⟩ hsz
  refine GW ?_
  refine ⟨⟨⟨rfl, rfl⟩, fun W2 k2 z2 => ?_⟩⟩
  refine GW ?_
  have hin := zja (s := s) _ a (Nat.le_refl _) (p, t) (by rw [← hrest]; simp)
  dsimp only at hin
  have k2' : Kp W W2 (one_ (DD + 1)) := by rw [hDD] at k2; exact k2
  have j1 : Kp w7 W2 (fun q => b6 ≤ q) := i1.trans' (k2'.mono fun q _ e => by have e : q = DD + 1 := e; omega)
  have j2 := i2.keep k2' (fun e => by have e : b6 = DD + 1 := e; omega)
  have j3 := i3.keep k2' (fun e => by have e : bs = DD + 1 := e; omega)
  have j4 := i4.keep k2' (fun e => by have e : b7 = DD + 1 := e; omega)
  have j5 := i5.keep k2' (fun e => by have e : b8 = DD + 1 := e; omega)
  have j6 : OwnSp W2 (DD + 2) v D := zaf i6 k2' fun q hq e => by
   obtain ⟨_, _, _, hBq, _⟩ := zah i6 hq
   have e : q = DD + 1 := e
   omega
  have u3 := v3.keep j1 (show ¬ b6 ≤ b3 by omega)
  have u5 := v5.keep j1 (show ¬ b6 ≤ b5 by omega)
  clear i1 i2 i3 i4 i5 i6 k2
  have a3 := u3.at
  have a5 := u5.at
  have a8 := j5.at
  have q2 := Kp.refl W2 n_
  have z2 := j1.size
  refine KGO ?_
  rw [zbc]
  obtain ⟨Ln, hLn⟩ : ∃ Ln, Ln = (s.take t).drop p := ⟨_, rfl⟩
  have hLl : Ln.length ≤ s.length := by rw [hLn, List.length_drop, List.length_take]; omega
  have hst : ∀ r, bodL s b ((p, t) :: r) o = if (boundM Ln b).1 = true then (if (boundM Ln b).2 = true then addM s o p else addM s o p ++ bodL s b r (some t)) else bodL s b r o := fun r => by rw [hLn]; rfl
  dsimp only
  rw [← hLn]
  refine CallS.of (Tryz.call76 _ _) (zgp Ln b (by omega) hb W2.drew) ?_
  rintro e W3 ⟨rfl, k3⟩
  have k23 := (Kp.refl W2 n_).drew.trans0 k3
  have j2 := j2.keep0 k23
  have j4 := j4.keep0 k23
  have j5 := j5.keep0 k23
  have j6 := zai j6 k23
  have u3 := u3.keep0 k23
  have z3 := k23.size
  obtain ⟨av, cv, rfl⟩ := zad j6
  clear a3 a5 a8 q2
  have a3 := u3.at
  have a7 := j4.at
  have a8 := j5.at
  have q3 := Kp.refl W3 n_
  generalize boundM Ln b = BB at *
  obtain ⟨B1, B2⟩ := BB
  dsimp only at hst ⊢
  have hpl : pre.length ≤ 200000000 := by
   have h1 := congrArg List.length hrest
   rw [List.length_append] at h1
   have h2 := zel (s := s) _ a (Nat.le_refl _)
   omega
  cases B1
  ·refine RT ?_
   refine KGO ?_
   have kc : Kp W2 _ (fun q => q = b6 ∨ q = b7 ∨ q = b8 ∨ DD + 2 ≤ q) := k23.of_none
   refine ⟨⟨Rec2.of kc (by omega) (by rintro (e | e | e | e) <;> omega) (by rintro (e | e | e | e) <;> omega), ⟨j1.trans' (kc.mono fun q _ e => by rcases e with e | e | e | e <;> omega), j2, j3.keep kc (by rintro (e | e | e | e) <;> omega), _, _, o, j4, j5, j6, (fun r e => by have := i7 ((p, t) :: r) (by rw [← e]; simp); rw [hst] at this; exact this), i8, (by rw [List.length_append]; omega)⟩, fun q hq => ?_⟩⟩
   have hq : q = bf := hq
   exact (kc.block q (by omega) (by rintro (e | e | e | e) <;> omega)).trans (k2'.block q (by omega) (fun e => by have e : q = DD + 1 := e; omega))
  ·cases o with
   | none =>
    unfold opI at a8 j5
    refine RT ?_
    refine KGO ?_
    cases B2
    ·refine KGO ?_
     refine Store.cellK (i := 0) j5 (by simp) (by rfl) ⟨rfl, by simp, by simp⟩ fun wz vz kz => ?_
     have vz : VarK wz b8 3 [.int .i64 (opI (some t))] := vz
     have oz := zaf j6 kz fun q hq e => by
      obtain ⟨_, _, _, hBq, _⟩ := zah j6 hq
      have e : q = b8 := e
      omega
     have vz6 := (j2).keep kz (fun e => by have e : b6 = b8 := e; omega)
     have vz7 := (j4).keep kz (fun e => by have e : b7 = b8 := e; omega)
     refine KGO ?_
     have kc : Kp W2 _ (fun q => q = b6 ∨ q = b7 ∨ q = b8 ∨ DD + 2 ≤ q) := (Kp.trans' (k23.of_none) (kz.mono fun q _ e => .inr (.inr (.inl e))))
     refine ⟨⟨Rec2.of kc (by omega) (by rintro (e | e | e | e) <;> omega) (by rintro (e | e | e | e) <;> omega), ⟨j1.trans' (kc.mono fun q _ e => by rcases e with e | e | e | e <;> omega), vz6, j3.keep kc (by rintro (e | e | e | e) <;> omega), _, _, (some t), vz7, vz, oz, (fun r e => by have := i7 ((p, t) :: r) (by rw [← e]; simp); rw [hst, if_pos rfl, if_neg (by simp)] at this; exact this), (fun x e => by injection e with e; omega), (by rw [List.length_append]; omega)⟩, fun q hq => ?_⟩⟩
     have hq : q = bf := hq
     exact (kc.block q (by omega) (by rintro (e | e | e | e) <;> omega)).trans (k2'.block q (by omega) (fun e => by have e : q = DD + 1 := e; omega))
    ·have hTD : D = TT := by
      have := i7 _ hrest
      rw [hst, if_pos rfl, if_pos rfl] at this
      rw [← this]; simp [addM]
     refine KGO ?_
     refine Store.cellK (i := 0) j2 (by simp) (by rfl) ⟨rfl, by simp, by simp⟩ fun wz vz kz => ?_
     have oz := zaf j6 kz fun q hq e => by
      obtain ⟨_, _, _, hBq, _⟩ := zah j6 hq
      have e : q = b6 := e
      omega
     have kc : Kp W2 wz (fun q => q = b6 ∨ q = b7 ∨ q = b8 ∨ DD + 2 ≤ q) := Kp.trans' (k23.of_none) (kz.mono fun q _ e => .inl e)
     refine KGO ?_
     exact ⟨⟨Rec2.of kc (by omega) (by rintro (e | e | e | e) <;> omega) (by rintro (e | e | e | e) <;> omega), rfl, j1.trans' (kc.mono fun q _ e => by rcases e with e | e | e | e <;> omega), _, vz, by rw [← hTD]; exact oz⟩⟩
   | some o =>
    unfold opI at a8 j5
    dsimp only at a8 j5
    refine RT ?_
    refine KGO ?_
    have hcd : cutM s o p = if o < p ∧ s.getD (p - 1) 0 = 10 then (if o < p - 1 ∧ s.getD (p - 2) 0 = 13 then p - 2 else p - 1) else p := rfl
    by_cases c1 : o < p
    ·refine KGO ?_
     rw [show ((p : Nat) : Int) - 1 = ((p - 1 : Nat) : Int) by omega]
     refine KGO ?_
     rw [Int.toNat_natCast, zfo (show p - 1 < s.length by omega)]
     by_cases c2 : s.getD (p - 1) 0 = 10
     ·rw [c2]
      rw [if_pos ⟨c1, c2⟩] at hcd
      by_cases c3 : o < p - 1
      ·refine KGO ?_
       rw [show (((p : Nat) : Int) - 1 - 1).toNat = p - 2 by omega, zfo (show p - 2 < s.length by omega)]
       by_cases c4 : s.getD (p - 2) 0 = 13
       ·rw [c4]
        rw [if_pos ⟨c3, c4⟩] at hcd
        refine KGO ?_
        rw [show ((p : Nat) : Int) - 1 - 1 = ((p - 2 : Nat) : Int) by omega]
        refine RunV.of (zaY (o : Nat) ((p - 2) : Nat) _) ?_
        refine KGO ?_
        refine RunV.of (bs1Spn (o, (p - 2)) _) ?_
        obtain ⟨a_b15, v_b15, k_W4, z_W4, r_W4⟩ := new5 W3 55 (spnC (o, (p - 2)))
        generalize W3.alloc (.cells (List.toArray (spnC (o, (p - 2)))) 55) = W4 at *
        generalize hs_b15 : W3.heap.size = b15 at *
        refine KGO ?_
        have hobl : ∀ q, (Value.slice av D.length cv).ownBlock = some q → DD + 2 ≤ q := fun q e => by
         obtain ⟨_, _, _, hBq, _⟩ := zah j6 e
         exact hBq
        refine tySpn.app1 (o, (p - 2)) (zai j6 k_W4) (by omega) a_b15 (by omega) (by omega) fun v5 W5 o5 k5 => ?_
        obtain ⟨a5, c5, rfl⟩ := zad o5
        have hobl5 : ∀ q, (Value.slice a5 (D ++ [(o, (p - 2))]).length c5).ownBlock = some q → DD + 2 ≤ q := fun q e => by
         obtain ⟨_, _, _, hBq, _⟩ := zah o5 e
         exact hBq
        have k25 : Kp W2 W5 (fun q => q = b6 ∨ q = b7 ∨ q = b8 ∨ DD + 2 ≤ q) := (k23.trans0 k_W4).of_none.trans' (k5.mono fun q _ e => .inr (.inr (.inr (hobl q e))))
        have m4 := (j4.keep0 k_W4).keep k5 (fun e => by have := hobl _ e; omega)
        have m2 := (j2.keep0 k_W4).keep k5 (fun e => by have := hobl _ e; omega)
        have m5 := (j5.keep0 k_W4).keep k5 (fun e => by have := hobl _ e; omega)
        refine KGO ?_
        refine Store.cellK (i := 0) m4 (by simp) (by rfl) ⟨rfl, by simp, by simp⟩ fun W6 m7 k6 => ?_
        have k26 := k25.trans' (k6.mono (c' := fun q => q = b6 ∨ q = b7 ∨ q = b8 ∨ DD + 2 ≤ q) fun q _ e => .inr (.inl e))
        have m2 := m2.keep k6 (fun e => by have e : b6 = b7 := e; omega)
        have m5 := m5.keep k6 (fun e => by have e : b8 = b7 := e; omega)
        have o6 := zaf o5 k6 fun q hq e => by
         have := hobl5 q hq
         have e : q = b7 := e
         omega
        have a7 := m7.at
        have q6 := Kp.refl W6 n_
        have z6 := k26.size
        refine KGO ?_
        cases B2
        ·refine KGO ?_
         refine Store.cellK (i := 0) m5 (by simp) (by rfl) ⟨rfl, by simp, by simp⟩ fun wz vz kz => ?_
         have vz : VarK wz b8 3 [.int .i64 (opI (some t))] := vz
         have oz := zaf o6 kz fun q hq e => by
          obtain ⟨_, _, _, hBq, _⟩ := zah o6 hq
          have e : q = b8 := e
          omega
         have vz6 := (m2).keep kz (fun e => by have e : b6 = b8 := e; omega)
         have vz7 := (m7).keep kz (fun e => by have e : b7 = b8 := e; omega)
         refine KGO ?_
         have kc : Kp W2 _ (fun q => q = b6 ∨ q = b7 ∨ q = b8 ∨ DD + 2 ≤ q) := (Kp.trans' k26 (kz.mono fun q _ e => .inr (.inr (.inl e))))
         refine ⟨⟨Rec2.of kc (by omega) (by rintro (e | e | e | e) <;> omega) (by rintro (e | e | e | e) <;> omega), ⟨j1.trans' (kc.mono fun q _ e => by rcases e with e | e | e | e <;> omega), vz6, j3.keep kc (by rintro (e | e | e | e) <;> omega), _, _, (some t), vz7, vz, oz, (fun r e => by have := i7 ((p, t) :: r) (by rw [← e]; simp); rw [hst, if_pos rfl, if_neg (by simp)] at this; rw [← this]; show _ = D ++ ([(o, cutM s o p)] ++ _); rw [hcd, List.append_assoc]), (fun x e => by injection e with e; omega), (by rw [List.length_append, List.length_append, List.length_singleton, List.length_singleton]; omega)⟩, fun q hq => ?_⟩⟩
         have hq : q = bf := hq
         exact (kc.block q (by omega) (by rintro (e | e | e | e) <;> omega)).trans (k2'.block q (by omega) (fun e => by have e : q = DD + 1 := e; omega))
        ·have hTD : D ++ [(o, (p - 2))] = TT := by
          have := i7 _ hrest
          rw [hst, if_pos rfl, if_pos rfl] at this
          rw [← this]; show _ = D ++ [(o, cutM s o p)]; rw [hcd]
         refine KGO ?_
         refine Store.cellK (i := 0) m2 (by simp) (by rfl) ⟨rfl, by simp, by simp⟩ fun wz vz kz => ?_
         have oz := zaf o6 kz fun q hq e => by
          obtain ⟨_, _, _, hBq, _⟩ := zah o6 hq
          have e : q = b6 := e
          omega
         have kc : Kp W2 wz (fun q => q = b6 ∨ q = b7 ∨ q = b8 ∨ DD + 2 ≤ q) := Kp.trans' k26 (kz.mono fun q _ e => .inl e)
         refine KGO ?_
         exact ⟨⟨Rec2.of kc (by omega) (by rintro (e | e | e | e) <;> omega) (by rintro (e | e | e | e) <;> omega), rfl, j1.trans' (kc.mono fun q _ e => by rcases e with e | e | e | e <;> omega), _, vz, by rw [← hTD]; exact oz⟩⟩
       ·have n4 : ¬ ((s.getD (p - 2) 0).toNat : Int) = 13 := zaL c4
        rw [if_neg (fun e => c4 e.2)] at hcd
        refine KGO ?_
        rw [show ((p : Nat) : Int) - 1 = ((p - 1 : Nat) : Int) by omega]
        refine RunV.of (zaY (o : Nat) ((p - 1) : Nat) _) ?_
        refine KGO ?_
        refine RunV.of (bs1Spn (o, (p - 1)) _) ?_
        obtain ⟨a_b15, v_b15, k_W4, z_W4, r_W4⟩ := new5 W3 55 (spnC (o, (p - 1)))
        generalize W3.alloc (.cells (List.toArray (spnC (o, (p - 1)))) 55) = W4 at *
        generalize hs_b15 : W3.heap.size = b15 at *
        refine KGO ?_
        have hobl : ∀ q, (Value.slice av D.length cv).ownBlock = some q → DD + 2 ≤ q := fun q e => by
         obtain ⟨_, _, _, hBq, _⟩ := zah j6 e
         exact hBq
        refine tySpn.app1 (o, (p - 1)) (zai j6 k_W4) (by omega) a_b15 (by omega) (by omega) fun v5 W5 o5 k5 => ?_
        obtain ⟨a5, c5, rfl⟩ := zad o5
        have hobl5 : ∀ q, (Value.slice a5 (D ++ [(o, (p - 1))]).length c5).ownBlock = some q → DD + 2 ≤ q := fun q e => by
         obtain ⟨_, _, _, hBq, _⟩ := zah o5 e
         exact hBq
        have k25 : Kp W2 W5 (fun q => q = b6 ∨ q = b7 ∨ q = b8 ∨ DD + 2 ≤ q) := (k23.trans0 k_W4).of_none.trans' (k5.mono fun q _ e => .inr (.inr (.inr (hobl q e))))
        have m4 := (j4.keep0 k_W4).keep k5 (fun e => by have := hobl _ e; omega)
        have m2 := (j2.keep0 k_W4).keep k5 (fun e => by have := hobl _ e; omega)
        have m5 := (j5.keep0 k_W4).keep k5 (fun e => by have := hobl _ e; omega)
        refine KGO ?_
        refine Store.cellK (i := 0) m4 (by simp) (by rfl) ⟨rfl, by simp, by simp⟩ fun W6 m7 k6 => ?_
        have k26 := k25.trans' (k6.mono (c' := fun q => q = b6 ∨ q = b7 ∨ q = b8 ∨ DD + 2 ≤ q) fun q _ e => .inr (.inl e))
        have m2 := m2.keep k6 (fun e => by have e : b6 = b7 := e; omega)
        have m5 := m5.keep k6 (fun e => by have e : b8 = b7 := e; omega)
        have o6 := zaf o5 k6 fun q hq e => by
         have := hobl5 q hq
         have e : q = b7 := e
         omega
        have a7 := m7.at
        have q6 := Kp.refl W6 n_
        have z6 := k26.size
        refine KGO ?_
        cases B2
        ·refine KGO ?_
         refine Store.cellK (i := 0) m5 (by simp) (by rfl) ⟨rfl, by simp, by simp⟩ fun wz vz kz => ?_
         have vz : VarK wz b8 3 [.int .i64 (opI (some t))] := vz
         have oz := zaf o6 kz fun q hq e => by
          obtain ⟨_, _, _, hBq, _⟩ := zah o6 hq
          have e : q = b8 := e
          omega
         have vz6 := (m2).keep kz (fun e => by have e : b6 = b8 := e; omega)
         have vz7 := (m7).keep kz (fun e => by have e : b7 = b8 := e; omega)
         refine KGO ?_
         have kc : Kp W2 _ (fun q => q = b6 ∨ q = b7 ∨ q = b8 ∨ DD + 2 ≤ q) := (Kp.trans' k26 (kz.mono fun q _ e => .inr (.inr (.inl e))))
         refine ⟨⟨Rec2.of kc (by omega) (by rintro (e | e | e | e) <;> omega) (by rintro (e | e | e | e) <;> omega), ⟨j1.trans' (kc.mono fun q _ e => by rcases e with e | e | e | e <;> omega), vz6, j3.keep kc (by rintro (e | e | e | e) <;> omega), _, _, (some t), vz7, vz, oz, (fun r e => by have := i7 ((p, t) :: r) (by rw [← e]; simp); rw [hst, if_pos rfl, if_neg (by simp)] at this; rw [← this]; show _ = D ++ ([(o, cutM s o p)] ++ _); rw [hcd, List.append_assoc]), (fun x e => by injection e with e; omega), (by rw [List.length_append, List.length_append, List.length_singleton, List.length_singleton]; omega)⟩, fun q hq => ?_⟩⟩
         have hq : q = bf := hq
         exact (kc.block q (by omega) (by rintro (e | e | e | e) <;> omega)).trans (k2'.block q (by omega) (fun e => by have e : q = DD + 1 := e; omega))
        ·have hTD : D ++ [(o, (p - 1))] = TT := by
          have := i7 _ hrest
          rw [hst, if_pos rfl, if_pos rfl] at this
          rw [← this]; show _ = D ++ [(o, cutM s o p)]; rw [hcd]
         refine KGO ?_
         refine Store.cellK (i := 0) m2 (by simp) (by rfl) ⟨rfl, by simp, by simp⟩ fun wz vz kz => ?_
         have oz := zaf o6 kz fun q hq e => by
          obtain ⟨_, _, _, hBq, _⟩ := zah o6 hq
          have e : q = b6 := e
          omega
         have kc : Kp W2 wz (fun q => q = b6 ∨ q = b7 ∨ q = b8 ∨ DD + 2 ≤ q) := Kp.trans' k26 (kz.mono fun q _ e => .inl e)
         refine KGO ?_
         exact ⟨⟨Rec2.of kc (by omega) (by rintro (e | e | e | e) <;> omega) (by rintro (e | e | e | e) <;> omega), rfl, j1.trans' (kc.mono fun q _ e => by rcases e with e | e | e | e <;> omega), _, vz, by rw [← hTD]; exact oz⟩⟩
      ·rw [if_neg (fun e => c3 e.1)] at hcd
       refine KGO ?_
       rw [show ((p : Nat) : Int) - 1 = ((p - 1 : Nat) : Int) by omega]
       refine RunV.of (zaY (o : Nat) ((p - 1) : Nat) _) ?_
       refine KGO ?_
       refine RunV.of (bs1Spn (o, (p - 1)) _) ?_
       obtain ⟨a_b15, v_b15, k_W4, z_W4, r_W4⟩ := new5 W3 55 (spnC (o, (p - 1)))
       generalize W3.alloc (.cells (List.toArray (spnC (o, (p - 1)))) 55) = W4 at *
       generalize hs_b15 : W3.heap.size = b15 at *
       refine KGO ?_
       have hobl : ∀ q, (Value.slice av D.length cv).ownBlock = some q → DD + 2 ≤ q := fun q e => by
        obtain ⟨_, _, _, hBq, _⟩ := zah j6 e
        exact hBq
       refine tySpn.app1 (o, (p - 1)) (zai j6 k_W4) (by omega) a_b15 (by omega) (by omega) fun v5 W5 o5 k5 => ?_
       obtain ⟨a5, c5, rfl⟩ := zad o5
       have hobl5 : ∀ q, (Value.slice a5 (D ++ [(o, (p - 1))]).length c5).ownBlock = some q → DD + 2 ≤ q := fun q e => by
        obtain ⟨_, _, _, hBq, _⟩ := zah o5 e
        exact hBq
       have k25 : Kp W2 W5 (fun q => q = b6 ∨ q = b7 ∨ q = b8 ∨ DD + 2 ≤ q) := (k23.trans0 k_W4).of_none.trans' (k5.mono fun q _ e => .inr (.inr (.inr (hobl q e))))
       have m4 := (j4.keep0 k_W4).keep k5 (fun e => by have := hobl _ e; omega)
       have m2 := (j2.keep0 k_W4).keep k5 (fun e => by have := hobl _ e; omega)
       have m5 := (j5.keep0 k_W4).keep k5 (fun e => by have := hobl _ e; omega)
       refine KGO ?_
       refine Store.cellK (i := 0) m4 (by simp) (by rfl) ⟨rfl, by simp, by simp⟩ fun W6 m7 k6 => ?_
       have k26 := k25.trans' (k6.mono (c' := fun q => q = b6 ∨ q = b7 ∨ q = b8 ∨ DD + 2 ≤ q) fun q _ e => .inr (.inl e))
       have m2 := m2.keep k6 (fun e => by have e : b6 = b7 := e; omega)
       have m5 := m5.keep k6 (fun e => by have e : b8 = b7 := e; omega)
       have o6 := zaf o5 k6 fun q hq e => by
        have := hobl5 q hq
        have e : q = b7 := e
        omega
       have a7 := m7.at
       have q6 := Kp.refl W6 n_
       have z6 := k26.size
       refine KGO ?_
       cases B2
       ·refine KGO ?_
        refine Store.cellK (i := 0) m5 (by simp) (by rfl) ⟨rfl, by simp, by simp⟩ fun wz vz kz => ?_
        have vz : VarK wz b8 3 [.int .i64 (opI (some t))] := vz
        have oz := zaf o6 kz fun q hq e => by
         obtain ⟨_, _, _, hBq, _⟩ := zah o6 hq
         have e : q = b8 := e
         omega
        have vz6 := (m2).keep kz (fun e => by have e : b6 = b8 := e; omega)
        have vz7 := (m7).keep kz (fun e => by have e : b7 = b8 := e; omega)
        refine KGO ?_
        have kc : Kp W2 _ (fun q => q = b6 ∨ q = b7 ∨ q = b8 ∨ DD + 2 ≤ q) := (Kp.trans' k26 (kz.mono fun q _ e => .inr (.inr (.inl e))))
        refine ⟨⟨Rec2.of kc (by omega) (by rintro (e | e | e | e) <;> omega) (by rintro (e | e | e | e) <;> omega), ⟨j1.trans' (kc.mono fun q _ e => by rcases e with e | e | e | e <;> omega), vz6, j3.keep kc (by rintro (e | e | e | e) <;> omega), _, _, (some t), vz7, vz, oz, (fun r e => by have := i7 ((p, t) :: r) (by rw [← e]; simp); rw [hst, if_pos rfl, if_neg (by simp)] at this; rw [← this]; show _ = D ++ ([(o, cutM s o p)] ++ _); rw [hcd, List.append_assoc]), (fun x e => by injection e with e; omega), (by rw [List.length_append, List.length_append, List.length_singleton, List.length_singleton]; omega)⟩, fun q hq => ?_⟩⟩
        have hq : q = bf := hq
        exact (kc.block q (by omega) (by rintro (e | e | e | e) <;> omega)).trans (k2'.block q (by omega) (fun e => by have e : q = DD + 1 := e; omega))
       ·have hTD : D ++ [(o, (p - 1))] = TT := by
         have := i7 _ hrest
         rw [hst, if_pos rfl, if_pos rfl] at this
         rw [← this]; show _ = D ++ [(o, cutM s o p)]; rw [hcd]
        refine KGO ?_
        refine Store.cellK (i := 0) m2 (by simp) (by rfl) ⟨rfl, by simp, by simp⟩ fun wz vz kz => ?_
        have oz := zaf o6 kz fun q hq e => by
         obtain ⟨_, _, _, hBq, _⟩ := zah o6 hq
         have e : q = b6 := e
         omega
        have kc : Kp W2 wz (fun q => q = b6 ∨ q = b7 ∨ q = b8 ∨ DD + 2 ≤ q) := Kp.trans' k26 (kz.mono fun q _ e => .inl e)
        refine KGO ?_
        exact ⟨⟨Rec2.of kc (by omega) (by rintro (e | e | e | e) <;> omega) (by rintro (e | e | e | e) <;> omega), rfl, j1.trans' (kc.mono fun q _ e => by rcases e with e | e | e | e <;> omega), _, vz, by rw [← hTD]; exact oz⟩⟩
     ·have n2 : ¬ ((s.getD (p - 1) 0).toNat : Int) = 10 := zaL c2
      rw [if_neg (fun e => c2 e.2)] at hcd
      refine KGO ?_
      refine RunV.of (zaY (o : Nat) (p : Nat) _) ?_
      refine KGO ?_
      refine RunV.of (bs1Spn (o, p) _) ?_
      obtain ⟨a_b15, v_b15, k_W4, z_W4, r_W4⟩ := new5 W3 55 (spnC (o, p))
      generalize W3.alloc (.cells (List.toArray (spnC (o, p))) 55) = W4 at *
      generalize hs_b15 : W3.heap.size = b15 at *
      refine KGO ?_
      have hobl : ∀ q, (Value.slice av D.length cv).ownBlock = some q → DD + 2 ≤ q := fun q e => by
       obtain ⟨_, _, _, hBq, _⟩ := zah j6 e
       exact hBq
      refine tySpn.app1 (o, p) (zai j6 k_W4) (by omega) a_b15 (by omega) (by omega) fun v5 W5 o5 k5 => ?_
      obtain ⟨a5, c5, rfl⟩ := zad o5
      have hobl5 : ∀ q, (Value.slice a5 (D ++ [(o, p)]).length c5).ownBlock = some q → DD + 2 ≤ q := fun q e => by
       obtain ⟨_, _, _, hBq, _⟩ := zah o5 e
       exact hBq
      have k25 : Kp W2 W5 (fun q => q = b6 ∨ q = b7 ∨ q = b8 ∨ DD + 2 ≤ q) := (k23.trans0 k_W4).of_none.trans' (k5.mono fun q _ e => .inr (.inr (.inr (hobl q e))))
      have m4 := (j4.keep0 k_W4).keep k5 (fun e => by have := hobl _ e; omega)
      have m2 := (j2.keep0 k_W4).keep k5 (fun e => by have := hobl _ e; omega)
      have m5 := (j5.keep0 k_W4).keep k5 (fun e => by have := hobl _ e; omega)
      refine KGO ?_
      refine Store.cellK (i := 0) m4 (by simp) (by rfl) ⟨rfl, by simp, by simp⟩ fun W6 m7 k6 => ?_
      have k26 := k25.trans' (k6.mono (c' := fun q => q = b6 ∨ q = b7 ∨ q = b8 ∨ DD + 2 ≤ q) fun q _ e => .inr (.inl e))
      have m2 := m2.keep k6 (fun e => by have e : b6 = b7 := e; omega)
      have m5 := m5.keep k6 (fun e => by have e : b8 = b7 := e; omega)
      have o6 := zaf o5 k6 fun q hq e => by
       have := hobl5 q hq
       have e : q = b7 := e
       omega
      have a7 := m7.at
      have q6 := Kp.refl W6 n_
      have z6 := k26.size
      refine KGO ?_
      cases B2
      ·refine KGO ?_
       refine Store.cellK (i := 0) m5 (by simp) (by rfl) ⟨rfl, by simp, by simp⟩ fun wz vz kz => ?_
       have vz : VarK wz b8 3 [.int .i64 (opI (some t))] := vz
       have oz := zaf o6 kz fun q hq e => by
        obtain ⟨_, _, _, hBq, _⟩ := zah o6 hq
        have e : q = b8 := e
        omega
       have vz6 := (m2).keep kz (fun e => by have e : b6 = b8 := e; omega)
       have vz7 := (m7).keep kz (fun e => by have e : b7 = b8 := e; omega)
       refine KGO ?_
       have kc : Kp W2 _ (fun q => q = b6 ∨ q = b7 ∨ q = b8 ∨ DD + 2 ≤ q) := (Kp.trans' k26 (kz.mono fun q _ e => .inr (.inr (.inl e))))
       refine ⟨⟨Rec2.of kc (by omega) (by rintro (e | e | e | e) <;> omega) (by rintro (e | e | e | e) <;> omega), ⟨j1.trans' (kc.mono fun q _ e => by rcases e with e | e | e | e <;> omega), vz6, j3.keep kc (by rintro (e | e | e | e) <;> omega), _, _, (some t), vz7, vz, oz, (fun r e => by have := i7 ((p, t) :: r) (by rw [← e]; simp); rw [hst, if_pos rfl, if_neg (by simp)] at this; rw [← this]; show _ = D ++ ([(o, cutM s o p)] ++ _); rw [hcd, List.append_assoc]), (fun x e => by injection e with e; omega), (by rw [List.length_append, List.length_append, List.length_singleton, List.length_singleton]; omega)⟩, fun q hq => ?_⟩⟩
       have hq : q = bf := hq
       exact (kc.block q (by omega) (by rintro (e | e | e | e) <;> omega)).trans (k2'.block q (by omega) (fun e => by have e : q = DD + 1 := e; omega))
      ·have hTD : D ++ [(o, p)] = TT := by
        have := i7 _ hrest
        rw [hst, if_pos rfl, if_pos rfl] at this
        rw [← this]; show _ = D ++ [(o, cutM s o p)]; rw [hcd]
       refine KGO ?_
       refine Store.cellK (i := 0) m2 (by simp) (by rfl) ⟨rfl, by simp, by simp⟩ fun wz vz kz => ?_
       have oz := zaf o6 kz fun q hq e => by
        obtain ⟨_, _, _, hBq, _⟩ := zah o6 hq
        have e : q = b6 := e
        omega
       have kc : Kp W2 wz (fun q => q = b6 ∨ q = b7 ∨ q = b8 ∨ DD + 2 ≤ q) := Kp.trans' k26 (kz.mono fun q _ e => .inl e)
       refine KGO ?_
       exact ⟨⟨Rec2.of kc (by omega) (by rintro (e | e | e | e) <;> omega) (by rintro (e | e | e | e) <;> omega), rfl, j1.trans' (kc.mono fun q _ e => by rcases e with e | e | e | e <;> omega), _, vz, by rw [← hTD]; exact oz⟩⟩
    ·rw [if_neg (fun e => c1 e.1)] at hcd
     refine KGO ?_
     refine RunV.of (zaY (o : Nat) (p : Nat) _) ?_
     refine KGO ?_
     refine RunV.of (bs1Spn (o, p) _) ?_
     obtain ⟨a_b15, v_b15, k_W4, z_W4, r_W4⟩ := new5 W3 55 (spnC (o, p))
     generalize W3.alloc (.cells (List.toArray (spnC (o, p))) 55) = W4 at *
     generalize hs_b15 : W3.heap.size = b15 at *
     refine KGO ?_
     have hobl : ∀ q, (Value.slice av D.length cv).ownBlock = some q → DD + 2 ≤ q := fun q e => by
      obtain ⟨_, _, _, hBq, _⟩ := zah j6 e
      exact hBq
     refine tySpn.app1 (o, p) (zai j6 k_W4) (by omega) a_b15 (by omega) (by omega) fun v5 W5 o5 k5 => ?_
     obtain ⟨a5, c5, rfl⟩ := zad o5
     have hobl5 : ∀ q, (Value.slice a5 (D ++ [(o, p)]).length c5).ownBlock = some q → DD + 2 ≤ q := fun q e => by
      obtain ⟨_, _, _, hBq, _⟩ := zah o5 e
      exact hBq
     have k25 : Kp W2 W5 (fun q => q = b6 ∨ q = b7 ∨ q = b8 ∨ DD + 2 ≤ q) := (k23.trans0 k_W4).of_none.trans' (k5.mono fun q _ e => .inr (.inr (.inr (hobl q e))))
     have m4 := (j4.keep0 k_W4).keep k5 (fun e => by have := hobl _ e; omega)
     have m2 := (j2.keep0 k_W4).keep k5 (fun e => by have := hobl _ e; omega)
     have m5 := (j5.keep0 k_W4).keep k5 (fun e => by have := hobl _ e; omega)
     refine KGO ?_
     refine Store.cellK (i := 0) m4 (by simp) (by rfl) ⟨rfl, by simp, by simp⟩ fun W6 m7 k6 => ?_
     have k26 := k25.trans' (k6.mono (c' := fun q => q = b6 ∨ q = b7 ∨ q = b8 ∨ DD + 2 ≤ q) fun q _ e => .inr (.inl e))
     have m2 := m2.keep k6 (fun e => by have e : b6 = b7 := e; omega)
     have m5 := m5.keep k6 (fun e => by have e : b8 = b7 := e; omega)
     have o6 := zaf o5 k6 fun q hq e => by
      have := hobl5 q hq
      have e : q = b7 := e
      omega
     have a7 := m7.at
     have q6 := Kp.refl W6 n_
     have z6 := k26.size
     refine KGO ?_
     cases B2
     ·refine KGO ?_
      refine Store.cellK (i := 0) m5 (by simp) (by rfl) ⟨rfl, by simp, by simp⟩ fun wz vz kz => ?_
      have vz : VarK wz b8 3 [.int .i64 (opI (some t))] := vz
      have oz := zaf o6 kz fun q hq e => by
       obtain ⟨_, _, _, hBq, _⟩ := zah o6 hq
       have e : q = b8 := e
       omega
      have vz6 := (m2).keep kz (fun e => by have e : b6 = b8 := e; omega)
      have vz7 := (m7).keep kz (fun e => by have e : b7 = b8 := e; omega)
      refine KGO ?_
      have kc : Kp W2 _ (fun q => q = b6 ∨ q = b7 ∨ q = b8 ∨ DD + 2 ≤ q) := (Kp.trans' k26 (kz.mono fun q _ e => .inr (.inr (.inl e))))
      refine ⟨⟨Rec2.of kc (by omega) (by rintro (e | e | e | e) <;> omega) (by rintro (e | e | e | e) <;> omega), ⟨j1.trans' (kc.mono fun q _ e => by rcases e with e | e | e | e <;> omega), vz6, j3.keep kc (by rintro (e | e | e | e) <;> omega), _, _, (some t), vz7, vz, oz, (fun r e => by have := i7 ((p, t) :: r) (by rw [← e]; simp); rw [hst, if_pos rfl, if_neg (by simp)] at this; rw [← this]; show _ = D ++ ([(o, cutM s o p)] ++ _); rw [hcd, List.append_assoc]), (fun x e => by injection e with e; omega), (by rw [List.length_append, List.length_append, List.length_singleton, List.length_singleton]; omega)⟩, fun q hq => ?_⟩⟩
      have hq : q = bf := hq
      exact (kc.block q (by omega) (by rintro (e | e | e | e) <;> omega)).trans (k2'.block q (by omega) (fun e => by have e : q = DD + 1 := e; omega))
     ·have hTD : D ++ [(o, p)] = TT := by
       have := i7 _ hrest
       rw [hst, if_pos rfl, if_pos rfl] at this
       rw [← this]; show _ = D ++ [(o, cutM s o p)]; rw [hcd]
      refine KGO ?_
      refine Store.cellK (i := 0) m2 (by simp) (by rfl) ⟨rfl, by simp, by simp⟩ fun wz vz kz => ?_
      have oz := zaf o6 kz fun q hq e => by
       obtain ⟨_, _, _, hBq, _⟩ := zah o6 hq
       have e : q = b6 := e
       omega
      have kc : Kp W2 wz (fun q => q = b6 ∨ q = b7 ∨ q = b8 ∨ DD + 2 ≤ q) := Kp.trans' k26 (kz.mono fun q _ e => .inl e)
      refine KGO ?_
      exact ⟨⟨Rec2.of kc (by omega) (by rintro (e | e | e | e) <;> omega) (by rintro (e | e | e | e) <;> omega), rfl, j1.trans' (kc.mono fun q _ e => by rcases e with e | e | e | e <;> omega), _, vz, by rw [← hTD]; exact oz⟩⟩
 ·rintro xs W rfl ⟨i1, i2, i3, v, D, o, i4, i5, i6, i7, i8, i9⟩ hsz hdf
  have hln := zel (s := s) _ a (Nat.le_refl _)
  have he := i7 [] (by simp)
  obtain ⟨av, cv, rfl⟩ := zad i6
  have u3 := v3.keep i1 (show ¬ b6 ≤ b3 by omega)
  have a3 := u3.at
  have a7 := i4.at
  have a8 := i5.at
  have q2 := Kp.refl W n_
  have z2 := i1.size
  cases o with
  | none =>
   unfold opI at a8
   have hTD : D = TT := by rw [← he]; simp [bodL]
   refine KGO ?_
   have kS : Kp W W (fun q => q = b6 ∨ q = b7 ∨ DD + 2 ≤ q) := (Kp.refl W _)
   refine Store.cellK (i := 0) i2 (by simp) (by rfl) ⟨rfl, by simp, by simp⟩ fun wy vy ky => ?_
   have kc := kS.trans' (ky.mono (c' := fun q => q = b6 ∨ q = b7 ∨ DD + 2 ≤ q) fun q _ e => .inl e)
   have hD : AllD [w7.heap.size] wy := zch ((kc.block _ (by omega) (by rintro (e | e | e) <;> omega)).trans hdf)
   have KW : Kp w wy n_ := (K7.trans i1 fun q hq e => by have e : b6 ≤ q := e; omega).trans kc fun q hq e => by rcases e with e | e | e <;> omega
   have oy := zaf i6 ky fun q hq e => by
    obtain ⟨_, _, _, hBq, _⟩ := zah i6 hq
    have e : q = b6 := e
    omega
   rw [← hTD]
   refine KGO ?_
   refine ⟨hD, fun wz kz => ?_⟩
   have az := ((vy).keep kz (zbV hD vy)).at
   have qz := Kp.refl wz n_
   have Kz : Kp w wz n_ := Kp.trans KW kz (fun i hi e => by have e := List.mem_singleton.1 e; omega)
   have oz := zaf oy kz fun q hq e => by
    obtain ⟨_, _, _, hBq, _⟩ := zah oy hq
    have e := List.mem_singleton.1 e
    omega
   refine GW ?_
   refine KGO ?_
   refine GW ?_
   exact ⟨_, rfl, zan oz (by omega), Kz⟩
  | some o =>
   have hTD : D ++ [(o, s.length)] = TT := by rw [← he]; rfl
   unfold opI at a8
   dsimp only at a8
   have hxs : D.length ≤ 200000000 := by omega
   refine KGO ?_
   rw [hz]
   refine RunV.of (zaY (o : Nat) (s.length : Nat) _) ?_
   refine KGO ?_
   refine RunV.of (bs1Spn (o, s.length) _) ?_
   obtain ⟨a_b15, v_b15, k_W4, z_W4, r_W4⟩ := new5 W 55 (spnC (o, s.length))
   generalize W.alloc (.cells (List.toArray (spnC (o, s.length))) 55) = W4 at *
   generalize hs_b15 : W.heap.size = b15 at *
   refine KGO ?_
   have hobl : ∀ q, (Value.slice av D.length cv).ownBlock = some q → DD + 2 ≤ q := fun q e => by
    obtain ⟨_, _, _, hBq, _⟩ := zah i6 e
    exact hBq
   refine tySpn.app1 (o, s.length) (zai i6 k_W4) (by omega) a_b15 (by omega) (by omega) fun v5 W5 o5 k5 => ?_
   obtain ⟨a5, c5, rfl⟩ := zad o5
   have hobl5 : ∀ q, (Value.slice a5 (D ++ [(o, s.length)]).length c5).ownBlock = some q → DD + 2 ≤ q := fun q e => by
    obtain ⟨_, _, _, hBq, _⟩ := zah o5 e
    exact hBq
   have k25 : Kp W W5 (fun q => q = b6 ∨ q = b7 ∨ DD + 2 ≤ q) := k_W4.of_none.trans' (k5.mono fun q _ e => .inr (.inr (hobl q e)))
   have m4 := (i4.keep0 k_W4).keep k5 (fun e => by have := hobl _ e; omega)
   have m2 := (i2.keep0 k_W4).keep k5 (fun e => by have := hobl _ e; omega)
   refine KGO ?_
   refine Store.cellK (i := 0) m4 (by simp) (by rfl) ⟨rfl, by simp, by simp⟩ fun W6 m7 k6 => ?_
   have k26 := k25.trans' (k6.mono (c' := fun q => q = b6 ∨ q = b7 ∨ DD + 2 ≤ q) fun q _ e => .inr (.inl e))
   have m2 := m2.keep k6 (fun e => by have e : b6 = b7 := e; omega)
   have o6 := zaf o5 k6 fun q hq e => by
    have := hobl5 q hq
    have e : q = b7 := e
    omega
   have a7 := m7.at
   have q6 := Kp.refl W6 n_
   refine KGO ?_
   have kS : Kp W W6 (fun q => q = b6 ∨ q = b7 ∨ DD + 2 ≤ q) := k26
   refine Store.cellK (i := 0) m2 (by simp) (by rfl) ⟨rfl, by simp, by simp⟩ fun wy vy ky => ?_
   have kc := kS.trans' (ky.mono (c' := fun q => q = b6 ∨ q = b7 ∨ DD + 2 ≤ q) fun q _ e => .inl e)
   have hD : AllD [w7.heap.size] wy := zch ((kc.block _ (by omega) (by rintro (e | e | e) <;> omega)).trans hdf)
   have KW : Kp w wy n_ := (K7.trans i1 fun q hq e => by have e : b6 ≤ q := e; omega).trans kc fun q hq e => by rcases e with e | e | e <;> omega
   have oy := zaf o6 ky fun q hq e => by
    obtain ⟨_, _, _, hBq, _⟩ := zah o6 hq
    have e : q = b6 := e
    omega
   rw [← hTD]
   refine KGO ?_
   refine ⟨hD, fun wz kz => ?_⟩
   have az := ((vy).keep kz (zbV hD vy)).at
   have qz := Kp.refl wz n_
   have Kz : Kp w wz n_ := Kp.trans KW kz (fun i hi e => by have e := List.mem_singleton.1 e; omega)
   have oz := zaf oy kz fun q hq e => by
    obtain ⟨_, _, _, hBq, _⟩ := zah oy hq
    have e := List.mem_singleton.1 e
    omega
   refine GW ?_
   refine KGO ?_
   refine GW ?_
   exact ⟨_, rfl, zan oz (by omega), Kz⟩
 ·rintro c pre W ⟨rfl, i1, v, i2, i3⟩ hsz hdf
  obtain ⟨av, cv, rfl⟩ := zad i3
  have hD := zch hdf
  have KW : Kp w W n_ := K7.trans i1 fun q hq e => by have e : b6 ≤ q := e; omega
  refine KGO ?_
  refine ⟨hD, fun wz kz => ?_⟩
  have az := ((i2).keep kz (zbV hD i2)).at
  have qz := Kp.refl wz n_
  have Kz : Kp w wz n_ := Kp.trans KW kz (fun i hi e => by have e := List.mem_singleton.1 e; omega)
  have oz := zaf i3 kz fun q hq e => by
   obtain ⟨_, _, _, hBq, _⟩ := zah i3 hq
   have e := List.mem_singleton.1 e
   omega
  refine GW ?_
  refine KGO ?_
  refine GW ?_
  exact ⟨_, rfl, zan oz (by omega), Kz⟩
end
end Go.Proofs.YtmjeacpoobbjjaaGreatDoor
