/- Helper text of this claim: lemmas and contracts that the proved statement rests on; no conditions of its own. -/
import Derived.Test.YtohhkegmbgancaaGreatDoorGAd9
namespace Go.Proofs.YtohhkegmbgancaaGreatDoor
set_option maxHeartbeats 8000000
open Go.Shelf Go.RowKit Go.Pw Go.Vc Go.Cs Go.Lib
set_option linter.unusedVariables false
set_option maxRecDepth 100000
abbrev fv (n : Nat) : Value := .func (.func n) #[] #[]
def doesL : List Value := [.nilFunc, fv 26, fv 27, fv 28, fv 29, fv 30, fv 31, fv 32, fv 33, fv 34, fv 35, fv 36, fv 37]
theorem zpK {o : Opr} (hk : 1 ≤ o.kind ∧ o.kind ≤ 12) : ∃ (i fn : Nat), o.kind = (i : Nat) ∧ i < 13 ∧ doesL[i]? = some (fv fn) ∧ (∀ (args : Array Value) (w : World), (callFunc fn args).run Tryz.prog w = .ok (.enter fn args) w) ∧
  ∀ {w : World} {B b : Nat} {h : Hd} {lx : List Mr} {A : Acc} {v : Ov}, Drf w B b h lx A → Fit A → AscS A.scripts → OpR w v o → FitO o → BEnv w → Calls Tryz.prog fn #[.pointer (some ⟨b, 0, none⟩), .agg (opC v o).toArray] w fun e w' => Done w' b e (oneA A o) ∧ Kp w w' (from_ B) := by
 have hc : o.kind = 1 ∨ o.kind = 2 ∨ o.kind = 3 ∨ o.kind = 4 ∨ o.kind = 5 ∨ o.kind = 6 ∨ o.kind = 7 ∨ o.kind = 8 ∨ o.kind = 9 ∨ o.kind = 10 ∨ o.kind = 11 ∨ o.kind = 12 := by omega
 rcases hc with e | e | e | e | e | e | e | e | e | e | e | e
 ·exact ⟨1, _, e, by omega, rfl, Tryz.call26, fun hd hf ha ho fo hE => by simpa only [oneA, e, if_true] using zon hd hf ho fo⟩
 ·exact ⟨2, _, e, by omega, rfl, Tryz.call27, fun hd hf ha ho fo hE => by have := zok hd hf ho fo; unfold oneA; rw [e]; exact this⟩
 ·exact ⟨3, _, e, by omega, rfl, Tryz.call28, fun hd hf ha ho fo hE => by have := zoE hd hf ho fo; unfold oneA; rw [e]; exact this⟩
 ·exact ⟨4, _, e, by omega, rfl, Tryz.call29, fun {_ _ _ _ _ _ v} hd hf ha ho fo hE => by have := zjV (v := v) (o := o) hd hf; unfold oneA; rw [e]; exact this⟩
 ·exact ⟨5, _, e, by omega, rfl, Tryz.call30, fun {_ _ _ _ _ _ v} hd hf ha ho fo hE => by have := zpR (v := v) hd hf fo hE; unfold oneA; rw [e]; exact this⟩
 ·exact ⟨6, _, e, by omega, rfl, Tryz.call31, fun {_ _ _ _ _ _ v} hd hf ha ho fo hE => by have := zoC (v := v) hd hf fo hE; unfold oneA; rw [e]; exact this⟩
 ·exact ⟨7, _, e, by omega, rfl, Tryz.call32, fun {_ _ _ _ _ _ v} hd hf ha ho fo hE => by have := zot (v := v) (o := o) hd hf hE; unfold oneA; rw [e]; exact this⟩
 ·exact ⟨8, _, e, by omega, rfl, Tryz.call33, fun {_ _ _ _ _ _ v} hd hf ha ho fo hE => by have := zoQ (v := v) (o := o) hd hf hE; unfold oneA; rw [e]; exact this⟩
 ·exact ⟨9, _, e, by omega, rfl, Tryz.call34, fun {_ _ _ _ _ _ v} hd hf ha ho fo hE => by have := zpQ (v := v) hd hf fo ha; unfold oneA; rw [e]; exact this⟩
 ·exact ⟨10, _, e, by omega, rfl, Tryz.call35, fun {_ _ _ _ _ _ v} hd hf ha ho fo hE => by have := zmJ (v := v) (o := o) hd hf ha; unfold oneA; rw [e]; exact this⟩
 ·exact ⟨11, _, e, by omega, rfl, Tryz.call36, fun {_ _ _ _ _ _ v} hd hf ha ho fo hE => by have := zlO (v := v) (o := o) hd hf ha; unfold oneA; rw [e]; exact this⟩
 ·exact ⟨12, _, e, by omega, rfl, Tryz.call37, fun {_ _ _ _ _ _ v} hd hf ha ho fo hE => by have := zkX (v := v) hd hf fo; unfold oneA; rw [e]; exact this⟩
theorem Fit.next {A : Acc} (h : Fit A) (hs : A.st ≤ 1099511627776) : Fit (nextA A) := ⟨h.bl, h.bs, h.ml, h.mb, h.mf, h.sl, h.ss, h.nl, ⟨by have := h.st; show 0 ≤ A.st + 1; omega, by show A.st + 1 ≤ _; omega⟩, h.nm, h.nb⟩
theorem zjQ (w : World) : (Instr.build 61 [(1, fv 26), (2, fv 27), (3, fv 28), (4, fv 29), (5, fv 30), (6, fv 31), (7, fv 32), (8, fv 33), (9, fv 34), (10, fv 35), (11, fv 36), (12, fv 37)].toArray).run Tryz.prog w = .ok (.agg doesL.toArray) w := by
 simp [Instr.build, Instr.fill, go_sem, Tryz.runUnderlying61, doesL, fv]
abbrev zAcc' : List Value := [.slice none 0 0, .slice none 0 0, .slice none 0 0, .string ⟨#[]⟩, .slice none 0 0, .int .i64 0, .int .i64 0, .int .i64 0]
theorem AccO.lo {w : World} {B : Nat} {h : Hd} {lx : List Mr} {A : Acc} (o : AccO w B h lx A) : ∀ q ∈ h.all lx, B ≤ q ∧ q < w.heap.size := fun q hq => by
 unfold Hd.all Hd.bs at hq
 simp only [List.mem_append, zaz] at hq
 rcases hq with (((hq | hq) | hq) | hq) | hq
 ·exact o.b.lt q hq
 ·exact o.s.lt q hq
 ·exact o.n.lt q hq
 ·exact o.m.lt q hq
 ·obtain ⟨x, hx, hq⟩ := List.mem_flatMap.1 hq
  rcases bs_mem hq with hq | hq
  ·exact (o.mb x hx).1.lt q hq
  ·exact (o.mb x hx).2.lt q hq
theorem AccO.keepP {w w' : World} {B : Nat} {p : Nat → Prop} {h : Hd} {lx : List Mr} {A : Acc} (o : AccO w B h lx A) (k : Kp w w' p) (hp : ∀ q ∈ h.all lx, ¬ p q) : AccO w' B h lx A :=
  ⟨zah o.b k fun q hq => hp q (Hd.all_b hq), zah o.s k fun q hq => hp q (Hd.all_s hq), zah o.n k fun q hq => hp q (Hd.all_n hq), zah o.m k fun q hq => hp q (Hd.all_m hq), o.ml,
   fun x hx => ⟨zah (o.mb x hx).1 k fun q hq => hp q (Hd.all_x hx (.inl hq)), zah (o.mb x hx).2 k fun q hq => hp q (Hd.all_x hx (.inr hq))⟩, o.nd⟩
theorem ziC (h : Hd) (A : Acc) (w : World) : (Instr.build 65 [(0, .agg (accC h A).toArray)].toArray).run Tryz.prog w = .ok (.agg (accC h A).toArray) w := by
 simp [Instr.build, Instr.fill, go_sem, Tryz.runUnderlying65, accC]
section
variable {w : World}
theorem zcr {h : Hd} {A : Acc} {v : Ov} {o : Opr} (hr : AccR w h A) (hf : Fit A) (hs : A.st ≤ 1099511627776) (ha : AscS A.scripts) (ho : OpR w v o) (fo : FitO o) (hE : BEnv w) :
  Calls Tryz.prog 10 #[.agg (accC h A).toArray, .agg (opC v o).toArray] w fun e w' => ∃ h', e = .returned (.tuple #[.agg (accC h' (applyA A o).1).toArray, .int .i64 (applyA A o).2.1, .int .i64 ((applyA A o).2.2 : Nat)]) ∧ StabA w' h' (applyA A o).1 ∧ Kp w w' n_ := by
 refine zaa (args := [.agg (accC h A).toArray, .agg (opC v o).toArray]) Tryz.func10 rfl NL ?_; refine GW ?_
 obtain ⟨a_b1, v_b1, k_w1, z_w1, r_w1⟩ := new5 w 36 (accC h A)
 generalize w.alloc (.cells (List.toArray (accC h A)) 36) = w1 at *
 generalize hs_b1 : w.heap.size = b1 at *
 obtain ⟨a_b2, v_b2, k_w2, z_w2, r_w2⟩ := new5 w1 28 (opC v o)
 generalize w1.alloc (.cells (List.toArray (opC v o)) 28) = w2 at *
 generalize hs_b2 : w1.heap.size = b2 at *
 obtain ⟨a_b3, v_b3, k_w3, z_w3, r_w3⟩ := new5 w2 36 (zAcc')
 generalize w2.alloc (.cells (List.toArray (zAcc')) 36) = w3 at *
 generalize hs_b3 : w2.heap.size = b3 at *
 have K3 : Kp w w3 n_ := (k_w1.trans0 k_w2).trans0 k_w3
 have a1 := zac a_b1 (k_w2.trans0 k_w3)
 have a2 := zac a_b2 k_w3
 refine KGO ?_
 refine RunV.of (zjQ _) ?_
 refine KGO ?_
 refine Store.fresh (vs := doesL) (by rfl) rfl (zan (by rfl)) ?_
 obtain ⟨a_b4, k_w4, z_w4⟩ := new3 w3 61 (doesL)
 generalize w3.alloc (.cells (List.toArray (doesL)) 61) = w4 at *
 generalize hs_b4 : w3.heap.size = b4 at *
 have K4 := K3.trans0 k_w4
 have a1 := zac a1 k_w4
 have a2 := zac a2 k_w4
 have kr4 := Kp.refl w4 n_
 refine KGO ?_
 refine CallS.of (Tryz.call38 _ _) (zbR (w := w4) o.kind 1 12) ?_
 rintro e w4' ⟨rfl, rfl⟩
 refine RT ?_
 by_cases h1 : 1 ≤ o.kind ∧ o.kind ≤ 12
 rotate_left
 ·have hres : applyA A o = (A, 0, 1) := by
   have hone : oneA (nextA A) o = .error 1 := by
    unfold oneA
    rw [if_neg (by omega), if_neg (by omega), if_neg (by omega), if_neg (by omega), if_neg (by omega), if_neg (by omega), if_neg (by omega), if_neg (by omega), if_neg (by omega), if_neg (by omega), if_neg (by omega), if_neg (by omega)]
   unfold applyA
   rw [hone]
  rw [show decide (1 ≤ o.kind ∧ o.kind ≤ 12) = false from decide_eq_false h1]
  refine KGO ?_
  refine CallS.of (Tryz.call39 _ _) (zek (w := w4) (hr.keep K4) hf) ?_
  rintro e w5 ⟨h', lx, rfl, o5, k5⟩
  have vr := v_b3.keep0 (k_w4.trans0 k5)
  refine RT ?_
  refine KGO ?_
  refine SVK (accC h' A) vr fun w6 vr k6 => ?_
  have hat := vr.at
  refine KGO ?_
  refine GW ?_
  refine KGO ?_
  refine GW ?_
  rw [hres]
  exact ⟨h', rfl, (o5.p.keep k6 fun q hq e => by have e : q = b3 := e; have := (o5.lo q hq).1; have := k_w4.size; omega).stab, zae (K4.trans0 k5) k6 (by omega)⟩
 rw [show decide (1 ≤ o.kind ∧ o.kind ≤ 12) = true from decide_eq_true h1]
 obtain ⟨ik, fn, hki, hi13, hdo, hg, hcall⟩ := zpK h1
 refine KGO ?_
 refine CallS.of (Tryz.call39 _ _) (zek (w := w4) (hr.keep K4) hf) ?_
 rintro e w5 ⟨h', lx, rfl, o5, k5⟩
 refine RT ?_
 refine KGO ?_
 refine RunV.of (ziC h' A _) ?_
 refine KGO ?_
 obtain ⟨a_b5, v_b5, k_w6, z_w6, r_w6⟩ := new5 w5 65 (accC h' A)
 generalize w5.alloc (.cells (List.toArray (accC h' A)) 65) = w6 at *
 generalize hs_b5 : w5.heap.size = b5 at *
 have o6 := o5.keep k_w6
 have hst := hf.st
 have z5 := k5.size
 have hall : ∀ q ∈ h'.all lx, w4.heap.size ≤ q ∧ q < b5 := fun q hq => by have := o5.lo q hq; omega
 refine KGO ?_
 refine SCK 7 v_b5 fun w7 v7 k7 => ?_
 have o7 := o6.keepP k7 fun q hq e => by have e : q = b5 := e; have := (hall q hq).2; omega
 have hd7 : Drf w7 w4.heap.size b5 h' lx (nextA A) := ⟨v7, ⟨o7.b, o7.s, o7.n, o7.m, o7.ml, o7.mb, o7.nd⟩, fun k hk => (hall k hk).2, by omega⟩
 have K47 : Kp w4 w7 n_ := zae (k5.trans0 k_w6) k7 (by omega)
 have K7 := K4.trans0 K47
 have a27 := zac a2 K47
 have a47 := zac a_b4 K47
 have kr7 := Kp.refl w7 n_
 refine KGO ?_
 refine Load.one (by rfl) (v := fv fn) (by rw [hki]; exact a47 _ _ hdo) ?_
 refine KGO ?_
 have kd7 : Kp w7 w7.drew n_ := (Kp.refl w7 n_).drew
 have K7d := K7.trans0 kd7
 refine CallS.of (hg _ _) (hcall (w := w7.drew) (v := v) (hd7.keep kd7) (hf.next hs) ha (ho.keep K7d) fo (hE.keep K7d)) ?_
 rintro e w8 ⟨hD, k8⟩
 have hz4 := K4.size
 have K8 : Kp w w8 n_ := ⟨k8.os.trans K7d.os, k8.tape.trans K7d.tape, k8.output.trans K7d.output, Nat.le_trans K7d.size k8.size, fun q hq _ => (k8.block q (Nat.lt_of_lt_of_le hq K7d.size) fun e => by have e : w4.heap.size ≤ q := e; omega).trans (K7d.block q hq id)⟩
 have K48 : Kp w4 w8 n_ := by
  have K7d := K47.trans0 kd7
  exact ⟨k8.os.trans K7d.os, k8.tape.trans K7d.tape, k8.output.trans K7d.output, Nat.le_trans K7d.size k8.size, fun q hq _ => (k8.block q (Nat.lt_of_lt_of_le hq K7d.size) fun e => by have e : w4.heap.size ≤ q := e; omega).trans (K7d.block q hq id)⟩
 have a28 := zac a2 K48
 have a18 := zac a1 K48
 have vr := v_b3.keep0 (k_w4.trans0 K48)
 have kr8 := Kp.refl w8 n_
 cases hone : oneA (nextA A) o with
 | error c =>
  rw [hone] at hD
  have hD : e = .returned (.tuple #[.int .i64 0, .int .i64 (c : Nat)]) := hD
  subst hD
  have hres : applyA A o = (A, 0, c) := by unfold applyA; rw [hone]
  have hc0 : c ≠ 0 := zlV hone
  refine RT ?_
  refine KGO ?_
  refine CallS.of (Tryz.call39 _ _) (zek (w := w8) (hr.keep K8) hf) ?_
  rintro e w9 ⟨h9, lx9, rfl, o9, k9⟩
  have vr := vr.keep0 k9
  refine RT ?_
  refine KGO ?_
  refine SVK (accC h9 A) vr fun w10 vr k10 => ?_
  have hat := vr.at
  refine KGO ?_
  refine GW ?_
  refine KGO ?_
  refine GW ?_
  rw [hres]
  exact ⟨h9, rfl, (o9.p.keep k10 fun q hq e => by have e : q = b3 := e; have := (o9.lo q hq).1; have := k_w4.size; have := K48.size; omega).stab, zae (K8.trans0 k9) k10 (by omega)⟩
 | ok r =>
  obtain ⟨A', n⟩ := r
  rw [hone] at hD
  obtain ⟨rfl, h8, v8, r8, st8⟩ := hD
  dsimp only at v8 r8 st8 ⊢
  have hd8 := v8.at
  refine RT ?_
  have hst8 : A'.st = A'.st := rfl
  by_cases h2 : 1099511627776 < A'.st
  ·have hres : applyA A o = (A, 0, 3) := by unfold applyA; rw [hone]; exact if_pos h2
   refine KGO ?_
   refine CallS.of (Tryz.call39 _ _) (zek (w := w8) (hr.keep K8) hf) ?_
   rintro e w9 ⟨h9, lx9, rfl, o9, k9⟩
   have vr := vr.keep0 k9
   refine RT ?_
   refine KGO ?_
   refine SVK (accC h9 A) vr fun w10 vr k10 => ?_
   have hat := vr.at
   refine KGO ?_
   refine GW ?_
   refine KGO ?_
   refine GW ?_
   rw [hres]
   exact ⟨h9, rfl, (o9.p.keep k10 fun q hq e => by have e : q = b3 := e; have := (o9.lo q hq).1; have := k_w4.size; have := K48.size; omega).stab, zae (K8.trans0 k9) k10 (by omega)⟩
  ·have hres : applyA A o = (A', n, 0) := by unfold applyA; rw [hone]; exact if_neg h2
   refine KGO ?_
   refine SVK (accC h8 A') vr fun w10 vr10 k10 => ?_
   have hat := vr10.at
   refine KGO ?_
   refine GW ?_
   refine KGO ?_
   refine GW ?_
   rw [hres]
   exact ⟨h8, rfl, st8.step vr k10, zae K8 k10 (by omega)⟩
end
def inboxN : List UInt8 := [73, 110, 98, 111, 120]
def newB : List Bx := (addL [] 0 inboxN inB 1).1
def newA : Acc := ⟨newB, [], [], [], [], 1, 2, 0⟩
theorem zfM (s : Sl) (w : World) : (Instr.build 36 [(0, .slice s.a s.n s.c), (5, .int .i64 1), (6, .int .i64 2)].toArray).run Tryz.prog w = .ok (.agg #[.slice s.a s.n s.c, .slice none 0 0, .slice none 0 0, .string ⟨#[]⟩, .slice none 0 0, .int .i64 1, .int .i64 2, .int .i64 0]) w := by
 simp [Instr.build, Instr.fill, go_sem, Tryz.runUnderlying36]
section
variable {w : World}
theorem zaW {α : Type} (c : α → List Value) : RowO w (.slice none 0 0) c [] := ⟨none, 0, rfl, fun h => by simp at h⟩
theorem znP (hE : BEnv w) : Calls Tryz.prog 9 #[] w fun e w' => ∃ h', e = .returned (.agg (accC h' newA).toArray) ∧ StabA w' h' newA ∧ Kp w w' n_ := by
 refine zaa (args := []) Tryz.func9 rfl NL ?_; refine GW ?_
 obtain ⟨a_b1, v_b1, k_w1, z_w1, r_w1⟩ := new5 w 36 (zAcc')
 generalize w.alloc (.cells (List.toArray (zAcc')) 36) = w1 at *
 generalize hs_b1 : w.heap.size = b1 at *
 refine KGO ?_
 refine CallS.of (Tryz.call25 _ _) (znC (w := w1) [] 0 inboxN inB 1 (zaW _) (by simp) (by intro b hb; simp at hb) (by decide) (hE.keep k_w1)) ?_
 rintro e w2 ⟨v2, rfl, o2, k2⟩
 obtain ⟨a2, c2, rfl⟩ := zab o2
 have K2 := k_w1.trans0 k2
 have vr := v_b1.keep0 k2
 refine RT ?_
 refine KGO ?_
 refine RunV.of (zfM ⟨a2, _, c2⟩ _) ?_
 refine KGO ?_
 refine SVK (accC ⟨⟨a2, (addL [] 0 inboxN inB 1).1.length, c2⟩, ⟨none, 0, 0⟩, ⟨none, 0, 0⟩, ⟨none, 0, 0⟩⟩ newA) vr fun w3 vr k3 => ?_
 have hat := vr.at
 refine KGO ?_
 refine GW ?_
 refine KGO ?_
 refine GW ?_
 refine ⟨_, rfl, AccP.stab (lx := []) ⟨zaj (zaA o2 k3 (by omega)) (Nat.zero_le _), World.ownsRow_nil _ _ _ _, World.ownsRow_nil _ _ _ _, World.ownsRow_nil _ _ _ _, rfl, fun x hx => by simp at hx⟩, zae K2 k3 (by omega)⟩
end
end Go.Proofs.YtohhkegmbgancaaGreatDoor
namespace Go.Cs
set_option maxHeartbeats 8000000
open Go.Lib
set_option linter.unusedVariables false
abbrev M40 : Int := 1099511627776
structure FitP (A : Acc) (m : Ml) : Prop where
 id : 1 ≤ m.id ∧ m.id ≤ A.nm - 1
 ne : m.boxes ≠ []
 asc : AscB ltI m.boxes
 there : ∀ b ∈ m.boxes, hasId A.boxes b = true
 fl : m.flags.length ≤ 20
 fasc : AscB ltT m.flags
 fok : ∀ f ∈ m.flags, flagB f = true
 at_ : 0 ≤ m.at_ ∧ m.at_ ≤ M40
 size : 0 ≤ m.size ∧ m.size ≤ 65536
 mod : 0 ≤ m.mod ∧ m.mod ≤ A.st
structure GoodQ (A : Acc) : Prop where
 nm : 1 ≤ A.nm ∧ A.nm ≤ M40
 nb : 1 ≤ A.nb ∧ A.nb ≤ M40
 st : 0 ≤ A.st
 bx : RightP A.boxes
 bid : ∀ b ∈ A.boxes, b.id < A.nb
 ml : A.mails.length ≤ 4096
 asc : A.mails.Pairwise fun x y => x.id < y.id
 fit : ∀ m ∈ A.mails, FitP A m
 sl : A.scripts.length ≤ 16
 sasc : AscS A.scripts
 src : ∀ s ∈ A.scripts, srcB s = true
 nl : A.seen.length ≤ 256
 key : ∀ s ∈ A.seen, s.key.length ≤ 1000 ∧ 0 ≤ s.at_ ∧ s.at_ ≤ M40
 knd : (A.seen.map (·.key)).Nodup
 act : A.active = [] ∨ hasS A.scripts A.active = true
structure GoodP (A : Acc) : Prop extends GoodQ A where
 top : A.st ≤ M40
theorem inR_t {n lo hi : Int} (h : lo ≤ n ∧ n ≤ hi) : inR n lo hi = true := decide_eq_true h
theorem zeJ {bs : List Bx} {ids : List Int} : thereB bs ids = true ↔ ∀ i ∈ ids, hasId bs i = true := by
 unfold thereB hasId
 rw [List.all_eq_true]
theorem zoH {A : Acc} {m : Ml} (h : FitP A m) : fitM A m = true := by
 unfold fitM
 rw [inR_t h.id, decide_eq_true (List.length_pos_iff.2 h.ne), (zcf stoI.tr).2 h.asc, zeJ.2 h.there, decide_eq_true h.fl, (zcf stoT.tr).2 h.fasc, show flagsB m.flags = true from List.all_eq_true.2 h.fok, inR_t h.at_, inR_t h.size, inR_t h.mod]
 rfl
theorem zjA : ∀ (l : List Sn) (ks : List (List UInt8)), (∀ s ∈ l, s.key.length ≤ 1000 ∧ 0 ≤ s.at_ ∧ s.at_ ≤ M40) → (l.map (·.key)).Nodup → (∀ s ∈ l, s.key ∉ ks) → keysB ks l = true
 | [], _, _, _, _ => rfl
 | s :: r, ks, h1, h2, h3 => by
  have hs := h1 s (by simp)
  rw [List.map_cons, List.nodup_cons] at h2
  rw [keysB, decide_eq_true hs.1, inR_t hs.2, decide_eq_false (h3 s (by simp)), zjA r (ks ++ [s.key]) (fun x hx => h1 x (List.mem_cons_of_mem _ hx)) h2.2 fun x hx hq => by
   rcases List.mem_append.1 hq with hq | hq
   ·exact h3 x (List.mem_cons_of_mem _ hx) hq
   ·have e : x.key = s.key := by simpa using hq
    exact h2.1 (e ▸ List.mem_map_of_mem hx)]
  rfl
theorem zjK {A : Acc} (h : GoodP A) : rightA A = true := by
 have h1 : headB A = true := by
  unfold headB
  rw [inR_t h.nm, inR_t h.nb, inR_t ⟨h.st, h.top⟩, (zaE _).2 h.bx, decide_eq_true h.ml, decide_eq_true h.sl, decide_eq_true h.nl]; rfl
 have h2 : lastB A = true := by
  unfold lastB
  cases hl : A.boxes.getLast? with
  | none => rfl
  | some b => exact decide_eq_true (h.bid b (List.mem_of_getLast? hl))
 have h3 : risesB idB A.mails = true := (zcf (lt := idB) (fun a b c h1 h2 => by simp only [idB, decide_eq_true_eq] at *; omega)).2 (h.asc.imp fun h => decide_eq_true h)
 have h4 : risesB nameB A.scripts = true := (zcf (lt := nameB) (fun a b c h1 h2 => stoT.tr _ _ _ h1 h2)).2 h.sasc
 unfold rightA
 rw [h1, h2, h3, h4, show A.mails.all (fitM A) = true from List.all_eq_true.2 fun m hm => zoH (h.fit m hm), show A.scripts.all srcB = true from List.all_eq_true.2 h.src, zjA _ [] h.key h.knd (by simp)]
 rcases h.act with e | e
 ·rw [decide_eq_true e]; rfl
 ·rw [e]; simp
section
variable {A : Acc} {o : Opr}
theorem FitP.mono {A A' : Acc} {m : Ml} (h : FitP A m) (h1 : A.nm ≤ A'.nm) (h2 : A.st ≤ A'.st) (h3 : ∀ b, hasId A.boxes b = true → hasId A'.boxes b = true) : FitP A' m :=
 ⟨by have := h.id; omega, h.ne, h.asc, fun b hb => h3 b (h.there b hb), h.fl, h.fasc, h.fok, h.at_, h.size, by have := h.mod; omega⟩
theorem zkD {l : List Ml} {id : Int} {m : Ml} (h : findA l id = some m) : m ∈ l ∧ m.id = id := by
 unfold findA at h
 exact ⟨List.mem_of_find?_eq_some h, by simpa using List.find?_some h⟩
theorem of_ok {m : Ml} (h : ofA A o = .ok m) : m ∈ A.mails ∧ m.id = o.id := by
 unfold ofA at h
 split at h
 ·cases h
 ·rename_i m' hm
  split at h
  ·cases h
  ·injection h with h
   subst h
   exact zkD hm
theorem upd_mem {f : Ml → Ml} {id : Int} : ∀ {l : List Ml} {x : Ml}, x ∈ updA l id f → x ∈ l ∨ ∃ m ∈ l, m.id = id ∧ x = f m
 | [], x, h => by simp [updA] at h
 | m :: r, x, h => by
  rw [updA] at h
  split at h
  ·rename_i e
   rcases List.mem_cons.1 h with rfl | h
   ·exact .inr ⟨m, by simp, e, rfl⟩
   ·exact .inl (by simp [h])
  ·rcases List.mem_cons.1 h with rfl | h
   ·exact .inl (by simp)
   ·rcases upd_mem h with h | ⟨m', h1, h2, h3⟩
    ·exact .inl (by simp [h])
    ·exact .inr ⟨m', by simp [h1], h2, h3⟩
theorem zig {f : Ml → Ml} {id : Int} (hf : ∀ m, (f m).id = m.id) : ∀ l : List Ml, (updA l id f).map (·.id) = l.map (·.id)
 | [] => rfl
 | m :: r => by
  rw [updA]
  split
  ·simp [hf]
  ·simp [zig hf r]
theorem zgP {id : Int} : ∀ l : List Ml, (delA l id).Sublist l
 | [] => .slnil
 | m :: r => by
  rw [delA]
  split
  ·exact List.sublist_cons_self _ _
  ·exact List.Sublist.cons_cons m (zgP r)
theorem zkT {l l' : List Ml} (h : l'.map (·.id) = l.map (·.id)) (ha : l.Pairwise fun x y => x.id < y.id) : l'.Pairwise fun x y => x.id < y.id := by
 have h1 : (l.map (·.id)).Pairwise (· < ·) := List.pairwise_map.2 ha
 rw [← h] at h1
 exact List.pairwise_map.1 h1
theorem GoodQ.mails (g : GoodQ A) {l : List Ml} (h1 : l.length ≤ 4096) (h2 : l.Pairwise fun x y => x.id < y.id) (h3 : ∀ m ∈ l, FitP A m) : GoodQ { A with mails := l } :=
 ⟨g.nm, g.nb, g.st, g.bx, g.bid, h1, h2, fun m hm => (h3 m hm).mono (Int.le_refl _) (Int.le_refl _) fun _ h => h, g.sl, g.sasc, g.src, g.nl, g.key, g.knd, g.act⟩
theorem GoodQ.boxes (g : GoodQ A) {l : List Bx} (h1 : RightP l) (h2 : ∀ b ∈ l, b.id < A.nb) (h3 : ∀ i, hasId A.boxes i = true → hasId l i = true) : GoodQ { A with boxes := l } :=
 ⟨g.nm, g.nb, g.st, h1, h2, g.ml, g.asc, fun m hm => (g.fit m hm).mono (Int.le_refl _) (Int.le_refl _) h3, g.sl, g.sasc, g.src, g.nl, g.key, g.knd, g.act⟩
theorem ziO (g : GoodQ A) {id : Int} {f : Ml → Ml} (hid : ∀ m, (f m).id = m.id) (hf : ∀ m ∈ A.mails, m.id = id → FitP A (f m)) : GoodQ { A with mails := updA A.mails id f } := by
 refine g.mails ?_ (zkT (zig hid _) g.asc) fun m hm => ?_
 ·have := congrArg List.length (zig (id := id) hid A.mails)
  rw [List.length_map, List.length_map] at this
  have := g.ml; omega
 ·rcases upd_mem hm with h | ⟨m', h1, h2, rfl⟩
  ·exact g.fit m h
  ·exact hf m' h1 h2
end
section
variable {A : Acc} {o : Opr} {r : Acc × Int}
theorem zeA {l : List Int} (h : AscB ltI l) : l.Nodup := h.imp fun {a b} h e => by subst e; rw [stoI.irr] at h; cases h
theorem zkJ (g : GoodQ A) (h : mailA A o = .ok r) : GoodQ r.1 ∧ r.1.st = A.st := by
 unfold mailA at h
 split at h
 ·cases h
 rename_i h1
 split at h
 ·cases h
 rename_i h2
 split at h
 ·cases h
 rename_i h3
 injection h with h
 subst h
 have hth : thereB A.boxes o.boxes = true := by simpa using h2
 have hfl : flagsB o.add = true := by
  cases hq : flagsB o.add with
  | true => rfl
  | false => exact absurd (.inr (.inl hq)) h1
 have hat : 0 ≤ o.at_ ∧ o.at_ ≤ 1099511627776 := Decidable.byContradiction fun q => h1 (.inr (.inr (.inl q)))
 have hsz : 0 ≤ o.size ∧ o.size ≤ 65536 := Decidable.byContradiction fun q => h1 (.inr (.inr (.inr q)))
 have hnm := g.nm
 have hne : o.boxes ≠ [] := fun q => h1 (.inl q)
 refine ⟨⟨⟨by show 1 ≤ A.nm + 1; omega, by show A.nm + 1 ≤ M40; unfold M40; omega⟩, g.nb, g.st, g.bx, g.bid, ?_, ?_, ?_, g.sl, g.sasc, g.src, g.nl, g.key, g.knd, g.act⟩, rfl⟩
 ·show (A.mails ++ [_]).length ≤ 4096
  rw [List.length_append]; simp; omega
 ·refine List.pairwise_append.2 ⟨g.asc, by simp, fun x hx y hy => ?_⟩
  rw [List.mem_singleton.1 hy]
  have := (g.fit x hx).id
  show x.id < A.nm
  omega
 ·intro m hm
  rcases List.mem_append.1 hm with hm | hm
  ·exact (g.fit m hm).mono (by show A.nm ≤ A.nm + 1; omega) (Int.le_refl _) fun _ h => h
  ·rw [List.mem_singleton.1 hm]
   exact ⟨⟨hnm.1, by show A.nm ≤ A.nm + 1 - 1; omega⟩, fun q => hne ((zdA stoI _).1 q), zcw stoI _, fun b hb => zeJ.1 hth b ((zcd stoI _ _).1 hb), by show (sortT o.add).length ≤ 20; omega, zcw stoT _, fun f hf => List.all_eq_true.1 hfl f ((zcd stoT _ _).1 hf), hat, hsz, ⟨g.st, Int.le_refl _⟩⟩
theorem zli (g : GoodQ A) (h : flagA A o = .ok r) : GoodQ r.1 ∧ r.1.st = A.st := by
 unfold flagA at h
 split at h
 ·cases h
 rename_i m hm
 split at h
 ·cases h
 rename_i h1
 split at h
 ·cases h
 rename_i h2
 injection h with h
 subst h
 obtain ⟨hmm, hmi⟩ := of_ok hm
 have hfl : flagsB o.add = true := by
  cases hq : flagsB o.add with
  | true => rfl
  | false => exact absurd (.inl hq) h1
 refine ⟨ziO (f := fun m => { m with flags := newFlags m o, mod := A.st }) g (fun _ => rfl) fun m' hm' hi => ?_, rfl⟩
 have e : m' = m := by
  obtain ⟨i, hi', rfl⟩ := List.getElem_of_mem hm'
  obtain ⟨j, hj', rfl⟩ := List.getElem_of_mem hmm
  rcases Nat.lt_trichotomy i j with q | q | q
  ·have := (List.pairwise_iff_getElem.1 g.asc) i j hi' hj' q; omega
  ·subst q; rfl
  ·have := (List.pairwise_iff_getElem.1 g.asc) j i hj' hi' q; omega
 subst e
 have hf := g.fit m' hm'
 refine ⟨hf.id, hf.ne, hf.asc, hf.there, by show (newFlags m' o).length ≤ 20; omega, zkj _ (zcw stoT _), fun f hq => ?_, hf.at_, hf.size, ⟨g.st, Int.le_refl _⟩⟩
 have hq := (zcd stoT _ _).1 (List.mem_filter.1 hq).1
 rcases List.mem_append.1 hq with hq | hq
 ·exact hf.fok f hq
 ·exact List.all_eq_true.1 hfl f hq
theorem zks (g : GoodQ A) (h : moveA A o = .ok r) : GoodQ r.1 ∧ r.1.st = A.st := by
 unfold moveA at h
 split at h
 ·cases h
 rename_i m hm
 split at h
 ·cases h
 rename_i h1
 split at h
 ·cases h
 rename_i h2
 injection h with h
 subst h
 have hth : thereB A.boxes o.boxes = true := by simpa using h2
 refine ⟨ziO (f := fun m => { m with boxes := sortI o.boxes, mod := A.st }) g (fun _ => rfl) fun m' hm' hi => ?_, rfl⟩
 have hf := g.fit m' hm'
 exact ⟨hf.id, fun q => h1 ((zdA stoI _).1 q), zcw stoI _, fun b hb => zeJ.1 hth b ((zcd stoI _ _).1 hb), hf.fl, hf.fasc, hf.fok, hf.at_, hf.size, ⟨g.st, Int.le_refl _⟩⟩
theorem zhh (g : GoodQ A) (h : destroyA A o = .ok r) : GoodQ r.1 ∧ r.1.st = A.st := by
 unfold destroyA at h
 split at h
 ·cases h
 injection h with h
 subst h
 exact ⟨g.mails (Nat.le_trans (zgP _).length_le g.ml) (g.asc.sublist (zgP _)) fun m hm => g.fit m ((zgP _).subset hm), rfl⟩
theorem zdR {l l' : List Bx} (h : ∀ b ∈ l, ∃ c ∈ l', c.id = b.id) (i : Int) (hi : hasId l i = true) : hasId l' i = true := by
 obtain ⟨b, hb, e⟩ := (zar _ _).1 hi
 obtain ⟨c, hc, e2⟩ := h b hb
 exact (zar _ _).2 ⟨c, hc, e2.trans e⟩
theorem zno (g : GoodQ A) (h : addA A o = .ok r) : GoodQ r.1 ∧ r.1.st = A.st := by
 unfold addA at h
 split at h
 ·cases h
 rename_i h1
 split at h
 ·cases h
 rename_i h2
 injection h with h
 subst h
 have h2 : (addL A.boxes o.up o.name o.role A.nb).2 = 0 := by simpa using h2
 obtain ⟨hr, ho⟩ := (zlg _ _ _ _).1 h2
 have hb := (ziI hr ho).1
 have he : (addL A.boxes o.up o.name o.role A.nb).1 = insL A.boxes ⟨A.nb, o.up, o.name, o.role⟩ := by rw [zof, if_pos h2]
 have hnb := g.nb
 refine ⟨?_, rfl⟩
 rw [he]
 refine ⟨g.nm, ⟨by show 1 ≤ A.nb + 1; omega, by show A.nb + 1 ≤ M40; unfold M40; omega⟩, g.st, hb, fun b hb => ?_, g.ml, g.asc, fun m hm => (g.fit m hm).mono (Int.le_refl _) (Int.le_refl _) fun i hi => zdR (fun b hb => ⟨b, mem_ins.2 (.inr hb), rfl⟩) i hi, g.sl, g.sasc, g.src, g.nl, g.key, g.knd, g.act⟩
 show b.id < A.nb + 1
 rcases mem_ins.1 hb with rfl | hb
 ·show A.nb < A.nb + 1; omega
 ·have := g.bid b hb; omega
theorem ziR {x : List Bx × Nat} (h : boxesA A x = .ok r) : x.2 = 0 ∧ r = ({ A with boxes := x.1 }, 0) := by
 unfold boxesA at h
 split at h
 ·cases h
 ·rename_i h1
  injection h with h
  exact ⟨by simpa using h1, h.symm⟩
theorem zkC (g : GoodQ A) (h : nameA A o = .ok r) : GoodQ r.1 ∧ r.1.st = A.st := by
 obtain ⟨h0, rfl⟩ := ziR h
 obtain ⟨hr, x, hx, hi, h1, h2⟩ := (ziM _ _).1 h0
 rw [← hi] at h2
 have hb := (zma hr hx h1 h2).1
 rw [hi] at hb
 have he : (nameL A.boxes o.box o.name).1 = setName A.boxes o.box o.name := by rw [zjx, if_pos h0]
 refine ⟨?_, rfl⟩
 show GoodQ { A with boxes := (nameL A.boxes o.box o.name).1 }
 rw [he]
 refine g.boxes hb (fun c hc => ?_) fun i hi => zdR (fun b hb => ⟨_, List.mem_map_of_mem hb, by split <;> rfl⟩) i hi
 obtain ⟨b, hb, rfl⟩ := List.mem_map.1 hc
 have := g.bid b hb
 split <;> exact this
theorem zlv (g : GoodQ A) (h : hangA A o = .ok r) : GoodQ r.1 ∧ r.1.st = A.st := by
 obtain ⟨h0, rfl⟩ := ziR h
 obtain ⟨hr, x, hx, hi, h1⟩ := (ziN _ _).1 h0
 have hb := (zlf hr hx h1).1
 rw [hi] at hb
 have he : (moveL A.boxes o.box o.up).1 = setUp A.boxes o.box o.up := by rw [zjp, if_pos h0]
 refine ⟨?_, rfl⟩
 show GoodQ { A with boxes := (moveL A.boxes o.box o.up).1 }
 rw [he]
 refine g.boxes hb (fun c hc => ?_) fun i hi => zdR (fun b hb => ⟨_, List.mem_map_of_mem hb, by split <;> rfl⟩) i hi
 obtain ⟨b, hb, rfl⟩ := List.mem_map.1 hc
 have := g.bid b hb
 split <;> exact this
end
section
variable {A : Acc} {o : Opr} {r : Acc × Int}
theorem zmz (st box : Int) (m : Ml) : (outOf st box m).id = m.id := by unfold outOf; split <;> rfl
theorem zkI (g : GoodQ A) (h : dropA A o = .ok r) : GoodQ r.1 ∧ r.1.st = A.st := by
 unfold dropA at h
 split at h
 ·cases h
 rename_i h0
 split at h
 ·cases h
 split at h
 ·cases h
 rename_i h2
 injection h with h
 subst h
 have h0 : (dropL A.boxes o.box).2 = 0 := by simpa using h0
 obtain ⟨hr, ⟨x, hx, hi⟩, hu⟩ := (zjf _).1 h0
 have he : (dropL A.boxes o.box).1 = delL A.boxes o.box := by rw [zjv, if_pos h0]
 refine ⟨?_, rfl⟩
 rw [he]
 refine ⟨g.nm, g.nb, g.st, zki hr hu, fun b hb => g.bid b (zis.1 hb).1, by show (A.mails.map _).length ≤ 4096; rw [List.length_map]; exact g.ml, zkT (by rw [List.map_map]; exact List.map_congr_left fun m _ => zmz _ _ _) g.asc, fun m hm => ?_, g.sl, g.sasc, g.src, g.nl, g.key, g.knd, g.act⟩
 obtain ⟨y, hy, rfl⟩ := List.mem_map.1 hm
 have hf := g.fit y hy
 have hth : ∀ i, i ≠ o.box → hasId A.boxes i = true → hasId (delL A.boxes o.box) i = true := fun i hi hq => by
  obtain ⟨b, hb, e⟩ := (zar _ _).1 hq
  exact (zar _ _).2 ⟨b, zis.2 ⟨hb, by omega⟩, e⟩
 have hnd := zeA hf.asc
 unfold outOf
 by_cases hb : o.box ∈ y.boxes
 ·rw [if_pos hb]
  have hne : y.boxes.erase o.box ≠ [] := fun e => by
   have hl := List.length_erase_of_mem hb
   rw [e] at hl
   have h1 : y.boxes.length = 1 := by have := List.length_pos_iff.2 hf.ne; simp at hl; omega
   obtain ⟨z, hz⟩ := List.length_eq_one_iff.1 h1
   rw [hz] at hb
   have hzb : o.box = z := by simpa using hb
   exact h2 (List.any_eq_true.2 ⟨y, hy, by rw [hz, hzb]; simp⟩)
  exact ⟨hf.id, hne, List.Pairwise.sublist List.erase_sublist hf.asc, fun b hq => hth b (fun e => by subst e; exact (hnd.mem_erase_iff.1 hq).1 rfl) (hf.there b (List.mem_of_mem_erase hq)), hf.fl, hf.fasc, hf.fok, hf.at_, hf.size, ⟨g.st, Int.le_refl _⟩⟩
 ·rw [if_neg hb]
  exact ⟨hf.id, hf.ne, hf.asc, fun b hq => hth b (fun e => hb (e ▸ hq)) (hf.there b hq), hf.fl, hf.fasc, hf.fok, hf.at_, hf.size, hf.mod⟩
theorem zbH {l : List Sc} {nm : List UInt8} : hasS l nm = true ↔ ∃ s ∈ l, s.name = nm := by unfold hasS; simp
theorem GoodQ.scripts (g : GoodQ A) {l : List Sc} (h1 : l.length ≤ 16) (h2 : AscS l) (h3 : ∀ s ∈ l, srcB s = true) (h4 : A.active = [] ∨ hasS l A.active = true) : GoodQ { A with scripts := l } :=
 ⟨g.nm, g.nb, g.st, g.bx, g.bid, g.ml, g.asc, fun m hm => (g.fit m hm).mono (Int.le_refl _) (Int.le_refl _) fun _ h => h, h1, h2, h3, g.nl, g.key, g.knd, h4⟩
theorem zgj (a : List UInt8) : ltT a a = false := stoT.irr a
theorem ziQ {a b c : List UInt8} (h1 : ltT a b = true) (h2 : ltT b c = true) : ltT a c = true := stoT.tr _ _ _ h1 h2
theorem zlQ (nm : List UInt8) : ∀ (l : List Sc) (k : Nat) (hk : k < l.length), k < idxS l nm → ltT l[k].name nm = true
 | [], k, hk, _ => by simp at hk
 | a :: t, k, hk, h => by
  unfold idxS at h
  by_cases ha : ltT a.name nm = true
  ·rw [List.takeWhile_cons_of_pos (by simpa using ha), List.length_cons] at h
   cases k with
   | zero => exact ha
   | succ k => exact zlQ nm t k (by simpa using hk) (by unfold idxS; omega)
  ·rw [List.takeWhile_cons_of_neg (by simpa using ha)] at h
   simp at h
theorem zmp (nm : List UInt8) : ∀ (l : List Sc), AscS l → ∀ (k : Nat) (hk : k < l.length), idxS l nm ≤ k → ltT l[k].name nm = false
 | [], _, k, hk, _ => by simp at hk
 | a :: t, hp, k, hk, h => by
  have hp' := List.pairwise_cons.1 hp
  by_cases ha : ltT a.name nm = true
  ·unfold idxS at h
   rw [List.takeWhile_cons_of_pos (by simpa using ha), List.length_cons] at h
   cases k with
   | zero => omega
   | succ k => exact zmp nm t hp'.2 k (by simpa using hk) (by unfold idxS; omega)
  ·have ha : ltT a.name nm = false := by simpa using ha
   cases k with
   | zero => exact ha
   | succ k =>
    cases hq : ltT (a :: t)[k + 1].name nm with
    | false => rfl
    | true =>
     have := ziQ (hp'.1 _ (List.getElem_mem (by simpa using hk))) hq
     rw [ha] at this; cases this
theorem zpB (l : List Sc) (nm : List UInt8) : idxS l nm ≤ l.length := by unfold idxS; exact (List.takeWhile_sublist _).length_le
theorem zir {l : List Sc} {nm : List UInt8} (hp : AscS l) (h : hasS l nm = true) : ∃ hk : idxS l nm < l.length, l[idxS l nm].name = nm := by
 obtain ⟨s, hs, e⟩ := zbH.1 h
 obtain ⟨j, hj, rfl⟩ := List.getElem_of_mem hs
 have h1 : idxS l nm ≤ j := Nat.le_of_not_lt fun q => by have := zlQ nm l j hj q; rw [e, zgj] at this; cases this
 refine ⟨by omega, ?_⟩
 have hq : ¬ idxS l nm < j := fun q => by
  have h2 := zmp nm l hp (idxS l nm) (by omega) (Nat.le_refl _)
  have h3 := (List.pairwise_iff_getElem.1 hp) (idxS l nm) j (by omega) hj q
  rw [e] at h3
  rw [h3] at h2; cases h2
 have : idxS l nm = j := by omega
 simp only [this]; exact e
theorem znw (g : GoodQ A) (h : setA A o = .ok r) : GoodQ r.1 ∧ r.1.st = A.st := by
 unfold setA at h
 split at h
 ·cases h
 rename_i h1
 split at h
 ·cases h
 rename_i h2
 have hsb : srcB ⟨o.name, o.text⟩ = true := by
  unfold srcB
  rw [show scB o.name = true by simpa using h1, decide_eq_true (by show o.text.length ≤ 32768; omega)]; rfl
 split at h
 ·rename_i h3
  injection h with h
  subst h
  obtain ⟨hk, he⟩ := zir g.sasc h3
  have hnm : (A.scripts.set (idxS A.scripts o.name) ⟨o.name, o.text⟩).map (·.name) = A.scripts.map (·.name) := by
   rw [List.map_set]
   apply List.ext_getElem (by simp)
   intro j h1 h2
   rw [List.getElem_set]
   split
   ·rename_i e; subst e; simp [he]
   ·rfl
  refine ⟨g.scripts (by rw [List.length_set]; exact g.sl) ?_ (fun s hs => ?_) ?_, rfl⟩
  ·have : (A.scripts.map (·.name)).Pairwise fun a b => ltT a b = true := List.pairwise_map.2 g.sasc
   rw [← hnm] at this
   exact List.pairwise_map.1 this
  ·rcases List.mem_or_eq_of_mem_set hs with hs | rfl
   ·exact g.src s hs
   ·exact hsb
  ·refine g.act.imp id fun q => ?_
   obtain ⟨s, hs, e⟩ := zbH.1 q
   have : A.active ∈ (A.scripts.set (idxS A.scripts o.name) ⟨o.name, o.text⟩).map (·.name) := by rw [hnm, ← e]; exact List.mem_map_of_mem hs
   obtain ⟨t, ht, e2⟩ := List.mem_map.1 this
   exact zbH.2 ⟨t, ht, e2⟩
 ·rename_i h3
  split at h
  ·cases h
  rename_i h4
  injection h with h
  subst h
  have h3 : hasS A.scripts o.name = false := by simpa using h3
  have hmem : ∀ s, s ∈ A.scripts.take (idxS A.scripts o.name) ++ ⟨o.name, o.text⟩ :: A.scripts.drop (idxS A.scripts o.name) ↔ s = ⟨o.name, o.text⟩ ∨ s ∈ A.scripts := fun s => by
   conv => rhs; rw [← List.take_append_drop (idxS A.scripts o.name) A.scripts]
   simp only [List.mem_append, List.mem_cons]
   constructor
   ·rintro (q | q | q)
    ·exact .inr (.inl q)
    ·exact .inl q
    ·exact .inr (.inr q)
   ·rintro (q | q | q)
    ·exact .inr (.inl q)
    ·exact .inl q
    ·exact .inr (.inr q)
  have hle := zpB A.scripts o.name
  refine ⟨g.scripts (by rw [List.length_append, List.length_cons, List.length_take, List.length_drop]; omega) ?_ (fun s hs => ?_) ?_, rfl⟩
  ·have ht : ∀ s ∈ A.scripts.take (idxS A.scripts o.name), ltT s.name o.name = true := fun s hs => by
    obtain ⟨k, hk, rfl⟩ := List.getElem_of_mem hs
    rw [List.length_take] at hk
    rw [List.getElem_take]
    exact zlQ _ _ _ (by omega) (by omega)
   have hd : ∀ s ∈ A.scripts.drop (idxS A.scripts o.name), ltT o.name s.name = true := fun s hs => by
    obtain ⟨k, hk, rfl⟩ := List.getElem_of_mem hs
    rw [List.length_drop] at hk
    rw [List.getElem_drop]
    have h5 := zmp o.name _ g.sasc (idxS A.scripts o.name + k) (by omega) (by omega)
    cases h6 : ltT o.name (A.scripts[idxS A.scripts o.name + k]'(by omega)).name with
    | true => rfl
    | false =>
     have := stoT.tri _ _ h5 h6
     have h7 : hasS A.scripts o.name = true := zbH.2 ⟨_, List.getElem_mem (by omega), this⟩
     rw [h3] at h7; cases h7
   unfold AscS
   rw [List.pairwise_append, List.pairwise_cons]
   refine ⟨List.Pairwise.sublist (List.take_sublist _ _) g.sasc, ⟨hd, List.Pairwise.sublist (List.drop_sublist _ _) g.sasc⟩, fun x hx y hy => ?_⟩
   rcases List.mem_cons.1 hy with rfl | hy
   ·exact ht x hx
   ·exact ziQ (ht x hx) (hd y hy)
  ·rcases (hmem s).1 hs with rfl | hs
   ·exact hsb
   ·exact g.src s hs
  ·refine g.act.imp id fun q => ?_
   obtain ⟨s, hs, e⟩ := zbH.1 q
   exact zbH.2 ⟨s, (hmem s).2 (.inr hs), e⟩
theorem zkf (g : GoodQ A) (h : unsetA A o = .ok r) : GoodQ r.1 ∧ r.1.st = A.st := by
 unfold unsetA at h
 split at h
 ·cases h
 rename_i h1
 split at h
 ·cases h
 rename_i h2
 injection h with h
 subst h
 have h1 : hasS A.scripts o.name = true := by simpa using h1
 obtain ⟨hk, he⟩ := zir g.sasc h1
 have hsub : (A.scripts.take (idxS A.scripts o.name) ++ A.scripts.drop (idxS A.scripts o.name + 1)).Sublist A.scripts := by
  rw [← List.eraseIdx_eq_take_drop_succ]
  exact List.eraseIdx_sublist _ _
 refine ⟨g.scripts (Nat.le_trans hsub.length_le g.sl) (List.Pairwise.sublist hsub g.sasc) (fun s hs => g.src s (hsub.subset hs)) ?_, rfl⟩
 refine g.act.imp id fun q => ?_
 obtain ⟨s, hs, e⟩ := zbH.1 q
 refine zbH.2 ⟨s, ?_, e⟩
 obtain ⟨j, hj, rfl⟩ := List.getElem_of_mem hs
 have hne : j ≠ idxS A.scripts o.name := fun q => by subst q; exact h2 (e.symm.trans he)
 rcases Nat.lt_or_gt_of_ne hne with q | q
 ·exact List.mem_append_left _ (List.mem_take_iff_getElem.2 ⟨j, by omega, rfl⟩)
 ·refine List.mem_append_right _ (List.mem_drop_iff_getElem.2 ⟨j - (idxS A.scripts o.name + 1), by omega, ?_⟩)
  congr 1
  omega
theorem zic (g : GoodQ A) (h : chooseA A o = .ok r) : GoodQ r.1 ∧ r.1.st = A.st := by
 unfold chooseA at h
 split at h
 ·cases h
 rename_i h1
 injection h with h
 subst h
 refine ⟨⟨g.nm, g.nb, g.st, g.bx, g.bid, g.ml, g.asc, fun m hm => (g.fit m hm).mono (Int.le_refl _) (Int.le_refl _) fun _ h => h, g.sl, g.sasc, g.src, g.nl, g.key, g.knd, ?_⟩, rfl⟩
 by_cases e : o.name = []
 ·exact .inl e
 ·refine .inr ?_
  cases hq : hasS A.scripts o.name with
  | true => rfl
  | false => exact absurd ⟨hq, e⟩ h1
theorem drop256 {α : Type} (l : List α) : (l.drop (l.length - 256)).length ≤ 256 := by rw [List.length_drop]; omega
theorem GoodQ.seens (g : GoodQ A) {l : List Sn} (h1 : l.length ≤ 256) (h2 : ∀ s ∈ l, s.key.length ≤ 1000 ∧ 0 ≤ s.at_ ∧ s.at_ ≤ M40) (h3 : (l.map (·.key)).Nodup) : GoodQ { A with seen := l } :=
 ⟨g.nm, g.nb, g.st, g.bx, g.bid, g.ml, g.asc, fun m hm => (g.fit m hm).mono (Int.le_refl _) (Int.le_refl _) fun _ h => h, g.sl, g.sasc, g.src, h1, h2, h3, g.act⟩
theorem ziB (g : GoodQ A) (h : answerA A o = .ok r) : GoodQ r.1 ∧ r.1.st = A.st := by
 unfold answerA at h
 by_cases h1 : 1000 < o.name.length ∨ ¬ (0 ≤ o.at_ ∧ o.at_ ≤ 1099511627776)
 ·rw [if_pos h1] at h; cases h
 rw [if_neg h1] at h
 have hat : 0 ≤ o.at_ ∧ o.at_ ≤ 1099511627776 := Decidable.byContradiction fun q => h1 (.inr q)
 have hln : o.name.length ≤ 1000 := by have : ¬ 1000 < o.name.length := fun q => h1 (.inl q); omega
 have hsub : ((seenA A.seen o).drop ((seenA A.seen o).length - 256)).Sublist (seenA A.seen o) := List.drop_sublist _ _
 have hlen := drop256 (seenA A.seen o)
 generalize (seenA A.seen o).drop ((seenA A.seen o).length - 256) = L at *
 injection h with h
 subst h
 refine ⟨g.seens hlen (fun s hs => ?_) ?_, rfl⟩
 ·have hs := hsub.subset hs
  unfold seenA at hs
  rcases List.mem_append.1 hs with hs | hs
  ·exact g.key s (List.mem_filter.1 hs).1
  ·rw [List.mem_singleton.1 hs]; exact ⟨hln, hat⟩
 ·have hnd : ((seenA A.seen o).map (·.key)).Nodup := by
   unfold seenA
   rw [List.map_append, List.nodup_append]
   refine ⟨g.knd.sublist (List.filter_sublist.map _), by simp, fun a ha b hb e => ?_⟩
   obtain ⟨s, hs, rfl⟩ := List.mem_map.1 ha
   have h2 := (List.mem_filter.1 hs).2
   have hb : b = o.name := by simpa using hb
   subst hb
   simp [e] at h2
  exact hnd.sublist (hsub.map _)
theorem zmC (g : GoodQ A) (h : oneA A o = .ok r) : GoodQ r.1 ∧ r.1.st = A.st := by
 unfold oneA at h
 by_cases k1 : o.kind = 1
 ·rw [if_pos k1] at h; exact zkJ g h
 rw [if_neg k1] at h
 by_cases k2 : o.kind = 2
 ·rw [if_pos k2] at h; exact zli g h
 rw [if_neg k2] at h
 by_cases k3 : o.kind = 3
 ·rw [if_pos k3] at h; exact zks g h
 rw [if_neg k3] at h
 by_cases k4 : o.kind = 4
 ·rw [if_pos k4] at h; exact zhh g h
 rw [if_neg k4] at h
 by_cases k5 : o.kind = 5
 ·rw [if_pos k5] at h; exact zno g h
 rw [if_neg k5] at h
 by_cases k6 : o.kind = 6
 ·rw [if_pos k6] at h; exact zkC g h
 rw [if_neg k6] at h
 by_cases k7 : o.kind = 7
 ·rw [if_pos k7] at h; exact zlv g h
 rw [if_neg k7] at h
 by_cases k8 : o.kind = 8
 ·rw [if_pos k8] at h; exact zkI g h
 rw [if_neg k8] at h
 by_cases k9 : o.kind = 9
 ·rw [if_pos k9] at h; exact znw g h
 rw [if_neg k9] at h
 by_cases k10 : o.kind = 10
 ·rw [if_pos k10] at h; exact zkf g h
 rw [if_neg k10] at h
 by_cases k11 : o.kind = 11
 ·rw [if_pos k11] at h; exact zic g h
 rw [if_neg k11] at h
 by_cases k12 : o.kind = 12
 ·rw [if_pos k12] at h; exact ziB g h
 rw [if_neg k12] at h
 cases h
theorem zhf (g : GoodP A) : GoodQ (nextA A) := by
 have := g.st
 exact ⟨g.nm, g.nb, by show 0 ≤ A.st + 1; omega, g.bx, g.bid, g.ml, g.asc, fun m hm => (g.fit m hm).mono (Int.le_refl _) (by show A.st ≤ A.st + 1; omega) fun _ h => h, g.sl, g.sasc, g.src, g.nl, g.key, g.knd, g.act⟩
theorem zcI (g : GoodP A) (o : Opr) : GoodP (applyA A o).1 := by
 unfold applyA
 cases h : oneA (nextA A) o with
 | error c => exact g
 | ok r =>
  dsimp only
  have h1 := zmC (zhf g) h
  by_cases h2 : 1099511627776 < r.1.st
  ·rw [if_pos h2]; exact g
  ·rw [if_neg h2]; exact ⟨h1.1, by show r.1.st ≤ M40; unfold M40; omega⟩
end
end Go.Cs
