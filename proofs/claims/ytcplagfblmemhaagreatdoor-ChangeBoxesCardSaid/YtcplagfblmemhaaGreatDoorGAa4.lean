/- Helper text of this claim: lemmas and contracts that the proved statement rests on; no conditions of its own. -/
import Derived.Test.YtcplagfblmemhaaGreatDoorGBw12
namespace Go.Proofs.YtcplagfblmemhaaGreatDoor
set_option linter.unusedVariables false
set_option maxHeartbeats 8000000
open Go.Shelf Go.RowKit Go.Pw Go.Vc Go.Cs Go.Lib
set_option linter.unusedVariables false
set_option maxRecDepth 100000
section
variable {w : World}
theorem zlR {h : Hd} {A : Acc} (id : Int) {bp : Nat} (hc : At w bp 0 (accC h A)) (hb : RowB w h.B.v A.boxes) (hl : A.boxes.length ≤ 1000000) : Calls Tryz.prog 149 #[.int .i64 id, .pointer (some ⟨bp, 0, none⟩)] w fun e w' => e = .returned (.bool (!hasId A.boxes id)) ∧ Kp w w' n_ := by
 refine zab (args := [.int .i64 id, .pointer (some ⟨bp, 0, none⟩)]) Tryz.func149 rfl NL ?_; refine GW ?_
 obtain ⟨a_b1, v_b1, k_w1, z_w1, r_w1⟩ := new5 w 3 ([.int .i64 id])
 generalize w.alloc (.cells (List.toArray ([.int .i64 id])) 3) = w1 at *
 generalize hs_b1 : w.heap.size = b1 at *
 refine KGO ?_
 conv => arg 3; simp [ev, upd]
 refine CallS.of (Tryz.call84 _ _) (cf1 (w := w1) A.boxes 150 (.pointer (some ⟨b1, 0, none⟩)) (fun b => decide (b.id = id)) (hb.keep k_w1) hl Tryz.call150 (fun b _ w' k => zkG b id (zap (a_b1 0 _ rfl) k))) ?_
 rintro e w2 ⟨rfl, k2⟩
 refine RT ?_
 exact ⟨rfl, k_w1.trans0 k2⟩
theorem zjQ {h : Hd} {A : Acc} {v : Value} (l : List Int) (hb : RowB w h.B.v A.boxes) (hbl : A.boxes.length ≤ 1000000) (hv : RowI w v l) (hl : l.length ≤ 17592186044416) : Calls Tryz.prog 94 #[.agg (accC h A).toArray, v] w fun e w' => e = .returned (.bool (thereB A.boxes l)) ∧ Kp w w' n_ := by
 have hv0 := hv
 obtain ⟨a, cap, rfl, hr⟩ := hv
 refine zab (args := [.agg (accC h A).toArray, .slice a l.length cap]) Tryz.func94 rfl NL ?_; refine GW ?_
 obtain ⟨a_b1, v_b1, k_w1, z_w1, r_w1⟩ := new5 w 36 (accC h A)
 generalize w.alloc (.cells (List.toArray (accC h A)) 36) = w1 at *
 generalize hs_b1 : w.heap.size = b1 at *
 refine KGO ?_
 conv => arg 3; simp [ev, upd]
 refine CallS.of (Tryz.call148 _ _) (zrg (w := w1) l 149 (.pointer (some ⟨b1, 0, none⟩)) (fun id => !hasId A.boxes id) (hv0.keep k_w1) hl Tryz.call149 (fun id _ w' k => zlR (h := h) (A := A) id (zad a_b1 k) (hb.keep (k_w1.trans0 k)) hbl)) ?_
 rintro e w2 ⟨rfl, k2⟩
 refine RT ?_
 refine ⟨zah ?_, k_w1.trans0 k2⟩
 unfold thereB
 rw [Bool.eq_iff_iff, Bool.not_eq_true', List.any_eq_false, List.all_eq_true]
 unfold hasId
 simp
theorem ziQ (w : World) : (Instr.build 60 [].toArray).run Tryz.prog w = .ok (.agg (mrC (default : Mr)).toArray) w := by
 show _ = Result.ok (Value.agg zMl.toArray) w
 simp [Instr.build, Instr.fill, go_sem, Tryz.runUnderlying60]
theorem zqx {h : Hd} {A : Acc} (id : Int) (ha : AccR w h A) (hl : A.mails.length ≤ 100000) (hs : ∀ m ∈ A.mails, m.boxes.length ≤ 1000000 ∧ m.flags.length ≤ 1000000) : Calls Tryz.prog 15 #[.agg (accC h A).toArray, .int .i64 id] w fun e w' => ∃ y : Mr, e = .returned (.tuple #[.agg (mrC y).toArray, .bool (findL A.mails id).isSome]) ∧ y.m = (findL A.mails id).getD (default : Mr).m ∧ MailOk w' y ∧ Kp w w' n_ := by
 obtain ⟨lx, hm, hr, hx⟩ := ha.m
 have hlx : lx.length = A.mails.length := by rw [← hm, List.length_map]
 refine zab (args := [.agg (accC h A).toArray, .int .i64 id]) Tryz.func15 rfl NL ?_; refine GW ?_
 obtain ⟨a_b1, v_b1, k_w1, z_w1, r_w1⟩ := new5 w 36 (accC h A)
 generalize w.alloc (.cells (List.toArray (accC h A)) 36) = w1 at *
 generalize hs_b1 : w.heap.size = b1 at *
 obtain ⟨a_b2, v_b2, k_w2, z_w2, r_w2⟩ := new5 w1 60 (zMl)
 generalize w1.alloc (.cells (List.toArray (zMl)) 60) = w2 at *
 generalize hs_b2 : w1.heap.size = b2 at *
 refine KGO ?_
 refine CallS.of (Tryz.call39 _ _) (zgI (w := w2) (h := h) (A := A) id (ha.keep (k_w1.trans0 k_w2)) (by omega)) ?_
 rintro e w3 ⟨rfl, k3⟩
 have K3 : Kp w w3 n_ := (k_w1.trans0 k_w2).trans0 k3
 have vr := v_b2.keep0 k3
 refine RT ?_
 rcases place_find A.mails id with ⟨hp, hf⟩ | ⟨i, hi, hp, hf, _, _⟩
 ·rw [hp, hf]
  refine KGO ?_
  refine RunV.of (ziQ _) ?_
  refine KGO ?_
  refine SVK (mrC default) vr fun w4 vr k4 => ?_
  have hat := vr.at
  refine KGO ?_
  refine GW ?_
  refine KGO ?_
  refine GW ?_
  exact ⟨default, rfl, rfl, ⟨⟨none, 0, rfl, fun h => by cases h⟩, ⟨none, 0, rfl, fun h => by cases h⟩⟩, zan K3 k4 (by have := k_w1.size; omega)⟩
 ·rw [hp, hf]
  have hi2 : i < lx.length := by omega
  have hxm : lx[i].m = A.mails[i] := by simp [← hm]
  obtain ⟨a, cap, he, hrr⟩ := hr
  obtain ⟨gb, o, rfl, hgb, hat⟩ := hrr (by omega)
  have hrn : h.M.n = lx.length := by injection he
  have hra : h.M.a = some ⟨gb, o, none⟩ := by injection he
  have aa := zad a_b1 (k_w2.trans0 k3)
  have hmo := (hx lx[i] (List.getElem_mem hi2)).keep K3
  have hsi := hs A.mails[i] (List.getElem_mem hi)
  unfold accC at aa
  rw [hrn, hra] at aa
  refine KGO ?_
  generalize lx[i] = x at *
  refine CallS.of (Tryz.call40 _ _) (zhP (w := w3) x hmo (by rw [hxm]; exact hsi.1) (by rw [hxm]; exact hsi.2)) ?_
  rintro e w4 ⟨y, rfl, hy, oy1, oy2, _, k4⟩
  have vr := vr.keep0 k4
  refine RT ?_
  refine KGO ?_
  refine SVK (mrC y) vr fun w5 vr k5 => ?_
  have hat := vr.at
  refine KGO ?_
  refine GW ?_
  refine KGO ?_
  refine GW ?_
  have hb2 : b2 < w3.heap.size := by have := k3.size; omega
  have hyb : y.m.boxes = x.m.boxes := by rw [hy]
  have hyf : y.m.flags = x.m.flags := by rw [hy]
  refine ⟨y, rfl, hy.trans hxm, ⟨?_, ?_⟩, zan (K3.trans0 k4) k5 (by have := k_w1.size; omega)⟩
  ·rw [hyb]; exact zaF (zay oy1 k5 hb2)
  ·rw [hyf]; exact zaF (zay oy2 k5 hb2)
end
section
end
def Mr.bs (x : Mr) : List Nat := x.b.v.ownBlock.toList ++ x.f.v.ownBlock.toList
def Hd.bs (h : Hd) : List Nat := h.B.v.ownBlock.toList ++ h.S.v.ownBlock.toList ++ h.N.v.ownBlock.toList ++ h.M.v.ownBlock.toList
structure AccO (w : World) (B : Nat) (h : Hd) (lx : List Mr) (A : Acc) : Prop where
 b : OwnB w B h.B.v A.boxes
 s : OwnSrc w B h.S.v A.scripts
 n : OwnSn w B h.N.v A.seen
 m : OwnMl w B h.M.v lx
 ml : lx.map (·.m) = A.mails
 mb : ∀ x ∈ lx, OwnI w B x.b.v x.m.boxes ∧ OwnT w B x.f.v x.m.flags
 nd : (h.bs ++ lx.flatMap Mr.bs).Nodup
theorem zjZ {l : List Nat} {o : Option Nat} {s s' : Nat} (h : l.Nodup ∧ ∀ k ∈ l, k < s) (ho : ∀ k, o = some k → s ≤ k ∧ k < s') (hs : s ≤ s') : (l ++ o.toList).Nodup ∧ ∀ k ∈ l ++ o.toList, k < s' := by
 cases o with
 | none => simpa using ⟨h.1, fun k hk => Nat.lt_of_lt_of_le (h.2 k hk) hs⟩
 | some b =>
  have hb := ho b rfl
  refine ⟨?_, fun k hk => ?_⟩
  ·rw [Option.toList_some, List.nodup_append]
   refine ⟨h.1, by simp, fun x hx y hy => ?_⟩
   have := h.2 x hx
   rw [List.mem_singleton.1 hy]
   omega
  ·rcases List.mem_append.1 hk with hk | hk
   ·have := h.2 k hk; omega
   ·have : k = b := by simpa using hk
    omega
theorem zrf {l m : List Nat} {s s' : Nat} (h : l.Nodup ∧ ∀ k ∈ l, k < s) (hm : m.Nodup ∧ ∀ k ∈ m, s ≤ k ∧ k < s') (hs : s ≤ s') : (l ++ m).Nodup ∧ ∀ k ∈ l ++ m, k < s' := by
 refine ⟨?_, fun k hk => ?_⟩
 ·rw [List.nodup_append]
  exact ⟨h.1, hm.1, fun x hx y hy => by have := h.2 x hx; have := (hm.2 y hy).1; omega⟩
 ·rcases List.mem_append.1 hk with hk | hk
  ·have := h.2 k hk; omega
  ·exact (hm.2 k hk).2
theorem bs_nd {y : Mr} {P : Nat → Prop} (ap : Apart y.b.v y.f.v) (hb : ∀ k, y.b.v.ownBlock = some k → P k) (hf : ∀ k, y.f.v.ownBlock = some k → P k) : y.bs.Nodup ∧ ∀ k ∈ y.bs, P k := by
 unfold Mr.bs
 have one : ∀ o : Option Nat, o.toList.Nodup := fun o => by cases o <;> simp
 have mem : ∀ (o : Option Nat) (k : Nat), k ∈ o.toList ↔ o = some k := fun o k => by cases o <;> simp [eq_comm]
 refine ⟨?_, fun k hk => ?_⟩
 ·rw [List.nodup_append]
  refine ⟨one _, one _, fun a ha b hb2 e => ?_⟩
  subst e
  exact ap a ((mem _ _).1 ha) ((mem _ _).1 hb2)
 ·rcases List.mem_append.1 hk with hk | hk
  ·exact hb k ((mem _ _).1 hk)
  ·exact hf k ((mem _ _).1 hk)
theorem zaE {w w' : World} {B s n : Nat} {e : TypeId} {v u : Value} {xs : List Value} (h : w.ownsRow B e s v n xs) (k : Kp w w' (own_ u)) (ap : Apart v u) : w'.ownsRow B e s v n xs :=
 zaf h k fun g hg e => ap g hg e
theorem zfi {w w' : World} {B s n : Nat} {e : TypeId} {v : Value} {xs : List Value} (h : w.ownsRow B e s v n xs) (k : Kp w w' n_) : ∀ g, v.ownBlock = some g → B ≤ g ∧ g < w'.heap.size := fun g hg => by
 have := h.lt g hg
 have := k.size
 omega
theorem AccO.read {w : World} {B : Nat} {h : Hd} {lx : List Mr} {A : Acc} (o : AccO w B h lx A) : AccR w h A :=
 ⟨zaF o.b, ⟨lx, o.ml, zaF o.m, fun x hx => ⟨zaF (o.mb x hx).1, zaF (o.mb x hx).2⟩⟩, zaF o.s, zaF o.n⟩
theorem AccO.keep {w w' : World} {B : Nat} {h : Hd} {lx : List Mr} {A : Acc} (o : AccO w B h lx A) (k : Kp w w' n_) : AccO w' B h lx A :=
 ⟨zac o.b k, zac o.s k, zac o.n k, zac o.m k, o.ml, fun x hx => ⟨zac (o.mb x hx).1 k, zac (o.mb x hx).2 k⟩, o.nd⟩
abbrev zAcc : List Value := [.slice none 0 0, .slice none 0 0, .slice none 0 0, .string ⟨#[]⟩, .slice none 0 0, .int .i64 0, .int .i64 0, .int .i64 0]
section
variable {w : World}
theorem zeW {h : Hd} {A : Acc} (ha : AccR w h A) (hf : Fit A) : Calls Tryz.prog 63 #[.agg (accC h A).toArray] w fun e w' => ∃ h' lx, e = .returned (.agg (accC h' A).toArray) ∧ AccO w' w.heap.size h' lx A ∧ Kp w w' n_ := by
 obtain ⟨lx, hm, hr, hx⟩ := ha.m
 have hlx : lx.length = A.mails.length := by rw [← hm, List.length_map]
 have f1 := hf.bl
 have f2 := hf.ml
 have f3 := hf.sl
 have f4 := hf.nl
 have fm := hf.mb
 clear hf
 refine zab (args := [.agg (accC h A).toArray]) Tryz.func63 rfl NL ?_; refine GW ?_
 obtain ⟨a_b1, v_b1, k_w1, z_w1, r_w1⟩ := new5 w 36 (accC h A)
 generalize w.alloc (.cells (List.toArray (accC h A)) 36) = w1 at *
 generalize hs_b1 : w.heap.size = b1 at *
 obtain ⟨a_b2, v_b2, k_w2, z_w2, r_w2⟩ := new5 w1 36 (zAcc)
 generalize w1.alloc (.cells (List.toArray (zAcc)) 36) = w2 at *
 generalize hs_b2 : w1.heap.size = b2 at *
 have K2 := k_w1.trans0 k_w2
 have a1 := zad a_b1 k_w2
 refine Draw.heldTail 12 (fun u => Kp w2 u n_) (fun _ => true) (by decide +kernel) (by decide +kernel) (Kp.refl _ _).drew ?_
 refine GW ?_
 refine KGO ?_
 refine CallS.of (Tryz.call90 _ _) (zdO (w := w2.drew) A.boxes (ha.b.keep K2.drew) (by omega)) ?_
 rintro e w3 ⟨v3, rfl, o3, k3⟩
 obtain ⟨a3, c3, rfl⟩ := zae o3
 have J3 : Kp w2 w3 n_ := (Kp.refl w2 n_).drew.trans0 k3
 refine RT ?_
 refine ⟨J3, ?_⟩
 refine KGO ?_
 refine CallS.of (Tryz.call112 _ _) (zrj (w := w3) A.scripts (ha.s.keep (K2.trans0 J3)) (by omega)) ?_
 rintro e w4 ⟨v4, rfl, o4, k4⟩
 obtain ⟨a4, c4, rfl⟩ := zae o4
 have J4 := J3.trans0 k4
 refine RT ?_
 refine ⟨J4, ?_⟩
 refine KGO ?_
 refine CallS.of (Tryz.call113 _ _) (cl_Sn (w := w4) A.seen (ha.n.keep (K2.trans0 J4)) (by omega)) ?_
 rintro e w5 ⟨v5, rfl, o5, k5⟩
 obtain ⟨a5, c5, rfl⟩ := zae o5
 have J5 := J4.trans0 k5
 refine RT ?_
 refine ⟨J5, ?_⟩
 refine KGO ?_
 refine CallS.of (Tryz.call114 _ _) (cl_Ml (w := w5) lx (hr.keep (K2.trans0 J5)) (by omega)) ?_
 rintro e w6 ⟨v6, rfl, o6, k6⟩
 obtain ⟨a6, c6, rfl⟩ := zae o6
 have J6 := J5.trans0 k6
 have vb := v_b1.keep0 (k_w2.trans0 J6)
 have vr := v_b2.keep0 J6
 refine RT ?_
 refine ⟨J6, ?_⟩
 have zd : w2.drew.heap.size = w2.heap.size := rfl
 have z3 := k3.size
 have z4 := k4.size
 have z5 := k5.size
 have z6 := k6.size
 have n0 : ([] : List Nat).Nodup ∧ ∀ k ∈ ([] : List Nat), k < w2.drew.heap.size := by simp
 have n1 := zjZ n0 (zfi o3 (Kp.refl w3 n_)) z3
 have n2 := zjZ n1 (zfi o4 (Kp.refl w4 n_)) z4
 have n3 := zjZ n2 (zfi o5 (Kp.refl w5 n_)) z5
 have n4 := zjZ n3 (zfi o6 (Kp.refl w6 n_)) z6
 have apB := zcv (zac o3 (k4.trans0 k5)) o6 (Nat.le_refl _)
 have apS := zcv (zac o4 k5) o6 (Nat.le_refl _)
 have apN := zcv o5 o6 (Nat.le_refl _)
 have o3 := zac o3 ((k4.trans0 k5).trans0 k6)
 have o4 := zac o4 (k5.trans0 k6)
 have o5 := zac o5 k6
 have hbM : ∀ g, (Value.slice a6 lx.length c6).ownBlock = some g → w5.heap.size ≤ g ∧ g < w6.heap.size := zfi o6 (Kp.refl w6 n_)
 have bl1 : b1 < w2.drew.heap.size := by omega
 have bl2 : b2 < w2.drew.heap.size := by omega
 refine KGO ?_
 refine SCK 0 vb fun w7 vb k7 => ?_
 refine KGO ?_
 refine SCK 2 vb fun w8 vb k8 => ?_
 refine KGO ?_
 refine SCK 4 vb fun w9 vb k9 => ?_
 refine KGO ?_
 refine SCK 1 vb fun w10 vb k10 => ?_
 have vb : VarK w10 b1 36 [.slice a3 A.boxes.length c3, .slice a6 lx.length c6, .slice a4 A.scripts.length c4, .string (str A.active), .slice a5 A.seen.length c5, .int .i64 A.nm, .int .i64 A.nb, .int .i64 A.st] := vb
 have k710 := ((k7.trans' k8).trans' k9).trans' k10
 clear k7 k8 k9 k10
 have K10 : Kp w w10 n_ := zan (K2.trans0 J6) k710 (by omega)
 have vr := vr.keep k710 (fun e => by have e : b2 = b1 := e; omega)
 have o3 := zay o3 k710 bl1
 have o4 := zay o4 k710 (by omega)
 have o5 := zay o5 k710 (by omega)
 have o6 := zay o6 k710 (by omega)
 have z10 := k710.size
 have hat := vb.at
 refine KGO ?_
 refine Loop.intro (ι := Nat × List Mr) (fun p => [(1, .pointer (some ⟨b1, 0, none⟩)), (2, .pointer (some ⟨b2, 0, none⟩)), (22, .slice a6 lx.length c6), (23, .int .i64 (lx.length : Nat)), (24, .int .i64 (p.1 : Nat))])
  (fun p wr => Kp w wr n_ ∧ p.1 ≤ lx.length ∧ p.2.length = p.1 ∧ p.2.map (·.m) = (lx.take p.1).map (·.m) ∧ wr.ownsRow w5.heap.size 60 38 (.slice a6 lx.length c6) lx.length ((p.2 ++ lx.drop p.1).flatMap mrC) ∧
   (∀ y ∈ p.2, OwnI wr w6.heap.size y.b.v y.m.boxes ∧ OwnT wr w6.heap.size y.f.v y.m.flags) ∧
   ((([] ++ (Value.slice a3 A.boxes.length c3).ownBlock.toList ++ (Value.slice a4 A.scripts.length c4).ownBlock.toList ++ (Value.slice a5 A.seen.length c5).ownBlock.toList ++ (Value.slice a6 lx.length c6).ownBlock.toList) ++ p.2.flatMap Mr.bs).Nodup ∧
    ∀ k ∈ ([] ++ (Value.slice a3 A.boxes.length c3).ownBlock.toList ++ (Value.slice a4 A.scripts.length c4).ownBlock.toList ++ (Value.slice a5 A.seen.length c5).ownBlock.toList ++ (Value.slice a6 lx.length c6).ownBlock.toList) ++ p.2.flatMap Mr.bs, k < wr.heap.size) ∧
   VarK wr b1 36 [.slice a3 A.boxes.length c3, .slice a6 lx.length c6, .slice a4 A.scripts.length c4, .string (str A.active), .slice a5 A.seen.length c5, .int .i64 A.nm, .int .i64 A.nb, .int .i64 A.st] ∧ VarK wr b2 36 zAcc ∧
   OwnB wr w2.drew.heap.size (.slice a3 A.boxes.length c3) A.boxes ∧ OwnSrc wr w3.heap.size (.slice a4 A.scripts.length c4) A.scripts ∧ OwnSn wr w4.heap.size (.slice a5 A.seen.length c5) A.seen ∧ w6.heap.size ≤ wr.heap.size)
  (fun p => lx.length - p.1) (0, []) ⟨rfl, rfl, rfl, rfl, rfl, trivial⟩ ⟨K10, Nat.zero_le _, rfl, rfl, o6, by simp, ⟨by simpa using n4.1, fun k hk => Nat.lt_of_lt_of_le (n4.2 k (by simpa using hk)) z10⟩, vb, vr, o3, o4, o5, z10⟩ ?_
 clear vb vr o3 o4 o5 o6 hat
 generalize hNL : ([] ++ (Value.slice a3 A.boxes.length c3).ownBlock.toList ++ (Value.slice a4 A.scripts.length c4).ownBlock.toList ++ (Value.slice a5 A.seen.length c5).ownBlock.toList ++ (Value.slice a6 lx.length c6).ownBlock.toList) = NL at *
 rintro ⟨i, ys⟩ gg wr ⟨hK, hi, hyl, hym, o6, hin, hnd, vb, vr, o3, o4, o5, hwr⟩
 dsimp only at hi hyl hym o6 hin hnd ⊢
 have hat := vb.at
 refine GW ?_
 by_cases hlt : i < lx.length
 ·obtain ⟨zs, hz⟩ : ∃ zs, zs = ys ++ lx.drop i := ⟨_, rfl⟩
  have hzl : zs.length = lx.length := by rw [hz, List.length_append, List.length_drop]; omega
  have hzi : zs[i]'(by omega) = lx[i] := by
   subst hz
   rw [List.getElem_append_right (by omega)]
   simp [hyl]
  rw [← hz] at o6
  rcases own_blockK o6 with ⟨h, h0⟩ | ⟨g, cap, cells, he6, hBg, hv, hnc, hcm, hcl, htk⟩
  ·omega
  injection he6 with he6 _ hc6
  subst he6; subst hc6
  have hgl := hv.lt
  have hrow := zbD o6
  have kr := Kp.refl wr n_
  have hmo := (hx lx[i] (List.getElem_mem hlt)).keep hK
  have hsi := fm lx[i].m (by rw [← hm]; exact List.mem_map_of_mem (List.getElem_mem hlt))
  refine KGO ?_
  rw [hzi]
  generalize hxi : lx[i] = x at *
  refine Store.fresh (vs := mrC x) (by rfl) rfl (zam (by rfl)) ?_
  obtain ⟨a_b4, k_w11, z_w11⟩ := new3 wr 60 (mrC x)
  generalize wr.alloc (.cells (List.toArray (mrC x)) 60) = w11 at *
  generalize hs_b4 : wr.heap.size = b4 at *
  have hat1 := zad hat k_w11
  refine KGO ?_
  refine Draw.heldTail 5 (fun u => Kp w11 u n_) (fun _ => true) (by decide +kernel) (by decide +kernel) (Kp.refl _ _).drew ?_
  refine GW ?_
  refine KGO ?_
  refine CallS.of (Tryz.call40 _ _) (zhP (w := w11.drew) x (hmo.keep k_w11.drew) (by have := hsi.1; omega) (by have := hsi.2; omega)) ?_
  rintro e w12 ⟨y, rfl, hy, oy1, oy2, apy, k12⟩
  have J12 : Kp w11 w12 n_ := (Kp.refl w11 n_).drew.trans0 k12
  have J := k_w11.trans0 J12
  have hvz := hv.keep0 J
  refine RT ?_
  refine ⟨J12, ?_⟩
  refine KGO ?_
  have z11 : w11.drew.heap.size = w11.heap.size := rfl
  have zk := k12.size
  refine Store.elemK (l := zs) (k := i) (B := w5.heap.size) (cap := c6) y lenMl (by rfl) (zam (by rfl)) hvz hBg (by omega) hcm hcl (by rw [hzl]; exact htk) (by omega) fun w13 o13 v13 k13 => ?_
  refine KGO ?_
  have hset : zs.set i y = (ys ++ [y]) ++ lx.drop (i + 1) := by
   rw [hz, List.set_append_right _ _ (by omega), hyl, Nat.sub_self, List.drop_eq_getElem_cons hlt, List.set_cons_zero]
   simp
  rw [hset, hzl] at o13
  have hg6 : g < w6.heap.size := (hbM g rfl).2
  have hyb : y.m.boxes = x.m.boxes := by rw [hy]
  have hyf : y.m.flags = x.m.flags := by rw [hy]
  have hsz : w6.heap.size ≤ w11.drew.heap.size := by rw [z11]; have := k_w11.size; omega
  have zk13 := k13.size
  have zw11 := k_w11.size
  have ky := zrf hnd (bs_nd apy (fun k hk => ⟨(by have := (oy1.lt k hk).1; omega), Nat.lt_of_lt_of_le (oy1.lt k hk).2 zk13⟩) (fun k hk => ⟨(by have := (oy2.lt k hk).1; omega), Nat.lt_of_lt_of_le (oy2.lt k hk).2 zk13⟩)) (by omega)
  have hg11 : g < w11.drew.heap.size := by omega
  have Kst : Kp wr w13 (one_ g) := J.of_none.trans' k13
  refine ⟨(i + 1, ys ++ [y]), ⟨rfl, rfl, rfl, rfl, v_int (by simp), trivial⟩, ⟨zan (hK.trans0 J) k13 (by omega), by dsimp only; omega, by dsimp only; rw [List.length_append, hyl]; rfl, ?_, o13, fun z hzm => ?_, ?_, vb.keep Kst (fun e => by have e : b1 = g := e; omega), vr.keep Kst (fun e => by have e : b2 = g := e; omega), zaf o3 Kst (fun k hk e => apB k hk (by rw [show k = g from e]; rfl)), zaf o4 Kst (fun k hk e => apS k hk (by rw [show k = g from e]; rfl)), zaf o5 Kst (fun k hk e => apN k hk (by rw [show k = g from e]; rfl)), by omega⟩, by dsimp only; omega⟩
  ·dsimp only
   rw [List.map_append, List.take_succ_eq_append_getElem hlt, List.map_append, hym, hxi]
   simp [hy]
  ·rcases List.mem_append.1 hzm with hzm | hzm
   ·exact ⟨zay (zac (hin z hzm).1 J) k13 hg6, zay (zac (hin z hzm).2 J) k13 hg6⟩
   ·rw [List.mem_singleton.1 hzm, hyb, hyf]
    exact ⟨zal (zay oy1 k13 hg11) hsz, zal (zay oy2 k13 hg11) hsz⟩
  ·dsimp only
   rw [List.flatMap_append, ← List.append_assoc]
   simpa using ky
 ·have ht : lx.drop i = [] := List.drop_eq_nil_of_le (by omega)
  rw [ht, List.append_nil] at o6
  rw [List.take_of_length_le (by omega), hm] at hym
  have kr := Kp.refl wr n_
  refine KGO ?_
  refine SVK (accC ⟨⟨a3, A.boxes.length, c3⟩, ⟨a6, lx.length, c6⟩, ⟨a4, A.scripts.length, c4⟩, ⟨a5, A.seen.length, c5⟩⟩ A) vr fun w11 vr k11 => ?_
  have hat := vr.at
  refine KGO ?_
  refine GW ?_
  refine KGO ?_
  refine GW ?_
  have hyn : ys.length = lx.length := by omega
  have b5 : b2 < w5.heap.size := by omega
  refine ⟨⟨⟨a3, A.boxes.length, c3⟩, ⟨a6, lx.length, c6⟩, ⟨a4, A.scripts.length, c4⟩, ⟨a5, A.seen.length, c5⟩⟩, ys, rfl, ⟨zal (zay o3 k11 bl2) (by omega), zal (zay o4 k11 (by omega)) (by omega), zal (zay o5 k11 (by omega)) (by omega), ?_, hym, fun z hz => ⟨zal (zay (hin z hz).1 k11 (by omega)) (by omega), zal (zay (hin z hz).2 k11 (by omega)) (by omega)⟩, ?_⟩, zan hK k11 (by omega)⟩
  ·unfold OwnMl
   rw [hyn]
   exact zal (zay o6 k11 b5) (by omega)
  ·have := hnd.1
   rw [← hNL] at this
   simpa [Hd.bs] using this
end
end Go.Proofs.YtcplagfblmemhaaGreatDoor
namespace Go.Proofs.YtcplagfblmemhaaGreatDoor
set_option linter.unusedVariables false
set_option maxHeartbeats 8000000
open Go.RowKit Go.Pw Go.Vc Go.Cs Go.Lib
set_option linter.unusedVariables false
set_option maxRecDepth 100000
theorem zdN {α : Type} {p : α → Bool} {l : List α} {j : Nat} (h : j < l.length) : (l.take (j + 1)).filter p = (l.take j).filter p ++ (if p l[j] = true then [l[j]] else []) := by
 rw [List.take_succ_eq_append_getElem h, List.filter_append]
 congr 1
 by_cases hp : p l[j] = true
 ·rw [if_pos hp, List.filter_cons_of_pos hp]; rfl
 ·rw [if_neg hp, List.filter_cons_of_neg hp]; rfl
theorem dlf_T {w : World} {v : Value} {B : Nat} (l : List (List UInt8)) (g : Nat) (c0 : Value) (p : (List UInt8) → Bool) (ho : OwnT w B v l) (hl : l.length ≤ 8796093022208) (hg : ∀ (args : Array Value) (w : World), (callFunc g args).run Tryz.prog w = .ok (.enter g args) w)
  (hp : ∀ x ∈ l, ∀ w', Kp w w' (own_ v) → Calls Tryz.prog g #[.string (str x), c0] w' fun e w'' => e = .returned (.bool (p x)) ∧ Kp w' w'' n_) :
  Calls Tryz.prog 96 #[v, .func (.func g) #[] #[c0]] w fun e w' => ∃ v', e = .returned v' ∧ OwnT w' B v' (l.filter fun x => !p x) ∧ Kp w w' (own_ v) ∧ (v'.ownBlock = v.ownBlock) := by
 obtain ⟨a, cap0, rfl⟩ := zae ho
 refine zab (args := [.slice a l.length cap0, .func (.func g) #[] #[c0]]) Tryz.func96 rfl NL ?_; refine GW ?_
 refine CallS.of (Tryz.call151 _ _) (zrd l g c0 p (zaF ho) hl hg (fun x hx w' k => hp x hx w' k.of_none)) ?_
 rintro e w1 ⟨rfl, k1⟩
 refine RT ?_
 rcases idxP_lt p l with hi | ⟨i0, hi0, he0, hp0, hb0⟩
 ·rw [hi]
  refine KGO ?_
  refine ⟨_, rfl, ?_, k1.of_none, rfl⟩
  have hf : (l.filter fun x => !p x) = l := List.filter_eq_self.2 fun x hx => by
   have h : ¬ l.any p = true := fun h => by have := (zcx p l).2 h; omega
   have := List.any_eq_false.1 (by simpa using h) x hx
   simpa using this
  rw [hf]
  exact zac ho k1
 rw [he0]
 rcases own_blockK ho with ⟨hnil, h0⟩ | ⟨gb, cap, cells0, hev, hBg, hv0, hnc, hcm, hcl0, htk0⟩
 ·omega
 injection hev with hev _ hcc
 subst hev; subst hcc
 have hgk : gb < w1.heap.size := Nat.lt_of_lt_of_le hv0.lt k1.size
 have ho1 := zac ho k1
 have hfl0 : ((l.take (i0 + 1)).filter fun x => !p x) = l.take i0 := by
  rw [zdN hi0, hp0]
  have : (l.take i0).filter (fun x => !p x) = l.take i0 := List.filter_eq_self.2 fun x hx => by
   obtain ⟨j, hj, rfl⟩ := List.mem_take_iff_getElem.1 hx
   rw [hb0 j (by omega)]; rfl
  rw [this]; simp
 refine KGO ?_
 refine Loop.intro (ι := Nat × Nat × List (List UInt8)) (fun q => [(0, .slice (some ⟨gb, 0, none⟩) l.length cap0), (1, .func (.func g) #[] #[c0]), (5, .int .i64 (q.1 : Nat)), (6, .int .i64 (q.2.1 : Nat))])
  (fun q wr => Kp w wr (one_ gb) ∧ q.2.1 ≤ l.length ∧ q.1 < q.2.1 ∧ q.2.2.length = l.length ∧ q.2.2.take q.1 = ((l.take q.2.1).filter fun x => !p x) ∧ q.2.2.drop q.2.1 = l.drop q.2.1 ∧ OwnT wr B (.slice (some ⟨gb, 0, none⟩) q.2.2.length cap0) q.2.2)
  (fun q => l.length - q.2.1) (i0, i0 + 1, l) ⟨rfl, rfl, rfl, v_int (by simp), trivial⟩ ⟨k1.of_none, by dsimp only; omega, by dsimp only; omega, rfl, by dsimp only; rw [hfl0], rfl, ho1⟩ ?_
 clear ho1 hfl0 hb0 hp0 he0 hi0 i0
 rintro ⟨i, j, cur⟩ gg wr ⟨hK, hj, hij, hcl2, htk2, hdr2, ho2⟩
 dsimp only at hj hij hcl2 htk2 hdr2 ho2 ⊢
 rcases own_blockK ho2 with ⟨h, h0⟩ | ⟨g2, cap, cells, hev, hBg2, hv, hnc2, hcm2, hcl, htk⟩
 ·cases h
 injection hev with hev _ hcc
 injection hev with hev
 injection hev with hev
 subst hev; subst hcc
 have hrow := zbD ho2
 have kr := Kp.refl wr n_
 refine GW ?_
 by_cases hlt : j < l.length
 ·have hcj : cur[j]'(by omega) = l[j] := by
   have h1 : (cur.drop j)[0]? = (l.drop j)[0]? := by rw [hdr2]
   rw [List.getElem?_drop, List.getElem?_drop, Nat.add_zero, List.getElem?_eq_getElem (by omega), List.getElem?_eq_getElem hlt] at h1
   exact Option.some.inj h1
  have hfs := zdN (p := fun x => !p x) hlt
  have hjc : j < cur.length := by omega
  obtain ⟨q, hq⟩ : ∃ q, p l[j] = q := ⟨_, rfl⟩
  have hmx := List.getElem_mem hlt
  rw [hq] at hfs
  have hcx := zcW hrow (i := j) (by omega)
  refine KGO ?_
  rw [hcj]
  generalize hxj : l[j] = x at *
  have hpc := hp x hmx wr (hK.mono fun q _ hq => by have hq : q = gb := hq; rw [hq]; rfl)
  rw [hq] at hpc
  refine CallS.of (hg _ _) hpc ?_
  rintro e w1 ⟨rfl, k1⟩
  refine RT ?_
  cases q with
  | true =>
   refine KGO ?_
   refine ⟨(i, j + 1, cur), ⟨rfl, rfl, rfl, v_int (by simp), trivial⟩, ⟨hK.trans0 k1, by dsimp only; omega, by dsimp only; omega, hcl2, ?_, ?_, zac ho2 k1⟩, by dsimp only; omega⟩
   ·dsimp only
    rw [hfs, htk2]; simp
   ·dsimp only
    rw [← List.drop_drop, hdr2, List.drop_drop]
  | false =>
   refine KGO ?_
   have hv := hv.keep0 k1
   refine Store.atK hv (i := 0 + i) (by omega) (by rfl) ⟨rfl, by simp, by simp⟩ fun w2 v2 k2 => ?_
   rw [Nat.zero_add] at v2
   have o2 := zbr (w := w1) lenT (l := cur) (k := i) (j := 0) (x := x) (by omega) (by decide) rfl hBg (by omega) hcm hcl htk (by rw [Nat.mul_one, Nat.add_zero]; exact v2)
   refine KGO ?_
   have hil : i < cur.length := by omega
   refine ⟨(i + 1, j + 1, cur.set i x), ⟨rfl, rfl, v_int (by simp), v_int (by simp), trivial⟩, ⟨hK.trans' (k1.of_none.trans' k2), by dsimp only; omega, by dsimp only; omega, by dsimp only; rw [List.length_set]; exact hcl2, ?_, ?_, ?_⟩, by dsimp only; omega⟩
   ·dsimp only
    rw [hfs, ← htk2, List.take_succ_eq_append_getElem (by rw [List.length_set]; exact hil), List.getElem_set_self, List.take_set_of_le (Nat.le_refl _)]
    simp
   ·dsimp only
    rw [List.drop_set_of_lt (by omega), ← List.drop_drop, hdr2, List.drop_drop]
   ·dsimp only
    unfold OwnT
    rw [List.length_set]
    exact o2
 ·have hjl : j = l.length := by omega
  subst hjl
  rw [List.take_length] at htk2
  have hil : i < cur.length := by omega
  refine KGO ?_
  rw [if_neg (by omega : ¬ i = cap0)]
  refine RunN.clearK (s := 1) (n := l.length - i) Tryz.underlying58 textInfo rfl (by intro u hu; simp [Value.cells] at hu; first | (subst hu; rfl) | (rcases hu with rfl | rfl <;> rfl)) hv (by first | (rw [hcl]; omega) | omega) fun w3 zs hzl v3 k3 => ?_
  refine KGO ?_
  have hle : (l.filter fun x => !p x).length = i := by rw [← htk2, List.length_take]; omega
  rw [if_neg (by omega : ¬ 0 = cap0), Nat.sub_zero, Nat.sub_zero]
  refine ⟨_, rfl, ?_, ((hK.trans' k3).mono fun q _ hq => by have hq : q = gb := hq; rw [hq]; rfl), rfl⟩
  have htA : cells.take (0 + i * 1) = (l.filter fun x => !p x).flatMap txC := by
   rw [Nat.zero_add, ← htk2, ← zbd txC 1 lenT, ← htk, List.take_take, Nat.min_eq_left (by omega)]
  have hlA : ((l.filter fun x => !p x).flatMap txC).length = i * 1 := by rw [zaz txC 1 lenT, hle]
  first | rw [htA] at v3 | (rw [show 0 + i * 1 = 0 + i by omega] at htA; rw [htA] at v3)
  unfold OwnT
  rw [hle]
  refine zbk hBg v3 (by omega) hcm2 ?_ ?_ hlA
  ·rw [List.length_append, List.length_append, hlA, hzl, List.length_drop]; omega
  ·rw [List.append_assoc, ← hlA, List.take_left]
theorem zqJ {w : World} {v : Value} {B : Nat} (l : List Sn) (g : Nat) (c0 : Value) (p : Sn → Bool) (ho : OwnSn w B v l) (hl : l.length ≤ 1000000) (hg : ∀ (args : Array Value) (w : World), (callFunc g args).run Tryz.prog w = .ok (.enter g args) w)
  (hp : ∀ x ∈ l, ∀ w', Kp w w' (own_ v) → Calls Tryz.prog g #[.agg (snC x).toArray, c0] w' fun e w'' => e = .returned (.bool (p x)) ∧ Kp w' w'' n_) :
  Calls Tryz.prog 110 #[v, .func (.func g) #[] #[c0]] w fun e w' => ∃ v', e = .returned v' ∧ OwnSn w' B v' (l.filter fun x => !p x) ∧ Kp w w' (own_ v) ∧ (v'.ownBlock = v.ownBlock) := by
 obtain ⟨a, cap0, rfl⟩ := zae ho
 refine zab (args := [.slice a l.length cap0, .func (.func g) #[] #[c0]]) Tryz.func110 rfl NL ?_; refine GW ?_
 refine CallS.of (Tryz.call161 _ _) (zpH l g c0 p (zaF ho) hl hg (fun x hx w' k => hp x hx w' k.of_none)) ?_
 rintro e w1 ⟨rfl, k1⟩
 refine RT ?_
 rcases idxP_lt p l with hi | ⟨i0, hi0, he0, hp0, hb0⟩
 ·rw [hi]
  refine KGO ?_
  refine ⟨_, rfl, ?_, k1.of_none, rfl⟩
  have hf : (l.filter fun x => !p x) = l := List.filter_eq_self.2 fun x hx => by
   have h : ¬ l.any p = true := fun h => by have := (zcx p l).2 h; omega
   have := List.any_eq_false.1 (by simpa using h) x hx
   simpa using this
  rw [hf]
  exact zac ho k1
 rw [he0]
 rcases own_blockK ho with ⟨hnil, h0⟩ | ⟨gb, cap, cells0, hev, hBg, hv0, hnc, hcm, hcl0, htk0⟩
 ·omega
 injection hev with hev _ hcc
 subst hev; subst hcc
 have hgk : gb < w1.heap.size := Nat.lt_of_lt_of_le hv0.lt k1.size
 have ho1 := zac ho k1
 have hfl0 : ((l.take (i0 + 1)).filter fun x => !p x) = l.take i0 := by
  rw [zdN hi0, hp0]
  have : (l.take i0).filter (fun x => !p x) = l.take i0 := List.filter_eq_self.2 fun x hx => by
   obtain ⟨j, hj, rfl⟩ := List.mem_take_iff_getElem.1 hx
   rw [hb0 j (by omega)]; rfl
  rw [this]; simp
 refine KGO ?_
 refine Loop.intro (ι := Nat × Nat × List Sn) (fun q => [(0, .slice (some ⟨gb, 0, none⟩) l.length cap0), (1, .func (.func g) #[] #[c0]), (5, .int .i64 (q.1 : Nat)), (6, .int .i64 (q.2.1 : Nat))])
  (fun q wr => Kp w wr (one_ gb) ∧ q.2.1 ≤ l.length ∧ q.1 < q.2.1 ∧ q.2.2.length = l.length ∧ q.2.2.take q.1 = ((l.take q.2.1).filter fun x => !p x) ∧ q.2.2.drop q.2.1 = l.drop q.2.1 ∧ OwnSn wr B (.slice (some ⟨gb, 0, none⟩) q.2.2.length cap0) q.2.2)
  (fun q => l.length - q.2.1) (i0, i0 + 1, l) ⟨rfl, rfl, rfl, v_int (by simp), trivial⟩ ⟨k1.of_none, by dsimp only; omega, by dsimp only; omega, rfl, by dsimp only; rw [hfl0], rfl, ho1⟩ ?_
 clear ho1 hfl0 hb0 hp0 he0 hi0 i0
 rintro ⟨i, j, cur⟩ gg wr ⟨hK, hj, hij, hcl2, htk2, hdr2, ho2⟩
 dsimp only at hj hij hcl2 htk2 hdr2 ho2 ⊢
 rcases own_blockK ho2 with ⟨h, h0⟩ | ⟨g2, cap, cells, hev, hBg2, hv, hnc2, hcm2, hcl, htk⟩
 ·cases h
 injection hev with hev _ hcc
 injection hev with hev
 injection hev with hev
 subst hev; subst hcc
 have hrow := zbD ho2
 have kr := Kp.refl wr n_
 refine GW ?_
 by_cases hlt : j < l.length
 ·have hcj : cur[j]'(by omega) = l[j] := by
   have h1 : (cur.drop j)[0]? = (l.drop j)[0]? := by rw [hdr2]
   rw [List.getElem?_drop, List.getElem?_drop, Nat.add_zero, List.getElem?_eq_getElem (by omega), List.getElem?_eq_getElem hlt] at h1
   exact Option.some.inj h1
  have hfs := zdN (p := fun x => !p x) hlt
  have hjc : j < cur.length := by omega
  obtain ⟨q, hq⟩ : ∃ q, p l[j] = q := ⟨_, rfl⟩
  have hmx := List.getElem_mem hlt
  rw [hq] at hfs
  refine KGO ?_
  rw [hcj]
  generalize hxj : l[j] = x at *
  refine Store.fresh (vs := snC x) (by rfl) rfl (zam (by rfl)) ?_
  obtain ⟨a_b7, k_wv, z_wv⟩ := new3 wr 175 (snC x)
  generalize wr.alloc (.cells (List.toArray (snC x)) 175) = wv at *
  generalize hs_b7 : wr.heap.size = b7 at *
  refine KGO ?_
  have hpc := hp x hmx wv ((hK.trans0 k_wv).mono fun q _ hq => by have hq : q = gb := hq; rw [hq]; rfl)
  rw [hq] at hpc
  refine CallS.of (hg _ _) hpc ?_
  rintro e w1 ⟨rfl, k1⟩
  refine RT ?_
  cases q with
  | true =>
   refine KGO ?_
   refine ⟨(i, j + 1, cur), ⟨rfl, rfl, rfl, v_int (by simp), trivial⟩, ⟨(hK.trans0 k_wv).trans0 k1, by dsimp only; omega, by dsimp only; omega, hcl2, ?_, ?_, zac (zac ho2 k_wv) k1⟩, by dsimp only; omega⟩
   ·dsimp only
    rw [hfs, htk2]; simp
   ·dsimp only
    rw [← List.drop_drop, hdr2, List.drop_drop]
  | false =>
   refine KGO ?_
   have hv := (hv.keep0 k_wv).keep0 k1
   refine Store.elemK (l := cur) (k := i) (B := B) (cap := cap0) x lenSn (by rfl) (zam (by rfl)) hv hBg (by omega) hcm hcl htk (by omega) fun w2 o2 v2 k2 => ?_
   refine KGO ?_
   have hil : i < cur.length := by omega
   refine ⟨(i + 1, j + 1, cur.set i x), ⟨rfl, rfl, v_int (by simp), v_int (by simp), trivial⟩, ⟨(hK.trans0 k_wv).trans' (k1.of_none.trans' k2), by dsimp only; omega, by dsimp only; omega, by dsimp only; rw [List.length_set]; exact hcl2, ?_, ?_, ?_⟩, by dsimp only; omega⟩
   ·dsimp only
    rw [hfs, ← htk2, List.take_succ_eq_append_getElem (by rw [List.length_set]; exact hil), List.getElem_set_self, List.take_set_of_le (Nat.le_refl _)]
    simp
   ·dsimp only
    rw [List.drop_set_of_lt (by omega), ← List.drop_drop, hdr2, List.drop_drop]
   ·dsimp only
    unfold OwnSn
    rw [List.length_set]
    exact o2
 ·have hjl : j = l.length := by omega
  subst hjl
  rw [List.take_length] at htk2
  have hil : i < cur.length := by omega
  refine KGO ?_
  rw [if_neg (by omega : ¬ i = cap0)]
  refine RunN.clearK (s := 2) (n := l.length - i) Tryz.underlying34 infoSn rfl (by intro u hu; simp [Value.cells] at hu; first | (subst hu; rfl) | (rcases hu with rfl | rfl <;> rfl)) hv (by first | (rw [hcl]; omega) | omega) fun w3 zs hzl v3 k3 => ?_
  refine KGO ?_
  have hle : (l.filter fun x => !p x).length = i := by rw [← htk2, List.length_take]; omega
  rw [if_neg (by omega : ¬ 0 = cap0), Nat.sub_zero, Nat.sub_zero]
  refine ⟨_, rfl, ?_, ((hK.trans' k3).mono fun q _ hq => by have hq : q = gb := hq; rw [hq]; rfl), rfl⟩
  have htA : cells.take (0 + i * 2) = (l.filter fun x => !p x).flatMap snC := by
   rw [Nat.zero_add, ← htk2, ← zbd snC 2 lenSn, ← htk, List.take_take, Nat.min_eq_left (by omega)]
  have hlA : ((l.filter fun x => !p x).flatMap snC).length = i * 2 := by rw [zaz snC 2 lenSn, hle]
  first | rw [htA] at v3 | (rw [show 0 + i * 2 = 0 + i by omega] at htA; rw [htA] at v3)
  unfold OwnSn
  rw [hle]
  refine zbk hBg v3 (by omega) hcm2 ?_ ?_ hlA
  ·rw [List.length_append, List.length_append, hlA, hzl, List.length_drop]; omega
  ·rw [List.append_assoc, ← hlA, List.take_left]
end Go.Proofs.YtcplagfblmemhaaGreatDoor
