/- Helper text of this claim: lemmas and contracts that the proved statement rests on; no conditions of its own. -/
import Derived.Test.YtcplagfblmemhaaGreatDoorGBw12
namespace Go.Proofs.YtcplagfblmemhaaGreatDoor
set_option linter.unusedVariables false
set_option maxHeartbeats 8000000
open Go.Shelf Go.RowKit Go.Pw Go.Vc Go.Cs Go.Lib
set_option linter.unusedVariables false
set_option maxRecDepth 100000
def Mr.bs (x : Mr) : List Nat := x.b.v.ownBlock.toList ++ x.f.v.ownBlock.toList
def Hd.bs (h : Hd) : List Nat := h.B.v.ownBlock.toList ++ h.S.v.ownBlock.toList ++ h.N.v.ownBlock.toList ++ h.M.v.ownBlock.toList
structure AccO (w : World) (B : Nat) (h : Hd) (lx : List Mr) (A : Acc) : Prop where
 b : OwnB w B h.B.v A.boxes
 s : OwnSrc w B h.S.v A.scripts
 n : OwnSn w B h.N.v A.seen
 m : OwnMl w B h.M.v lx
 ml : lx.map (·.m) = A.mails
 mb : ∀ x ∈ lx, OwnI w B x.b.v x.m.boxes ∧ OwnT w B x.f.v x.m.flags
 nd : (h.bs ++ lx.flatMap Mr.bs).Nodup
theorem ziZ {l : List Nat} {o : Option Nat} {s s' : Nat} (h : l.Nodup ∧ ∀ k ∈ l, k < s) (ho : ∀ k, o = some k → s ≤ k ∧ k < s') (hs : s ≤ s') : (l ++ o.toList).Nodup ∧ ∀ k ∈ l ++ o.toList, k < s' := by
 cases o with
 | none => simpa using ⟨h.1, fun k hk => Nat.lt_of_lt_of_le (h.2 k hk) hs⟩
 | some b =>
  have hb := ho b rfl
  refine ⟨?_, fun k hk => ?_⟩
  ·rw [Option.toList_some, List.nodup_append]
   refine ⟨h.1, by simp, fun x hx y hy => ?_⟩
   have := h.2 x hx
   rw [List.mem_singleton.1 hy]
   omega
  ·rcases List.mem_append.1 hk with hk | hk
   ·have := h.2 k hk; omega
   ·have : k = b := by simpa using hk
    omega
theorem zqt {l m : List Nat} {s s' : Nat} (h : l.Nodup ∧ ∀ k ∈ l, k < s) (hm : m.Nodup ∧ ∀ k ∈ m, s ≤ k ∧ k < s') (hs : s ≤ s') : (l ++ m).Nodup ∧ ∀ k ∈ l ++ m, k < s' := by
 refine ⟨?_, fun k hk => ?_⟩
 ·rw [List.nodup_append]
  exact ⟨h.1, hm.1, fun x hx y hy => by have := h.2 x hx; have := (hm.2 y hy).1; omega⟩
 ·rcases List.mem_append.1 hk with hk | hk
  ·have := h.2 k hk; omega
  ·exact (hm.2 k hk).2
theorem bs_nd {y : Mr} {P : Nat → Prop} (ap : Apart y.b.v y.f.v) (hb : ∀ k, y.b.v.ownBlock = some k → P k) (hf : ∀ k, y.f.v.ownBlock = some k → P k) : y.bs.Nodup ∧ ∀ k ∈ y.bs, P k := by
 unfold Mr.bs
 have one : ∀ o : Option Nat, o.toList.Nodup := fun o => by cases o <;> simp
 have mem : ∀ (o : Option Nat) (k : Nat), k ∈ o.toList ↔ o = some k := fun o k => by cases o <;> simp [eq_comm]
 refine ⟨?_, fun k hk => ?_⟩
 ·rw [List.nodup_append]
  refine ⟨one _, one _, fun a ha b hb2 e => ?_⟩
  subst e
  exact ap a ((mem _ _).1 ha) ((mem _ _).1 hb2)
 ·rcases List.mem_append.1 hk with hk | hk
  ·exact hb k ((mem _ _).1 hk)
  ·exact hf k ((mem _ _).1 hk)
theorem zaD {w w' : World} {B s n : Nat} {e : TypeId} {v u : Value} {xs : List Value} (h : w.ownsRow B e s v n xs) (k : Kp w w' (own_ u)) (ap : Apart v u) : w'.ownsRow B e s v n xs :=
 zad h k fun g hg e => ap g hg e
theorem zfl {w w' : World} {B s n : Nat} {e : TypeId} {v : Value} {xs : List Value} (h : w.ownsRow B e s v n xs) (k : Kp w w' n_) : ∀ g, v.ownBlock = some g → B ≤ g ∧ g < w'.heap.size := fun g hg => by
 have := h.lt g hg
 have := k.size
 omega
theorem AccO.read {w : World} {B : Nat} {h : Hd} {lx : List Mr} {A : Acc} (o : AccO w B h lx A) : AccR w h A :=
 ⟨zaH o.b, ⟨lx, o.ml, zaH o.m, fun x hx => ⟨zaH (o.mb x hx).1, zaH (o.mb x hx).2⟩⟩, zaH o.s, zaH o.n⟩
theorem AccO.keep {w w' : World} {B : Nat} {h : Hd} {lx : List Mr} {A : Acc} (o : AccO w B h lx A) (k : Kp w w' n_) : AccO w' B h lx A :=
 ⟨zab o.b k, zab o.s k, zab o.n k, zab o.m k, o.ml, fun x hx => ⟨zab (o.mb x hx).1 k, zab (o.mb x hx).2 k⟩, o.nd⟩
abbrev zAcc : List Value := [.slice none 0 0, .slice none 0 0, .slice none 0 0, .string ⟨#[]⟩, .slice none 0 0, .int .i64 0, .int .i64 0, .int .i64 0]
section
variable {w : World}
theorem zeJ {h : Hd} {A : Acc} (ha : AccR w h A) (hf : Fit A) : Calls Tryz.prog 63 #[.agg (accC h A).toArray] w fun e w' => ∃ h' lx, e = .returned (.agg (accC h' A).toArray) ∧ AccO w' w.heap.size h' lx A ∧ Kp w w' n_ := by
 obtain ⟨lx, hm, hr, hx⟩ := ha.m
 have hlx : lx.length = A.mails.length := by rw [← hm, List.length_map]
 have f1 := hf.bl
 have f2 := hf.ml
 have f3 := hf.sl
 have f4 := hf.nl
 have fm := hf.mb
 clear hf
 refine zaa (args := [.agg (accC h A).toArray]) Tryz.func63 rfl NL ?_; refine GW ?_
 obtain ⟨a_b1, v_b1, k_w1, z_w1, r_w1⟩ := new5 w 36 (accC h A)
 generalize w.alloc (.cells (List.toArray (accC h A)) 36) = w1 at *
 generalize hs_b1 : w.heap.size = b1 at *
 obtain ⟨a_b2, v_b2, k_w2, z_w2, r_w2⟩ := new5 w1 36 (zAcc)
 generalize w1.alloc (.cells (List.toArray (zAcc)) 36) = w2 at *
 generalize hs_b2 : w1.heap.size = b2 at *
 have K2 := k_w1.trans0 k_w2
 have a1 := zaf a_b1 k_w2
 refine Draw.heldTail 12 (fun u => Kp w2 u n_) (fun _ => true) (by decide +kernel) (by decide +kernel) (Kp.refl _ _).drew ?_
 refine GW ?_
 refine KGO ?_
 refine CallS.of (Tryz.call90 _ _) (zea (w := w2.drew) A.boxes (ha.b.keep K2.drew) (by omega)) ?_
 rintro e w3 ⟨v3, rfl, o3, k3⟩
 obtain ⟨a3, c3, rfl⟩ := zac o3
 have J3 : Kp w2 w3 n_ := (Kp.refl w2 n_).drew.trans0 k3
 refine RT ?_
 refine ⟨J3, ?_⟩
 refine KGO ?_
 refine CallS.of (Tryz.call112 _ _) (zqC (w := w3) A.scripts (ha.s.keep (K2.trans0 J3)) (by omega)) ?_
 rintro e w4 ⟨v4, rfl, o4, k4⟩
 obtain ⟨a4, c4, rfl⟩ := zac o4
 have J4 := J3.trans0 k4
 refine RT ?_
 refine ⟨J4, ?_⟩
 refine KGO ?_
 refine CallS.of (Tryz.call113 _ _) (cl_Sn (w := w4) A.seen (ha.n.keep (K2.trans0 J4)) (by omega)) ?_
 rintro e w5 ⟨v5, rfl, o5, k5⟩
 obtain ⟨a5, c5, rfl⟩ := zac o5
 have J5 := J4.trans0 k5
 refine RT ?_
 refine ⟨J5, ?_⟩
 refine KGO ?_
 refine CallS.of (Tryz.call114 _ _) (cl_Ml (w := w5) lx (hr.keep (K2.trans0 J5)) (by omega)) ?_
 rintro e w6 ⟨v6, rfl, o6, k6⟩
 obtain ⟨a6, c6, rfl⟩ := zac o6
 have J6 := J5.trans0 k6
 have vb := v_b1.keep0 (k_w2.trans0 J6)
 have vr := v_b2.keep0 J6
 refine RT ?_
 refine ⟨J6, ?_⟩
 have zd : w2.drew.heap.size = w2.heap.size := rfl
 have z3 := k3.size
 have z4 := k4.size
 have z5 := k5.size
 have z6 := k6.size
 have n0 : ([] : List Nat).Nodup ∧ ∀ k ∈ ([] : List Nat), k < w2.drew.heap.size := by simp
 have n1 := ziZ n0 (zfl o3 (Kp.refl w3 n_)) z3
 have n2 := ziZ n1 (zfl o4 (Kp.refl w4 n_)) z4
 have n3 := ziZ n2 (zfl o5 (Kp.refl w5 n_)) z5
 have n4 := ziZ n3 (zfl o6 (Kp.refl w6 n_)) z6
 have apB := zcz (zab o3 (k4.trans0 k5)) o6 (Nat.le_refl _)
 have apS := zcz (zab o4 k5) o6 (Nat.le_refl _)
 have apN := zcz o5 o6 (Nat.le_refl _)
 have o3 := zab o3 ((k4.trans0 k5).trans0 k6)
 have o4 := zab o4 (k5.trans0 k6)
 have o5 := zab o5 k6
 have hbM : ∀ g, (Value.slice a6 lx.length c6).ownBlock = some g → w5.heap.size ≤ g ∧ g < w6.heap.size := zfl o6 (Kp.refl w6 n_)
 have bl1 : b1 < w2.drew.heap.size := by omega
 have bl2 : b2 < w2.drew.heap.size := by omega
 refine KGO ?_
 refine SCK 0 vb fun w7 vb k7 => ?_
 refine KGO ?_
 refine SCK 2 vb fun w8 vb k8 => ?_
 refine KGO ?_
 refine SCK 4 vb fun w9 vb k9 => ?_
 refine KGO ?_
 refine SCK 1 vb fun w10 vb k10 => ?_
 have vb : VarK w10 b1 36 [.slice a3 A.boxes.length c3, .slice a6 lx.length c6, .slice a4 A.scripts.length c4, .string (str A.active), .slice a5 A.seen.length c5, .int .i64 A.nm, .int .i64 A.nb, .int .i64 A.st] := vb
 have k710 := ((k7.trans' k8).trans' k9).trans' k10
 clear k7 k8 k9 k10
 have K10 : Kp w w10 n_ := zan (K2.trans0 J6) k710 (by omega)
 have vr := vr.keep k710 (fun e => by have e : b2 = b1 := e; omega)
 have o3 := zax o3 k710 bl1
 have o4 := zax o4 k710 (by omega)
 have o5 := zax o5 k710 (by omega)
 have o6 := zax o6 k710 (by omega)
 have z10 := k710.size
 have hat := vb.at
 refine KGO ?_
 refine Loop.intro (ι := Nat × List Mr) (fun p => [(1, .pointer (some ⟨b1, 0, none⟩)), (2, .pointer (some ⟨b2, 0, none⟩)), (22, .slice a6 lx.length c6), (23, .int .i64 (lx.length : Nat)), (24, .int .i64 (p.1 : Nat))])
  (fun p wr => Kp w wr n_ ∧ p.1 ≤ lx.length ∧ p.2.length = p.1 ∧ p.2.map (·.m) = (lx.take p.1).map (·.m) ∧ wr.ownsRow w5.heap.size 60 38 (.slice a6 lx.length c6) lx.length ((p.2 ++ lx.drop p.1).flatMap mrC) ∧
   (∀ y ∈ p.2, OwnI wr w6.heap.size y.b.v y.m.boxes ∧ OwnT wr w6.heap.size y.f.v y.m.flags) ∧
   ((([] ++ (Value.slice a3 A.boxes.length c3).ownBlock.toList ++ (Value.slice a4 A.scripts.length c4).ownBlock.toList ++ (Value.slice a5 A.seen.length c5).ownBlock.toList ++ (Value.slice a6 lx.length c6).ownBlock.toList) ++ p.2.flatMap Mr.bs).Nodup ∧
    ∀ k ∈ ([] ++ (Value.slice a3 A.boxes.length c3).ownBlock.toList ++ (Value.slice a4 A.scripts.length c4).ownBlock.toList ++ (Value.slice a5 A.seen.length c5).ownBlock.toList ++ (Value.slice a6 lx.length c6).ownBlock.toList) ++ p.2.flatMap Mr.bs, k < wr.heap.size) ∧
   VarK wr b1 36 [.slice a3 A.boxes.length c3, .slice a6 lx.length c6, .slice a4 A.scripts.length c4, .string (str A.active), .slice a5 A.seen.length c5, .int .i64 A.nm, .int .i64 A.nb, .int .i64 A.st] ∧ VarK wr b2 36 zAcc ∧
   OwnB wr w2.drew.heap.size (.slice a3 A.boxes.length c3) A.boxes ∧ OwnSrc wr w3.heap.size (.slice a4 A.scripts.length c4) A.scripts ∧ OwnSn wr w4.heap.size (.slice a5 A.seen.length c5) A.seen ∧ w6.heap.size ≤ wr.heap.size)
  (fun p => lx.length - p.1) (0, []) ⟨rfl, rfl, rfl, rfl, rfl, trivial⟩ ⟨K10, Nat.zero_le _, rfl, rfl, o6, by simp, ⟨by simpa using n4.1, fun k hk => Nat.lt_of_lt_of_le (n4.2 k (by simpa using hk)) z10⟩, vb, vr, o3, o4, o5, z10⟩ ?_
 clear vb vr o3 o4 o5 o6 hat
 generalize hNL : ([] ++ (Value.slice a3 A.boxes.length c3).ownBlock.toList ++ (Value.slice a4 A.scripts.length c4).ownBlock.toList ++ (Value.slice a5 A.seen.length c5).ownBlock.toList ++ (Value.slice a6 lx.length c6).ownBlock.toList) = NL at *
 rintro ⟨i, ys⟩ gg wr ⟨hK, hi, hyl, hym, o6, hin, hnd, vb, vr, o3, o4, o5, hwr⟩
 dsimp only at hi hyl hym o6 hin hnd ⊢
 have hat := vb.at
 refine GW ?_
 by_cases hlt : i < lx.length
 ·obtain ⟨zs, hz⟩ : ∃ zs, zs = ys ++ lx.drop i := ⟨_, rfl⟩
  have hzl : zs.length = lx.length := by rw [hz, List.length_append, List.length_drop]; omega
  have hzi : zs[i]'(by omega) = lx[i] := by
   subst hz
   rw [List.getElem_append_right (by omega)]
   simp [hyl]
  rw [← hz] at o6
  rcases own_blockK o6 with ⟨h, h0⟩ | ⟨g, cap, cells, he6, hBg, hv, hnc, hcm, hcl, htk⟩
  ·omega
  injection he6 with he6 _ hc6
  subst he6; subst hc6
  have hgl := hv.lt
  have hrow := zbF o6
  have kr := Kp.refl wr n_
  have hmo := (hx lx[i] (List.getElem_mem hlt)).keep hK
  have hsi := fm lx[i].m (by rw [← hm]; exact List.mem_map_of_mem (List.getElem_mem hlt))
  refine KGO ?_
  rw [hzi]
  generalize hxi : lx[i] = x at *
  refine Store.fresh (vs := mrC x) (by rfl) rfl (zam (by rfl)) ?_
  obtain ⟨a_b4, k_w11, z_w11⟩ := new3 wr 60 (mrC x)
  generalize wr.alloc (.cells (List.toArray (mrC x)) 60) = w11 at *
  generalize hs_b4 : wr.heap.size = b4 at *
  have hat1 := zaf hat k_w11
  refine KGO ?_
  refine Draw.heldTail 5 (fun u => Kp w11 u n_) (fun _ => true) (by decide +kernel) (by decide +kernel) (Kp.refl _ _).drew ?_
  refine GW ?_
  refine KGO ?_
  refine CallS.of (Tryz.call40 _ _) (zmF (w := w11.drew) x (hmo.keep k_w11.drew) (by have := hsi.1; omega) (by have := hsi.2; omega)) ?_
  rintro e w12 ⟨y, rfl, hy, oy1, oy2, apy, k12⟩
  have J12 : Kp w11 w12 n_ := (Kp.refl w11 n_).drew.trans0 k12
  have J := k_w11.trans0 J12
  have hvz := hv.keep0 J
  refine RT ?_
  refine ⟨J12, ?_⟩
  refine KGO ?_
  have z11 : w11.drew.heap.size = w11.heap.size := rfl
  have zk := k12.size
  refine Store.elemK (l := zs) (k := i) (B := w5.heap.size) (cap := c6) y lenMl (by rfl) (zam (by rfl)) hvz hBg (by omega) hcm hcl (by rw [hzl]; exact htk) (by omega) fun w13 o13 v13 k13 => ?_
  refine KGO ?_
  have hset : zs.set i y = (ys ++ [y]) ++ lx.drop (i + 1) := by
   rw [hz, List.set_append_right _ _ (by omega), hyl, Nat.sub_self, List.drop_eq_getElem_cons hlt, List.set_cons_zero]
   simp
  rw [hset, hzl] at o13
  have hg6 : g < w6.heap.size := (hbM g rfl).2
  have hyb : y.m.boxes = x.m.boxes := by rw [hy]
  have hyf : y.m.flags = x.m.flags := by rw [hy]
  have hsz : w6.heap.size ≤ w11.drew.heap.size := by rw [z11]; have := k_w11.size; omega
  have zk13 := k13.size
  have zw11 := k_w11.size
  have ky := zqt hnd (bs_nd apy (fun k hk => ⟨(by have := (oy1.lt k hk).1; omega), Nat.lt_of_lt_of_le (oy1.lt k hk).2 zk13⟩) (fun k hk => ⟨(by have := (oy2.lt k hk).1; omega), Nat.lt_of_lt_of_le (oy2.lt k hk).2 zk13⟩)) (by omega)
  have hg11 : g < w11.drew.heap.size := by omega
  have Kst : Kp wr w13 (one_ g) := J.of_none.trans' k13
  refine ⟨(i + 1, ys ++ [y]), ⟨rfl, rfl, rfl, rfl, v_int (by simp), trivial⟩, ⟨zan (hK.trans0 J) k13 (by omega), by dsimp only; omega, by dsimp only; rw [List.length_append, hyl]; rfl, ?_, o13, fun z hzm => ?_, ?_, vb.keep Kst (fun e => by have e : b1 = g := e; omega), vr.keep Kst (fun e => by have e : b2 = g := e; omega), zad o3 Kst (fun k hk e => apB k hk (by rw [show k = g from e]; rfl)), zad o4 Kst (fun k hk e => apS k hk (by rw [show k = g from e]; rfl)), zad o5 Kst (fun k hk e => apN k hk (by rw [show k = g from e]; rfl)), by omega⟩, by dsimp only; omega⟩
  ·dsimp only
   rw [List.map_append, List.take_succ_eq_append_getElem hlt, List.map_append, hym, hxi]
   simp [hy]
  ·rcases List.mem_append.1 hzm with hzm | hzm
   ·exact ⟨zax (zab (hin z hzm).1 J) k13 hg6, zax (zab (hin z hzm).2 J) k13 hg6⟩
   ·rw [List.mem_singleton.1 hzm, hyb, hyf]
    exact ⟨zaj (zax oy1 k13 hg11) hsz, zaj (zax oy2 k13 hg11) hsz⟩
  ·dsimp only
   rw [List.flatMap_append, ← List.append_assoc]
   simpa using ky
 ·have ht : lx.drop i = [] := List.drop_eq_nil_of_le (by omega)
  rw [ht, List.append_nil] at o6
  rw [List.take_of_length_le (by omega), hm] at hym
  have kr := Kp.refl wr n_
  refine KGO ?_
  refine SVK (accC ⟨⟨a3, A.boxes.length, c3⟩, ⟨a6, lx.length, c6⟩, ⟨a4, A.scripts.length, c4⟩, ⟨a5, A.seen.length, c5⟩⟩ A) vr fun w11 vr k11 => ?_
  have hat := vr.at
  refine KGO ?_
  refine GW ?_
  refine KGO ?_
  refine GW ?_
  have hyn : ys.length = lx.length := by omega
  have b5 : b2 < w5.heap.size := by omega
  refine ⟨⟨⟨a3, A.boxes.length, c3⟩, ⟨a6, lx.length, c6⟩, ⟨a4, A.scripts.length, c4⟩, ⟨a5, A.seen.length, c5⟩⟩, ys, rfl, ⟨zaj (zax o3 k11 bl2) (by omega), zaj (zax o4 k11 (by omega)) (by omega), zaj (zax o5 k11 (by omega)) (by omega), ?_, hym, fun z hz => ⟨zaj (zax (hin z hz).1 k11 (by omega)) (by omega), zaj (zax (hin z hz).2 k11 (by omega)) (by omega)⟩, ?_⟩, zan hK k11 (by omega)⟩
  ·unfold OwnMl
   rw [hyn]
   exact zaj (zax o6 k11 b5) (by omega)
  ·have := hnd.1
   rw [← hNL] at this
   simpa [Hd.bs] using this
end
end Go.Proofs.YtcplagfblmemhaaGreatDoor
namespace Go.Proofs.YtcplagfblmemhaaGreatDoor
set_option linter.unusedVariables false
set_option maxHeartbeats 8000000
open Go.RowKit Go.Pw Go.Vc Go.Cs Go.Lib
set_option linter.unusedVariables false
set_option maxRecDepth 100000
theorem zdC {α : Type} {p : α → Bool} {l : List α} {j : Nat} (h : j < l.length) : (l.take (j + 1)).filter p = (l.take j).filter p ++ (if p l[j] = true then [l[j]] else []) := by
 rw [List.take_succ_eq_append_getElem h, List.filter_append]
 congr 1
 by_cases hp : p l[j] = true
 ·rw [if_pos hp, List.filter_cons_of_pos hp]; rfl
 ·rw [if_neg hp, List.filter_cons_of_neg hp]; rfl
theorem dlf_T {w : World} {v : Value} {B : Nat} (l : List (List UInt8)) (g : Nat) (c0 : Value) (p : (List UInt8) → Bool) (ho : OwnT w B v l) (hl : l.length ≤ 8796093022208) (hg : ∀ (args : Array Value) (w : World), (callFunc g args).run Tryz.prog w = .ok (.enter g args) w)
  (hp : ∀ x ∈ l, ∀ w', Kp w w' (own_ v) → Calls Tryz.prog g #[.string (str x), c0] w' fun e w'' => e = .returned (.bool (p x)) ∧ Kp w' w'' n_) :
  Calls Tryz.prog 96 #[v, .func (.func g) #[] #[c0]] w fun e w' => ∃ v', e = .returned v' ∧ OwnT w' B v' (l.filter fun x => !p x) ∧ Kp w w' (own_ v) ∧ (v'.ownBlock = v.ownBlock) := by
 obtain ⟨a, cap0, rfl⟩ := zac ho
 refine zaa (args := [.slice a l.length cap0, .func (.func g) #[] #[c0]]) Tryz.func96 rfl NL ?_; refine GW ?_
 refine CallS.of (Tryz.call151 _ _) (zrd l g c0 p (zaH ho) hl hg (fun x hx w' k => hp x hx w' k.of_none)) ?_
 rintro e w1 ⟨rfl, k1⟩
 refine RT ?_
 rcases idxP_lt p l with hi | ⟨i0, hi0, he0, hp0, hb0⟩
 ·rw [hi]
  refine KGO ?_
  refine ⟨_, rfl, ?_, k1.of_none, rfl⟩
  have hf : (l.filter fun x => !p x) = l := List.filter_eq_self.2 fun x hx => by
   have h : ¬ l.any p = true := fun h => by have := (zcu p l).2 h; omega
   have := List.any_eq_false.1 (by simpa using h) x hx
   simpa using this
  rw [hf]
  exact zab ho k1
 rw [he0]
 rcases own_blockK ho with ⟨hnil, h0⟩ | ⟨gb, cap, cells0, hev, hBg, hv0, hnc, hcm, hcl0, htk0⟩
 ·omega
 injection hev with hev _ hcc
 subst hev; subst hcc
 have hgk : gb < w1.heap.size := Nat.lt_of_lt_of_le hv0.lt k1.size
 have ho1 := zab ho k1
 have hfl0 : ((l.take (i0 + 1)).filter fun x => !p x) = l.take i0 := by
  rw [zdC hi0, hp0]
  have : (l.take i0).filter (fun x => !p x) = l.take i0 := List.filter_eq_self.2 fun x hx => by
   obtain ⟨j, hj, rfl⟩ := List.mem_take_iff_getElem.1 hx
   rw [hb0 j (by omega)]; rfl
  rw [this]; simp
 refine KGO ?_
 refine Loop.intro (ι := Nat × Nat × List (List UInt8)) (fun q => [(0, .slice (some ⟨gb, 0, none⟩) l.length cap0), (1, .func (.func g) #[] #[c0]), (5, .int .i64 (q.1 : Nat)), (6, .int .i64 (q.2.1 : Nat))])
  (fun q wr => Kp w wr (one_ gb) ∧ q.2.1 ≤ l.length ∧ q.1 < q.2.1 ∧ q.2.2.length = l.length ∧ q.2.2.take q.1 = ((l.take q.2.1).filter fun x => !p x) ∧ q.2.2.drop q.2.1 = l.drop q.2.1 ∧ OwnT wr B (.slice (some ⟨gb, 0, none⟩) q.2.2.length cap0) q.2.2)
  (fun q => l.length - q.2.1) (i0, i0 + 1, l) ⟨rfl, rfl, rfl, v_int (by simp), trivial⟩ ⟨k1.of_none, by dsimp only; omega, by dsimp only; omega, rfl, by dsimp only; rw [hfl0], rfl, ho1⟩ ?_
 clear ho1 hfl0 hb0 hp0 he0 hi0 i0
 rintro ⟨i, j, cur⟩ gg wr ⟨hK, hj, hij, hcl2, htk2, hdr2, ho2⟩
 dsimp only at hj hij hcl2 htk2 hdr2 ho2 ⊢
 rcases own_blockK ho2 with ⟨h, h0⟩ | ⟨g2, cap, cells, hev, hBg2, hv, hnc2, hcm2, hcl, htk⟩
 ·cases h
 injection hev with hev _ hcc
 injection hev with hev
 injection hev with hev
 subst hev; subst hcc
 have hrow := zbF ho2
 have kr := Kp.refl wr n_
 refine GW ?_
 by_cases hlt : j < l.length
 ·have hcj : cur[j]'(by omega) = l[j] := by
   have h1 : (cur.drop j)[0]? = (l.drop j)[0]? := by rw [hdr2]
   rw [List.getElem?_drop, List.getElem?_drop, Nat.add_zero, List.getElem?_eq_getElem (by omega), List.getElem?_eq_getElem hlt] at h1
   exact Option.some.inj h1
  have hfs := zdC (p := fun x => !p x) hlt
  have hjc : j < cur.length := by omega
  obtain ⟨q, hq⟩ : ∃ q, p l[j] = q := ⟨_, rfl⟩
  have hmx := List.getElem_mem hlt
  rw [hq] at hfs
  have hcx := zdW hrow (i := j) (by omega)
  refine KGO ?_
  rw [hcj]
  generalize hxj : l[j] = x at *
  have hpc := hp x hmx wr (hK.mono fun q _ hq => by have hq : q = gb := hq; rw [hq]; rfl)
  rw [hq] at hpc
  refine CallS.of (hg _ _) hpc ?_
  rintro e w1 ⟨rfl, k1⟩
  refine RT ?_
  cases q with
  | true =>
   refine KGO ?_
   refine ⟨(i, j + 1, cur), ⟨rfl, rfl, rfl, v_int (by simp), trivial⟩, ⟨hK.trans0 k1, by dsimp only; omega, by dsimp only; omega, hcl2, ?_, ?_, zab ho2 k1⟩, by dsimp only; omega⟩
   ·dsimp only
    rw [hfs, htk2]; simp
   ·dsimp only
    rw [← List.drop_drop, hdr2, List.drop_drop]
  | false =>
   refine KGO ?_
   have hv := hv.keep0 k1
   refine Store.atK hv (i := 0 + i) (by omega) (by rfl) ⟨rfl, by simp, by simp⟩ fun w2 v2 k2 => ?_
   rw [Nat.zero_add] at v2
   have o2 := zbm (w := w1) lenT (l := cur) (k := i) (j := 0) (x := x) (by omega) (by decide) rfl hBg (by omega) hcm hcl htk (by rw [Nat.mul_one, Nat.add_zero]; exact v2)
   refine KGO ?_
   have hil : i < cur.length := by omega
   refine ⟨(i + 1, j + 1, cur.set i x), ⟨rfl, rfl, v_int (by simp), v_int (by simp), trivial⟩, ⟨hK.trans' (k1.of_none.trans' k2), by dsimp only; omega, by dsimp only; omega, by dsimp only; rw [List.length_set]; exact hcl2, ?_, ?_, ?_⟩, by dsimp only; omega⟩
   ·dsimp only
    rw [hfs, ← htk2, List.take_succ_eq_append_getElem (by rw [List.length_set]; exact hil), List.getElem_set_self, List.take_set_of_le (Nat.le_refl _)]
    simp
   ·dsimp only
    rw [List.drop_set_of_lt (by omega), ← List.drop_drop, hdr2, List.drop_drop]
   ·dsimp only
    unfold OwnT
    rw [List.length_set]
    exact o2
 ·have hjl : j = l.length := by omega
  subst hjl
  rw [List.take_length] at htk2
  have hil : i < cur.length := by omega
  refine KGO ?_
  rw [if_neg (by omega : ¬ i = cap0)]
  refine RunN.clearK (s := 1) (n := l.length - i) Tryz.underlying58 textInfo rfl (by intro u hu; simp [Value.cells] at hu; first | (subst hu; rfl) | (rcases hu with rfl | rfl <;> rfl)) hv (by first | (rw [hcl]; omega) | omega) fun w3 zs hzl v3 k3 => ?_
  refine KGO ?_
  have hle : (l.filter fun x => !p x).length = i := by rw [← htk2, List.length_take]; omega
  rw [if_neg (by omega : ¬ 0 = cap0), Nat.sub_zero, Nat.sub_zero]
  refine ⟨_, rfl, ?_, ((hK.trans' k3).mono fun q _ hq => by have hq : q = gb := hq; rw [hq]; rfl), rfl⟩
  have htA : cells.take (0 + i * 1) = (l.filter fun x => !p x).flatMap txC := by
   rw [Nat.zero_add, ← htk2, ← zbb txC 1 lenT, ← htk, List.take_take, Nat.min_eq_left (by omega)]
  have hlA : ((l.filter fun x => !p x).flatMap txC).length = i * 1 := by rw [zay txC 1 lenT, hle]
  first | rw [htA] at v3 | (rw [show 0 + i * 1 = 0 + i by omega] at htA; rw [htA] at v3)
  unfold OwnT
  rw [hle]
  refine zbj hBg v3 (by omega) hcm2 ?_ ?_ hlA
  ·rw [List.length_append, List.length_append, hlA, hzl, List.length_drop]; omega
  ·rw [List.append_assoc, ← hlA, List.take_left]
theorem zra {w : World} {v : Value} {B : Nat} (l : List Sn) (g : Nat) (c0 : Value) (p : Sn → Bool) (ho : OwnSn w B v l) (hl : l.length ≤ 1000000) (hg : ∀ (args : Array Value) (w : World), (callFunc g args).run Tryz.prog w = .ok (.enter g args) w)
  (hp : ∀ x ∈ l, ∀ w', Kp w w' (own_ v) → Calls Tryz.prog g #[.agg (snC x).toArray, c0] w' fun e w'' => e = .returned (.bool (p x)) ∧ Kp w' w'' n_) :
  Calls Tryz.prog 110 #[v, .func (.func g) #[] #[c0]] w fun e w' => ∃ v', e = .returned v' ∧ OwnSn w' B v' (l.filter fun x => !p x) ∧ Kp w w' (own_ v) ∧ (v'.ownBlock = v.ownBlock) := by
 obtain ⟨a, cap0, rfl⟩ := zac ho
 refine zaa (args := [.slice a l.length cap0, .func (.func g) #[] #[c0]]) Tryz.func110 rfl NL ?_; refine GW ?_
 refine CallS.of (Tryz.call161 _ _) (zpW l g c0 p (zaH ho) hl hg (fun x hx w' k => hp x hx w' k.of_none)) ?_
 rintro e w1 ⟨rfl, k1⟩
 refine RT ?_
 rcases idxP_lt p l with hi | ⟨i0, hi0, he0, hp0, hb0⟩
 ·rw [hi]
  refine KGO ?_
  refine ⟨_, rfl, ?_, k1.of_none, rfl⟩
  have hf : (l.filter fun x => !p x) = l := List.filter_eq_self.2 fun x hx => by
   have h : ¬ l.any p = true := fun h => by have := (zcu p l).2 h; omega
   have := List.any_eq_false.1 (by simpa using h) x hx
   simpa using this
  rw [hf]
  exact zab ho k1
 rw [he0]
 rcases own_blockK ho with ⟨hnil, h0⟩ | ⟨gb, cap, cells0, hev, hBg, hv0, hnc, hcm, hcl0, htk0⟩
 ·omega
 injection hev with hev _ hcc
 subst hev; subst hcc
 have hgk : gb < w1.heap.size := Nat.lt_of_lt_of_le hv0.lt k1.size
 have ho1 := zab ho k1
 have hfl0 : ((l.take (i0 + 1)).filter fun x => !p x) = l.take i0 := by
  rw [zdC hi0, hp0]
  have : (l.take i0).filter (fun x => !p x) = l.take i0 := List.filter_eq_self.2 fun x hx => by
   obtain ⟨j, hj, rfl⟩ := List.mem_take_iff_getElem.1 hx
   rw [hb0 j (by omega)]; rfl
  rw [this]; simp
 refine KGO ?_
 refine Loop.intro (ι := Nat × Nat × List Sn) (fun q => [(0, .slice (some ⟨gb, 0, none⟩) l.length cap0), (1, .func (.func g) #[] #[c0]), (5, .int .i64 (q.1 : Nat)), (6, .int .i64 (q.2.1 : Nat))])
  (fun q wr => Kp w wr (one_ gb) ∧ q.2.1 ≤ l.length ∧ q.1 < q.2.1 ∧ q.2.2.length = l.length ∧ q.2.2.take q.1 = ((l.take q.2.1).filter fun x => !p x) ∧ q.2.2.drop q.2.1 = l.drop q.2.1 ∧ OwnSn wr B (.slice (some ⟨gb, 0, none⟩) q.2.2.length cap0) q.2.2)
  (fun q => l.length - q.2.1) (i0, i0 + 1, l) ⟨rfl, rfl, rfl, v_int (by simp), trivial⟩ ⟨k1.of_none, by dsimp only; omega, by dsimp only; omega, rfl, by dsimp only; rw [hfl0], rfl, ho1⟩ ?_
 clear ho1 hfl0 hb0 hp0 he0 hi0 i0
 rintro ⟨i, j, cur⟩ gg wr ⟨hK, hj, hij, hcl2, htk2, hdr2, ho2⟩
 dsimp only at hj hij hcl2 htk2 hdr2 ho2 ⊢
 rcases own_blockK ho2 with ⟨h, h0⟩ | ⟨g2, cap, cells, hev, hBg2, hv, hnc2, hcm2, hcl, htk⟩
 ·cases h
 injection hev with hev _ hcc
 injection hev with hev
 injection hev with hev
 subst hev; subst hcc
 have hrow := zbF ho2
 have kr := Kp.refl wr n_
 refine GW ?_
 by_cases hlt : j < l.length
 ·have hcj : cur[j]'(by omega) = l[j] := by
   have h1 : (cur.drop j)[0]? = (l.drop j)[0]? := by rw [hdr2]
   rw [List.getElem?_drop, List.getElem?_drop, Nat.add_zero, List.getElem?_eq_getElem (by omega), List.getElem?_eq_getElem hlt] at h1
   exact Option.some.inj h1
  have hfs := zdC (p := fun x => !p x) hlt
  have hjc : j < cur.length := by omega
  obtain ⟨q, hq⟩ : ∃ q, p l[j] = q := ⟨_, rfl⟩
  have hmx := List.getElem_mem hlt
  rw [hq] at hfs
  refine KGO ?_
  rw [hcj]
  generalize hxj : l[j] = x at *
  refine Store.fresh (vs := snC x) (by rfl) rfl (zam (by rfl)) ?_
  obtain ⟨a_b7, k_wv, z_wv⟩ := new3 wr 175 (snC x)
  generalize wr.alloc (.cells (List.toArray (snC x)) 175) = wv at *
  generalize hs_b7 : wr.heap.size = b7 at *
  refine KGO ?_
  have hpc := hp x hmx wv ((hK.trans0 k_wv).mono fun q _ hq => by have hq : q = gb := hq; rw [hq]; rfl)
  rw [hq] at hpc
  refine CallS.of (hg _ _) hpc ?_
  rintro e w1 ⟨rfl, k1⟩
  refine RT ?_
  cases q with
  | true =>
   refine KGO ?_
   refine ⟨(i, j + 1, cur), ⟨rfl, rfl, rfl, v_int (by simp), trivial⟩, ⟨(hK.trans0 k_wv).trans0 k1, by dsimp only; omega, by dsimp only; omega, hcl2, ?_, ?_, zab (zab ho2 k_wv) k1⟩, by dsimp only; omega⟩
   ·dsimp only
    rw [hfs, htk2]; simp
   ·dsimp only
    rw [← List.drop_drop, hdr2, List.drop_drop]
  | false =>
   refine KGO ?_
   have hv := (hv.keep0 k_wv).keep0 k1
   refine Store.elemK (l := cur) (k := i) (B := B) (cap := cap0) x lenSn (by rfl) (zam (by rfl)) hv hBg (by omega) hcm hcl htk (by omega) fun w2 o2 v2 k2 => ?_
   refine KGO ?_
   have hil : i < cur.length := by omega
   refine ⟨(i + 1, j + 1, cur.set i x), ⟨rfl, rfl, v_int (by simp), v_int (by simp), trivial⟩, ⟨(hK.trans0 k_wv).trans' (k1.of_none.trans' k2), by dsimp only; omega, by dsimp only; omega, by dsimp only; rw [List.length_set]; exact hcl2, ?_, ?_, ?_⟩, by dsimp only; omega⟩
   ·dsimp only
    rw [hfs, ← htk2, List.take_succ_eq_append_getElem (by rw [List.length_set]; exact hil), List.getElem_set_self, List.take_set_of_le (Nat.le_refl _)]
    simp
   ·dsimp only
    rw [List.drop_set_of_lt (by omega), ← List.drop_drop, hdr2, List.drop_drop]
   ·dsimp only
    unfold OwnSn
    rw [List.length_set]
    exact o2
 ·have hjl : j = l.length := by omega
  subst hjl
  rw [List.take_length] at htk2
  have hil : i < cur.length := by omega
  refine KGO ?_
  rw [if_neg (by omega : ¬ i = cap0)]
  refine RunN.clearK (s := 2) (n := l.length - i) Tryz.underlying34 infoSn rfl (by intro u hu; simp [Value.cells] at hu; first | (subst hu; rfl) | (rcases hu with rfl | rfl <;> rfl)) hv (by first | (rw [hcl]; omega) | omega) fun w3 zs hzl v3 k3 => ?_
  refine KGO ?_
  have hle : (l.filter fun x => !p x).length = i := by rw [← htk2, List.length_take]; omega
  rw [if_neg (by omega : ¬ 0 = cap0), Nat.sub_zero, Nat.sub_zero]
  refine ⟨_, rfl, ?_, ((hK.trans' k3).mono fun q _ hq => by have hq : q = gb := hq; rw [hq]; rfl), rfl⟩
  have htA : cells.take (0 + i * 2) = (l.filter fun x => !p x).flatMap snC := by
   rw [Nat.zero_add, ← htk2, ← zbb snC 2 lenSn, ← htk, List.take_take, Nat.min_eq_left (by omega)]
  have hlA : ((l.filter fun x => !p x).flatMap snC).length = i * 2 := by rw [zay snC 2 lenSn, hle]
  first | rw [htA] at v3 | (rw [show 0 + i * 2 = 0 + i by omega] at htA; rw [htA] at v3)
  unfold OwnSn
  rw [hle]
  refine zbj hBg v3 (by omega) hcm2 ?_ ?_ hlA
  ·rw [List.length_append, List.length_append, hlA, hzl, List.length_drop]; omega
  ·rw [List.append_assoc, ← hlA, List.take_left]
end Go.Proofs.YtcplagfblmemhaaGreatDoor
namespace Go.Vc
set_option linter.unusedVariables false
set_option maxHeartbeats 8000000
open Go Go.Pw Go.RowKit
theorem RunN.appNone {P : Program} {w : World} {K : Value → World → Prop} {t ty e : TypeId} {cs : Array Bool} {B s n c bytes : Nat} {z v : Value} {xs : List Value} (ht : P.underlying t = some (.slice e)) (hb : (P.info? e).map (fun i => (i.zero, i.size, i.bytes)) = some (some z, s, bytes))
  (hown : w.ownsRow B e s v n xs) (k : K v w) : RunN P (builtin .append #[t, t] ty cs [v, .slice none 0 c].toArray) w K := by
 obtain ⟨i, hi, _, _, _⟩ := zbg hb
 refine ⟨v, w, ?_, k⟩
 show (do pure (Next.value (← Builtin.append_ #[t, t] ty #[v, .slice none 0 c])) : Sem Next).run P w = _
 rcases hown.2 with ⟨rfl, rfl⟩ | ⟨g, cap, cur, rfl, _, _, hnc, _⟩
 ·simp [Builtin.append_, run_underlying ht, sizeOf, typeInfo, hi, Builtin.lenOf, Builtin.firstCells]
 ·simp [Builtin.append_, run_underlying ht, sizeOf, typeInfo, hi, Builtin.lenOf, Builtin.firstCells, hnc, storeCells]
theorem RunN.zeros0 {P : Program} {w : World} {K : Value → World → Prop} {t tn ty e : TypeId} {cs : Array Bool} {s bytes : Nat} {z : Value} {kq kn : IntKind} (ht : P.underlying t = some (.slice e)) (htn : P.underlying tn = some (.int kn)) (hb : (P.info? e).map (fun i => (i.zero, i.size, i.bytes)) = some (some z, s, bytes)) (hz : z.cells.size = s) (hs : 0 < s) {m : Nat} (h0 : 0 < m)
  (h63 : m ≤ 9223372036854775807) (hbytes : m * bytes ≤ 140737488355328)
  (k : ∀ w' cells c', VarK w' w.heap.size e cells → cells.length = c' * s → m ≤ c' → c' ≤ maxLen → Kp w w' n_ → K (.slice (some ⟨w.heap.size, 0, none⟩) m c') w') :
  RunN P (builtin .append #[t, tn] ty cs [.slice none 0 0, .int kq (m : Nat)].toArray) w K := by
 obtain ⟨i, hi, z1, rfl, rfl⟩ := zbg hb
 have hr := Lib.run_append_grow_zeros (P := P) w t tn ty e i z kq kn ht htn hi z1 none 0 0 [] (by simp [Builtin.firstCells]) m h0 hs (by omega) (by omega) (by omega) (fits48 (by omega) (by simpa using hbytes))
 have hge := grownCap_ge w (0 + m) 0 e
 rw [Nat.zero_add] at hr hge
 refine ⟨_, w.drew.alloc (.cells ([].toArray ++ Builtin.zeroCells z.cells m ++ Builtin.zeroCells z.cells (grownCap w m 0 e - m)) e), ?_, k _ (Builtin.zeroCells z.cells m ++ Builtin.zeroCells z.cells (grownCap w m 0 e - m)).toList _ ?_ ?_ hge (grownCap_le_maxLen w m 0 e (by rw [show maxLen = 9223372036854775807 from rfl]; exact h63)) ?_⟩
 ·show (do pure (Next.value (← Builtin.append_ #[t, tn] ty #[.slice none 0 0, .int kq (m : Nat)])) : Sem Next).run P w = _
  simp only [Sem.run_bind, hr, Result.andThen_ok]
  rfl
 ·have := heap_alloc_new w.drew (.cells ([].toArray ++ Builtin.zeroCells z.cells m ++ Builtin.zeroCells z.cells (grownCap w m 0 e - m)) e)
  unfold VarK
  rw [show ((Builtin.zeroCells z.cells m ++ Builtin.zeroCells z.cells (grownCap w m 0 e - m)).toList).toArray = [].toArray ++ Builtin.zeroCells z.cells m ++ Builtin.zeroCells z.cells (grownCap w m 0 e - m) by apply Array.ext'; simp]
  exact this
 ·rw [Array.length_toList, Array.size_append, size_zeroCells, size_zeroCells, hz, ← Nat.add_mul]
  congr 1
  omega
 ·exact (Kp.refl w n_).drew.alloc _
end Go.Vc
namespace Go.Proofs.YtcplagfblmemhaaGreatDoor
set_option linter.unusedVariables false
set_option maxHeartbeats 8000000
open Go.Shelf Go.RowKit Go.Pw Go.Vc Go.Cs Go.Lib
set_option linter.unusedVariables false
set_option maxRecDepth 100000
section
variable {w : World}
theorem zqZ {f : Fr} {y : Operand} (w : World) (hy : ev f y = .int .i64 ((0 : Nat) : Int) := by rfl) : (Instr.sliceAt 58 (.slice none 0 0) none ((some y).map (ev f)) none).run Tryz.prog w = .ok (.slice none 0 0) w := by
 obtain ⟨i, hi, _, hs, _⟩ := zbg textInfo
 simp [Instr.sliceAt, hy, Instr.slice, Instr.sliceBounds, go_sem, zaA Tryz.underlying58, zbi hi]
theorem gr_T (n : Nat) (hn : n ≤ 8796093022208) : Calls Tryz.prog 152 #[.slice none 0 0, .int .i64 (n : Nat)] w fun e w' => ∃ v, e = .returned v ∧ OwnT w' w.heap.size v [] ∧ Kp w w' n_ := by
 refine zaa (args := [.slice none 0 0, .int .i64 (n : Nat)]) Tryz.func152 rfl NL ?_; refine GW ?_
 refine KGO ?_
 refine RunN.capK Tryz.underlying58 ?_
 rcases Nat.eq_zero_or_pos n with h0 | h0
 ·subst h0
  refine KGO ?_
  exact ⟨_, rfl, World.ownsRow_nil _ _ _ _, Kp.refl _ _⟩
 ·refine KGO ?_
  refine RunN.capK Tryz.underlying58 ?_
  refine KGO ?_
  refine RunV.of (v := .slice none 0 0) (w' := w) (zqZ _) ?_
  refine KGO ?_
  rw [show ((n : Nat) : Int) - (((0 : Nat) : Int) - ((0 : Nat) : Int)) = ((n : Nat) : Int) by omega]
  refine RunN.zeros0 Tryz.underlying58 Tryz.underlying3 textInfo rfl (by decide) h0 (by omega) (by omega) fun w1 cells c1 v1 hl1 hc1 hm1 k1 => ?_
  refine KGO ?_
  rw [if_neg (by omega : ¬ 0 = c1), Nat.sub_zero, Nat.sub_zero]
  exact ⟨_, rfl, zbj (xs := []) (Nat.le_refl _) v1 (Nat.zero_le _) hm1 hl1 (by simp) rfl, k1⟩
abbrev slC (p : Sl × List (List UInt8)) : List Value := [.slice p.1.a p.1.n p.1.c]
theorem at_sl {g o i : Nat} {l : List (Sl × List (List UInt8))} (h : At w g o (l.flatMap slC)) (hi : i < l.length) : w.cell? ⟨g, o + i, none⟩ = some (.slice l[i].1.a l[i].1.n l[i].1.c) := zlR (fun p : Sl × List (List UInt8) => Value.slice p.1.a p.1.n p.1.c) h hi
theorem cat_T {v : Value} (ps : List (Sl × List (List UInt8))) (hv : RowO w v slC ps) (hp : ∀ p ∈ ps, RowT w p.1.v p.2) (hl : ps.length ≤ 1000) (hn : (ps.flatMap (·.2)).length ≤ 8796093022208) : Calls Tryz.prog 97 #[v] w fun e w' => ∃ v', e = .returned v' ∧ OwnT w' w.heap.size v' (ps.flatMap (·.2)) ∧ Kp w w' n_ := by
 obtain ⟨a, cap, rfl, hr⟩ := hv
 have hstep : ∀ i (h : i < ps.length), (ps.take (i + 1)).flatMap (·.2) = (ps.take i).flatMap (·.2) ++ ps[i].2 := fun i h => by
  rw [List.take_succ_eq_append_getElem h, List.flatMap_append]; simp
 have hle : ∀ i, ((ps.take i).flatMap (·.2)).length ≤ (ps.flatMap (·.2)).length := fun i => by
  conv => rhs; rw [← List.take_append_drop i ps, List.flatMap_append, List.length_append]
  omega
 refine zaa (args := [.slice a ps.length cap]) Tryz.func97 rfl NL ?_; refine GW ?_
 refine Loop.intro (ι := Nat) (fun i => [(0, .slice a ps.length cap), (3, .int .i64 (((ps.take i).flatMap (·.2)).length : Nat)), (9, .slice a ps.length cap), (10, .int .i64 (ps.length : Nat)), (11, .int .i64 (i : Nat))])
  (fun i wr => w = wr ∧ i ≤ ps.length) (fun i => ps.length - i) 0 ⟨rfl, rfl, rfl, rfl, rfl, trivial⟩ ⟨rfl, Nat.zero_le _⟩ ?_
 rintro i gg wr ⟨rfl, hi⟩
 have kr := Kp.refl w n_
 refine GW ?_
 by_cases hlt : i < ps.length
 ·obtain ⟨gb, o, rfl, hgb, hat⟩ := hr (by omega)
  have hc := at_sl hat hlt
  have hst := hstep i hlt
  have h1 := hle i
  have h2 := hle (i + 1)
  have hln := RowO.len (hp ps[i] (List.getElem_mem hlt))
  rw [hst, List.length_append] at h2
  refine KGO ?_
  rw [hln]
  refine KGO ?_
  refine ⟨i + 1, ⟨rfl, v_int (by rw [hst, List.length_append]; omega), rfl, rfl, v_int (by simp), trivial⟩, ⟨rfl, by omega⟩, by dsimp only; omega⟩
 ·have hil : ps.take i = ps := List.take_of_length_le (by omega)
  rw [hil]
  generalize hN : (ps.flatMap (·.2)).length = N at *
  refine KGO ?_
  refine CallS.of (Tryz.call152 _ _) (gr_T (w := w) N (by omega)) ?_
  rintro e w1 ⟨v1, rfl, o1, k1⟩
  obtain ⟨a1, c1, rfl⟩ := zac o1
  refine RT ?_
  refine KGO ?_
  refine Loop.intro (ι := Nat × Value) (fun q => [(6, q.2), (25, .slice a ps.length cap), (26, .int .i64 (ps.length : Nat)), (27, .int .i64 (q.1 : Nat))])
   (fun q wr => Kp w wr n_ ∧ q.1 ≤ ps.length ∧ OwnT wr w.heap.size q.2 ((ps.take q.1).flatMap (·.2))) (fun q => ps.length - q.1) (0, _) ⟨rfl, rfl, rfl, rfl, trivial⟩ ⟨k1, Nat.zero_le _, o1⟩ ?_
  rintro ⟨j, u⟩ gg2 wz ⟨hK, hj, ho⟩
  dsimp only at hj ho ⊢
  obtain ⟨au, cu, rfl⟩ := zac ho
  refine GW ?_
  by_cases hlt2 : j < ps.length
  ·obtain ⟨gb, o, rfl, hgb, hat⟩ := hr (by omega)
   have hc := at_sl hat hlt2
   have hst := hstep j hlt2
   have h1 := hle j
   have h2 := hle (j + 1)
   have hrow := (hp ps[j] (List.getElem_mem hlt2)).keep hK
   have hln := RowO.len hrow
   rw [hst, List.length_append] at h2
   obtain ⟨sa, sc, he, hrr⟩ := hrow
   have hea : ps[j].1.a = sa := by injection he
   refine KGO ?_
   rw [hln, hea]
   have fin : ∀ v' w', w'.ownsRow w.heap.size 9 1 v' (((ps.take j).flatMap (·.2)).length + ps[j].2.length) ((ps.take j).flatMap (·.2) |>.flatMap txC |>.append (ps[j].2.flatMap txC)) → OwnT w' w.heap.size v' ((ps.take (j + 1)).flatMap (·.2)) := fun v' w' h => by
    unfold OwnT
    rw [hst, List.length_append, List.flatMap_append]
    exact h
   rcases sa with _ | ad
   ·have h0 : ps[j].2.length = 0 := by
     rcases Nat.eq_zero_or_pos ps[j].2.length with h | h
     ·exact h
     ·obtain ⟨g, o, h1, _⟩ := hrr h; cases h1
    rw [h0]
    refine RunN.appNone Tryz.underlying58 textInfo ho ?_
    refine KGO ?_
    exact ⟨(j + 1, _), ⟨rfl, rfl, rfl, v_int (by simp), trivial⟩, ⟨hK, by dsimp only; omega, by dsimp only; rw [hst, List.eq_nil_of_length_eq_zero h0, List.append_nil]; exact ho⟩, by dsimp only; omega⟩
   ·refine RunN.app Tryz.underlying58 textInfo rfl (by decide) ho hK.size ad ps[j].2.length _ (ps[j].2.flatMap txC) (zay txC 1 lenT _) (fun m x hm => ?_) (oneT _) (by omega) (by omega) fun v' w' h2 h3 => ?_
    ·rcases Nat.eq_zero_or_pos ps[j].2.length with h | h
     ·rw [List.eq_nil_of_length_eq_zero h] at hm; simp at hm
     ·obtain ⟨g', o', h1, _, h3⟩ := hrr h
      injection h1 with h1
      subst h1
      rw [add_none]
      exact h3 m x hm
    ·obtain ⟨a', c', rfl⟩ := zac h2
     refine KGO ?_
     exact ⟨(j + 1, _), ⟨rfl, rfl, rfl, v_int (by simp), trivial⟩, ⟨hK.own ho (Nat.le_refl _) h3, by dsimp only; omega, fin _ _ h2⟩, by dsimp only; omega⟩
  ·have hjl : ps.take j = ps := List.take_of_length_le (by omega)
   rw [hjl] at ho ⊢
   refine KGO ?_
   exact ⟨_, rfl, ho, hK⟩
end
structure RowTy {α : Type} (T E : TypeId) (c : α → List Value) (s bytes : Nat) : Prop where
 ht : Tryz.prog.underlying T = some (.slice E)
 hb : ∃ z, (Tryz.prog.info? E).map (fun i => (i.zero, i.size, i.bytes)) = some (some z, s, bytes) ∧ z.cells.size = s
 hs : 0 < s
 len : ∀ x, (c x).length = s
 one : ∀ x, ∀ u ∈ c x, u.oneCell' = true
abbrev OwnR {α : Type} (E : TypeId) (c : α → List Value) (s : Nat) (w : World) (B : Nat) (v : Value) (l : List α) : Prop := w.ownsRow B E s v l.length (l.flatMap c)
section
variable {α : Type} {T E : TypeId} {c : α → List Value} {s bytes : Nat} {w : World} {K : Value → World → Prop} {B : Nat} {v : Value} {l : List α} {cs : Array Bool}
theorem RowTy.app (ty : RowTy T E c s bytes) {a : Option Addr} {m cap : Nat} (r : List α) (h : OwnR E c s w B v l) (hB : B ≤ w.heap.size) (hm : m = r.length) (hr : 0 < m → ∃ g o, a = some ⟨g, o, none⟩ ∧ At w g o (r.flatMap c))
  (h63 : l.length + r.length ≤ 9223372036854775807) (hbytes : (l.length + r.length) * bytes ≤ 140737488355328) (k : ∀ v' w', OwnR E c s w' B v' (l ++ r) → Kp w w' (own_ v) → K v' w') :
  RunN Tryz.prog (builtin .append #[T, T] T cs [v, .slice a m cap].toArray) w K := by
 subst hm
 obtain ⟨z, hb, hz⟩ := ty.hb
 cases a with
 | none =>
  have h0 : r.length = 0 := by
   rcases Nat.eq_zero_or_pos r.length with h0 | h0
   ·exact h0
   ·obtain ⟨g, o, e, _⟩ := hr h0; cases e
  have hn := List.eq_nil_of_length_eq_zero h0
  subst hn
  refine RunN.appNone ty.ht hb h (k _ _ ?_ (Kp.refl _ _))
  rw [List.append_nil]; exact h
 | some a =>
  refine RunN.app ty.ht hb hz ty.hs h hB a r.length cap (r.flatMap c) (zay c s ty.len r) (fun j u hj => ?_) (fun u hu => ?_) h63 hbytes fun v' w' h2 h3 => k v' w' ?_ ?_
  ·rcases Nat.eq_zero_or_pos r.length with h0 | h0
   ·rw [List.eq_nil_of_length_eq_zero h0] at hj; simp at hj
   ·obtain ⟨g, o, e, hat⟩ := hr h0
    injection e with e
    subst e
    rw [add_none]
    exact hat j u hj
  ·obtain ⟨x, _, hx⟩ := List.mem_flatMap.1 hu
   exact ty.one x u hx
  ·unfold OwnR
   rw [List.length_append, List.flatMap_append]
   exact h2
  ·exact ⟨h3.os, h3.tape, h3.output, h3.size, fun i hi hn => h3.block i hi fun e => hn e.symm⟩
theorem RowTy.app1 (ty : RowTy T E c s bytes) {b cap : Nat} (x : α) (h : OwnR E c s w B v l) (hB : B ≤ w.heap.size) (hx : At w b 0 (c x)) (h63 : l.length + 1 ≤ 9223372036854775807) (hbytes : (l.length + 1) * bytes ≤ 140737488355328)
  (k : ∀ v' w', OwnR E c s w' B v' (l ++ [x]) → Kp w w' (own_ v) → K v' w') : RunN Tryz.prog (builtin .append #[T, T] T cs [v, .slice (some ⟨b, 0, none⟩) 1 cap].toArray) w K :=
 ty.app [x] h hB rfl (fun _ => ⟨b, 0, rfl, by rw [List.flatMap_singleton]; exact hx⟩) h63 hbytes k
theorem zgI {g o : Nat} (hl : ∀ x, (c x).length = s) (h : At w g o (l.flatMap c)) (i : Nat) : At w g (o + i * s) ((l.drop i).flatMap c) := fun j u hj => by
 rw [← zbc c s hl, List.getElem?_drop] at hj
 rw [Nat.add_assoc]
 exact h _ u hj
theorem znR {f : Fr} {x : Operand} {w : World} (ty : RowTy T E c s bytes) (hx : ev f x = .int .i64 0) (k : K (.slice none 0 0) w) : RunV Tryz.prog (Instr.sliceAt T (.slice none 0 0) ((some x).map (ev f)) none none) w K :=
 by
 obtain ⟨z, hb, _⟩ := ty.hb
 obtain ⟨i, hi, _⟩ := zbg hb
 exact RunV.of (by simp [Instr.sliceAt, hx, Instr.slice, Instr.sliceBounds, go_sem, zaA ty.ht, zbi hi]) k
end
theorem tyI : RowTy 37 3 inC 1 8 := ⟨Tryz.underlying37, ⟨_, infoI, rfl⟩, by decide, lenI, fun x u hu => by rw [List.mem_singleton.1 hu]; rfl⟩
theorem tyT : RowTy 58 9 txC 1 16 := ⟨Tryz.underlying58, ⟨_, textInfo, rfl⟩, by decide, lenT, fun x u hu => by rw [List.mem_singleton.1 hu]; rfl⟩
end Go.Proofs.YtcplagfblmemhaaGreatDoor
