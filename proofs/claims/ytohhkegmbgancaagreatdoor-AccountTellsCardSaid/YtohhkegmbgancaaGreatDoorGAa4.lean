/- Helper text of this claim: lemmas and contracts that the proved statement rests on; no conditions of its own. -/
import Derived.Test.YtohhkegmbgancaaGreatDoorGBw12
namespace Go.Proofs.YtohhkegmbgancaaGreatDoor
set_option maxHeartbeats 8000000
open Go.Shelf Go.RowKit Go.Pw Go.Vc Go.Cs Go.Lib
set_option linter.unusedVariables false
set_option maxRecDepth 100000
section
variable {w : World}
theorem zkq {h : Hd} {A : Acc} (id : Int) {bp : Nat} (hc : At w bp 0 (accC h A)) (hb : RowB w h.B.v A.boxes) (hl : A.boxes.length ≤ 1000000) : Calls Tryz.prog 140 #[.int .i64 id, .pointer (some ⟨bp, 0, none⟩)] w fun e w' => e = .returned (.bool (!hasId A.boxes id)) ∧ Kp w w' n_ := by
 refine zaa (args := [.int .i64 id, .pointer (some ⟨bp, 0, none⟩)]) Tryz.func140 rfl NL ?_; refine GW ?_
 obtain ⟨a_b1, v_b1, k_w1, z_w1, r_w1⟩ := new5 w 3 ([.int .i64 id])
 generalize w.alloc (.cells (List.toArray ([.int .i64 id])) 3) = w1 at *
 generalize hs_b1 : w.heap.size = b1 at *
 refine KGO ?_
 conv => arg 3; simp [ev, upd]
 refine CallS.of (Tryz.call64 _ _) (cf1 (w := w1) A.boxes 141 (.pointer (some ⟨b1, 0, none⟩)) (fun b => decide (b.id = id)) (hb.keep k_w1) hl Tryz.call141 (fun b _ w' k => zkm b id (zak (a_b1 0 _ rfl) k))) ?_
 rintro e w2 ⟨rfl, k2⟩
 refine RT ?_
 exact ⟨rfl, k_w1.trans0 k2⟩
theorem zgT {h : Hd} {A : Acc} {v : Value} (l : List Int) (hb : RowB w h.B.v A.boxes) (hbl : A.boxes.length ≤ 1000000) (hv : RowI w v l) (hl : l.length ≤ 17592186044416) : Calls Tryz.prog 74 #[.agg (accC h A).toArray, v] w fun e w' => e = .returned (.bool (thereB A.boxes l)) ∧ Kp w w' n_ := by
 have hv0 := hv
 obtain ⟨a, cap, rfl, hr⟩ := hv
 refine zaa (args := [.agg (accC h A).toArray, .slice a l.length cap]) Tryz.func74 rfl NL ?_; refine GW ?_
 obtain ⟨a_b1, v_b1, k_w1, z_w1, r_w1⟩ := new5 w 36 (accC h A)
 generalize w.alloc (.cells (List.toArray (accC h A)) 36) = w1 at *
 generalize hs_b1 : w.heap.size = b1 at *
 refine KGO ?_
 conv => arg 3; simp [ev, upd]
 refine CallS.of (Tryz.call139 _ _) (zpP (w := w1) l 140 (.pointer (some ⟨b1, 0, none⟩)) (fun id => !hasId A.boxes id) (hv0.keep k_w1) hl Tryz.call140 (fun id _ w' k => zkq (h := h) (A := A) id (zac a_b1 k) (hb.keep (k_w1.trans0 k)) hbl)) ?_
 rintro e w2 ⟨rfl, k2⟩
 refine RT ?_
 refine ⟨zad ?_, k_w1.trans0 k2⟩
 unfold thereB
 rw [Bool.eq_iff_iff, Bool.not_eq_true', List.any_eq_false, List.all_eq_true]
 unfold hasId
 simp
theorem zfg (w : World) : (Instr.build 42 [].toArray).run Tryz.prog w = .ok (.agg (mrC (default : Mr)).toArray) w := by
 show _ = Result.ok (Value.agg zMl.toArray) w
 simp [Instr.build, Instr.fill, go_sem, Tryz.runUnderlying42]
theorem zly {h : Hd} {A : Acc} (id : Int) (ha : AccR w h A) (hl : A.mails.length ≤ 100000) (hs : ∀ m ∈ A.mails, m.boxes.length ≤ 1000000 ∧ m.flags.length ≤ 1000000) : Calls Tryz.prog 11 #[.agg (accC h A).toArray, .int .i64 id] w fun e w' => ∃ y : Mr, e = .returned (.tuple #[.agg (mrC y).toArray, .bool (findL A.mails id).isSome]) ∧ y.m = (findL A.mails id).getD (default : Mr).m ∧ MailOk w' y ∧ Kp w w' n_ := by
 obtain ⟨lx, hm, hr, hx⟩ := ha.m
 have hlx : lx.length = A.mails.length := by rw [← hm, List.length_map]
 refine zaa (args := [.agg (accC h A).toArray, .int .i64 id]) Tryz.func11 rfl NL ?_; refine GW ?_
 obtain ⟨a_b1, v_b1, k_w1, z_w1, r_w1⟩ := new5 w 36 (accC h A)
 generalize w.alloc (.cells (List.toArray (accC h A)) 36) = w1 at *
 generalize hs_b1 : w.heap.size = b1 at *
 obtain ⟨a_b2, v_b2, k_w2, z_w2, r_w2⟩ := new5 w1 42 (zMl)
 generalize w1.alloc (.cells (List.toArray (zMl)) 42) = w2 at *
 generalize hs_b2 : w1.heap.size = b2 at *
 refine KGO ?_
 refine CallS.of (Tryz.call40 _ _) (zgO (w := w2) (h := h) (A := A) id (ha.keep (k_w1.trans0 k_w2)) (by omega)) ?_
 rintro e w3 ⟨rfl, k3⟩
 have K3 : Kp w w3 n_ := (k_w1.trans0 k_w2).trans0 k3
 have vr := v_b2.keep0 k3
 refine RT ?_
 rcases place_find A.mails id with ⟨hp, hf⟩ | ⟨i, hi, hp, hf, _, _⟩
 ·rw [hp, hf]
  refine KGO ?_
  refine RunV.of (zfg _) ?_
  refine KGO ?_
  refine SVK (mrC default) vr fun w4 vr k4 => ?_
  have hat := vr.at
  refine KGO ?_
  refine GW ?_
  refine KGO ?_
  refine GW ?_
  exact ⟨default, rfl, rfl, ⟨⟨none, 0, rfl, fun h => by cases h⟩, ⟨none, 0, rfl, fun h => by cases h⟩⟩, zae K3 k4 (by have := k_w1.size; omega)⟩
 ·rw [hp, hf]
  have hi2 : i < lx.length := by omega
  have hxm : lx[i].m = A.mails[i] := by simp [← hm]
  obtain ⟨a, cap, he, hrr⟩ := hr
  obtain ⟨gb, o, rfl, hgb, hat⟩ := hrr (by omega)
  have hrn : h.M.n = lx.length := by injection he
  have hra : h.M.a = some ⟨gb, o, none⟩ := by injection he
  have aa := zac a_b1 (k_w2.trans0 k3)
  have hmo := (hx lx[i] (List.getElem_mem hi2)).keep K3
  have hsi := hs A.mails[i] (List.getElem_mem hi)
  unfold accC at aa
  rw [hrn, hra] at aa
  refine KGO ?_
  generalize lx[i] = x at *
  refine CallS.of (Tryz.call41 _ _) (zhu (w := w3) x hmo (by rw [hxm]; exact hsi.1) (by rw [hxm]; exact hsi.2)) ?_
  rintro e w4 ⟨y, rfl, hy, oy1, oy2, _, k4⟩
  have vr := vr.keep0 k4
  refine RT ?_
  refine KGO ?_
  refine SVK (mrC y) vr fun w5 vr k5 => ?_
  have hat := vr.at
  refine KGO ?_
  refine GW ?_
  refine KGO ?_
  refine GW ?_
  have hb2 : b2 < w3.heap.size := by have := k3.size; omega
  have hyb : y.m.boxes = x.m.boxes := by rw [hy]
  have hyf : y.m.flags = x.m.flags := by rw [hy]
  refine ⟨y, rfl, hy.trans hxm, ⟨?_, ?_⟩, zae (K3.trans0 k4) k5 (by have := k_w1.size; omega)⟩
  ·rw [hyb]; exact zat (zaA oy1 k5 hb2)
  ·rw [hyf]; exact zat (zaA oy2 k5 hb2)
end
section
variable {w : World}
theorem zjk (l : List Ml) (m : Ml) (id : Int) : inL (l ++ [m]) id = if id ∈ m.boxes then inL l id ++ [m.id] else inL l id := by
 unfold inL
 rw [List.filter_append, List.map_append]
 by_cases h : id ∈ m.boxes
 ·rw [if_pos h, List.filter_cons_of_pos (by simpa using h)]; rfl
 ·rw [if_neg h, List.filter_cons_of_neg (by simpa using h)]; simp
theorem zoG {K : Value → World → Prop} {B : Nat} {v : Value} {l : List Int} {cs : Array Bool} (h : OwnI w B v l) (hB : B ≤ w.heap.size) (z : Int) (hl : l.length ≤ 1000000000)
  (k : ∀ v' w', OwnI w' B v' (l ++ [z]) → Kp w w' (own_ v) → K v' w') :
  RunN Tryz.prog (builtin .append #[25, 25] 25 cs [v, .slice (some ⟨w.heap.size, 0, none⟩) 1 1].toArray) (w.alloc (.cells #[.int .i64 z] 3)) K := by
 refine RunN.app Tryz.underlying25 infoI rfl (by decide) (zaf h ((Kp.refl _ _).alloc _)) (Nat.le_trans hB ((Kp.refl w n_).alloc _).size) ⟨w.heap.size, 0, none⟩ 1 1 [.int .i64 z] rfl (zfl _ _ _) (by simp [Value.oneCell']) (by omega) (by omega) fun v' w' h2 h3 => k v' w' ?_ ?_
 ·unfold OwnI
  rw [List.length_append, List.flatMap_append]
  simpa using h2
 ·have k1 : Kp w (w.alloc (.cells #[.int .i64 z] 3)) n_ := (Kp.refl _ _).alloc _
  exact ⟨h3.os.trans k1.os, h3.tape.trans k1.tape, h3.output.trans k1.output, Nat.le_trans k1.size h3.size, fun i hi hn => (h3.block i (Nat.lt_of_lt_of_le hi k1.size) (fun e => hn e.symm)).trans (k1.block i hi id)⟩
theorem ac_In {h : Hd} {A : Acc} (id : Int) (ha : RowM w h.M.v A.mails) (hl : A.mails.length ≤ 1000000) (hs : ∀ m ∈ A.mails, m.boxes.length ≤ 1000000) : Calls Tryz.prog 17 #[.agg (accC h A).toArray, .int .i64 id] w fun e w' => ∃ v, e = .returned v ∧ OwnI w' w.heap.size v (inL A.mails id) ∧ Kp w w' n_ := by
 obtain ⟨lx, hm, hr, hx⟩ := ha
 have hlx : lx.length = A.mails.length := by rw [← hm, List.length_map]
 refine zaa (args := [.agg (accC h A).toArray, .int .i64 id]) Tryz.func17 rfl NL ?_; refine GW ?_
 obtain ⟨a_b1, v_b1, k_w1, z_w1, r_w1⟩ := new5 w 36 (accC h A)
 generalize w.alloc (.cells (List.toArray (accC h A)) 36) = w1 at *
 generalize hs_b1 : w.heap.size = b1 at *
 have hn := RowO.len hr
 obtain ⟨a, cap, he, hrr⟩ := hr
 have aa := a_b1
 unfold accC at aa
 rw [hn] at aa
 refine KGO ?_
 refine Loop.intro (ι := Nat × Value) (fun p => [(1, .int .i64 id), (5, p.2), (9, .slice h.M.a lx.length h.M.c), (10, .int .i64 (lx.length : Nat)), (11, .int .i64 (p.1 : Nat))])
  (fun p wr => Kp w wr n_ ∧ p.1 ≤ lx.length ∧ OwnI wr w.heap.size p.2 (inL (A.mails.take p.1) id)) (fun p => lx.length - p.1) (0, .slice none 0 0) ⟨rfl, rfl, rfl, rfl, rfl, trivial⟩ ⟨k_w1, Nat.zero_le _, World.ownsRow_nil _ _ _ _⟩ ?_
 rintro ⟨i, v⟩ gg wr ⟨hK, hi, ho⟩
 dsimp only at hi ho ⊢
 obtain ⟨va, vc, rfl⟩ := zab ho
 refine GW ?_
 by_cases hlt : i < lx.length
 ·have hlt2 : i < A.mails.length := by omega
  obtain ⟨gb, o, hax, hgb, hat⟩ := hrr (by omega)
  have hra : h.M.a = some ⟨gb, o, none⟩ := by injection he with he; rw [he, hax]
  rw [hra]
  have hxm : lx[i].m = A.mails[i] := by simp [← hm]
  have hmo := (hx lx[i] (List.getElem_mem hlt)).keep hK
  have hsi := hs A.mails[i] (List.getElem_mem hlt2)
  have htk := List.take_succ_eq_append_getElem hlt2
  have hsn := zjk (A.mails.take i) A.mails[i] id
  rw [← htk] at hsn
  refine KGO ?_
  generalize lx[i] = x at *
  refine Store.fresh (vs := mrC x) (by rfl) rfl (zan (by rfl)) ?_
  obtain ⟨a_b7, k_w4, z_w4⟩ := new3 wr 42 (mrC x)
  generalize wr.alloc (.cells (List.toArray (mrC x)) 42) = w4 at *
  generalize hs_b7 : wr.heap.size = b7 at *
  have K4 := hK.trans0 k_w4
  have ho4 := zaf ho k_w4
  refine KGO ?_
  refine CallS.of (Tryz.call45 _ _) (cn_I (w := w4) x.m.boxes id (hmo.b.keep k_w4) (by rw [hxm]; omega)) ?_
  rintro e w5 ⟨rfl, k5⟩
  have K5 := K4.trans0 k5
  have ho5 := zaf ho4 k5
  have a7 := zac a_b7 k5
  refine RT ?_
  rw [← hxm] at hsn
  by_cases hin : id ∈ x.m.boxes
  ·rw [decide_eq_true hin]
   rw [if_pos hin] at hsn
   refine KGO ?_
   refine RunV.of (zmH _ _) ?_
   refine KGO ?_
   refine zoG ho5 K5.size x.m.id (by
    have : (inL (A.mails.take i) id).length ≤ i := by
     unfold inL
     rw [List.length_map]
     refine Nat.le_trans (List.length_filter_le _ _) ?_
     rw [List.length_take]; omega
    omega) fun v' w' o' k' => ?_
   obtain ⟨va', vc', rfl⟩ := zab o'
   refine KGO ?_
   exact ⟨(i + 1, _), ⟨rfl, rfl, rfl, rfl, v_int (by simp), trivial⟩, ⟨zaq ho5 k' w K5 (Nat.le_refl _), by dsimp only; omega, by dsimp only; rw [hsn]; exact o'⟩, by dsimp only; omega⟩
  ·rw [decide_eq_false hin]
   rw [if_neg hin] at hsn
   refine KGO ?_
   exact ⟨(i + 1, _), ⟨rfl, rfl, rfl, rfl, v_int (by simp), trivial⟩, ⟨K5, by dsimp only; omega, by dsimp only; rw [hsn]; exact ho5⟩, by dsimp only; omega⟩
 ·have ht : A.mails.take i = A.mails := List.take_of_length_le (by omega)
  rw [ht] at ho ⊢
  refine KGO ?_
  exact ⟨_, rfl, hs_b1 ▸ ho, hK⟩
end
def Mr.bs (x : Mr) : List Nat := x.b.v.ownBlock.toList ++ x.f.v.ownBlock.toList
def Hd.bs (h : Hd) : List Nat := h.B.v.ownBlock.toList ++ h.S.v.ownBlock.toList ++ h.N.v.ownBlock.toList ++ h.M.v.ownBlock.toList
structure AccO (w : World) (B : Nat) (h : Hd) (lx : List Mr) (A : Acc) : Prop where
 b : OwnB w B h.B.v A.boxes
 s : OwnSrc w B h.S.v A.scripts
 n : OwnSn w B h.N.v A.seen
 m : OwnMl w B h.M.v lx
 ml : lx.map (·.m) = A.mails
 mb : ∀ x ∈ lx, OwnI w B x.b.v x.m.boxes ∧ OwnT w B x.f.v x.m.flags
 nd : (h.bs ++ lx.flatMap Mr.bs).Nodup
theorem zjC {l : List Nat} {o : Option Nat} {s s' : Nat} (h : l.Nodup ∧ ∀ k ∈ l, k < s) (ho : ∀ k, o = some k → s ≤ k ∧ k < s') (hs : s ≤ s') : (l ++ o.toList).Nodup ∧ ∀ k ∈ l ++ o.toList, k < s' := by
 cases o with
 | none => simpa using ⟨h.1, fun k hk => Nat.lt_of_lt_of_le (h.2 k hk) hs⟩
 | some b =>
  have hb := ho b rfl
  refine ⟨?_, fun k hk => ?_⟩
  ·rw [Option.toList_some, List.nodup_append]
   refine ⟨h.1, by simp, fun x hx y hy => ?_⟩
   have := h.2 x hx
   rw [List.mem_singleton.1 hy]
   omega
  ·rcases List.mem_append.1 hk with hk | hk
   ·have := h.2 k hk; omega
   ·have : k = b := by simpa using hk
    omega
theorem zpL {l m : List Nat} {s s' : Nat} (h : l.Nodup ∧ ∀ k ∈ l, k < s) (hm : m.Nodup ∧ ∀ k ∈ m, s ≤ k ∧ k < s') (hs : s ≤ s') : (l ++ m).Nodup ∧ ∀ k ∈ l ++ m, k < s' := by
 refine ⟨?_, fun k hk => ?_⟩
 ·rw [List.nodup_append]
  exact ⟨h.1, hm.1, fun x hx y hy => by have := h.2 x hx; have := (hm.2 y hy).1; omega⟩
 ·rcases List.mem_append.1 hk with hk | hk
  ·have := h.2 k hk; omega
  ·exact (hm.2 k hk).2
theorem bs_nd {y : Mr} {P : Nat → Prop} (ap : Apart y.b.v y.f.v) (hb : ∀ k, y.b.v.ownBlock = some k → P k) (hf : ∀ k, y.f.v.ownBlock = some k → P k) : y.bs.Nodup ∧ ∀ k ∈ y.bs, P k := by
 unfold Mr.bs
 have one : ∀ o : Option Nat, o.toList.Nodup := fun o => by cases o <;> simp
 have mem : ∀ (o : Option Nat) (k : Nat), k ∈ o.toList ↔ o = some k := fun o k => by cases o <;> simp [eq_comm]
 refine ⟨?_, fun k hk => ?_⟩
 ·rw [List.nodup_append]
  refine ⟨one _, one _, fun a ha b hb2 e => ?_⟩
  subst e
  exact ap a ((mem _ _).1 ha) ((mem _ _).1 hb2)
 ·rcases List.mem_append.1 hk with hk | hk
  ·exact hb k ((mem _ _).1 hk)
  ·exact hf k ((mem _ _).1 hk)
theorem zeZ {w w' : World} {B s n : Nat} {e : TypeId} {v : Value} {xs : List Value} (h : w.ownsRow B e s v n xs) (k : Kp w w' n_) : ∀ g, v.ownBlock = some g → B ≤ g ∧ g < w'.heap.size := fun g hg => by
 have := h.lt g hg
 have := k.size
 omega
theorem AccO.read {w : World} {B : Nat} {h : Hd} {lx : List Mr} {A : Acc} (o : AccO w B h lx A) : AccR w h A :=
 ⟨zat o.b, ⟨lx, o.ml, zat o.m, fun x hx => ⟨zat (o.mb x hx).1, zat (o.mb x hx).2⟩⟩, zat o.s, zat o.n⟩
theorem AccO.keep {w w' : World} {B : Nat} {h : Hd} {lx : List Mr} {A : Acc} (o : AccO w B h lx A) (k : Kp w w' n_) : AccO w' B h lx A :=
 ⟨zaf o.b k, zaf o.s k, zaf o.n k, zaf o.m k, o.ml, fun x hx => ⟨zaf (o.mb x hx).1 k, zaf (o.mb x hx).2 k⟩, o.nd⟩
abbrev zAcc : List Value := [.slice none 0 0, .slice none 0 0, .slice none 0 0, .string ⟨#[]⟩, .slice none 0 0, .int .i64 0, .int .i64 0, .int .i64 0]
section
variable {w : World}
theorem zek {h : Hd} {A : Acc} (ha : AccR w h A) (hf : Fit A) : Calls Tryz.prog 39 #[.agg (accC h A).toArray] w fun e w' => ∃ h' lx, e = .returned (.agg (accC h' A).toArray) ∧ AccO w' w.heap.size h' lx A ∧ Kp w w' n_ := by
 obtain ⟨lx, hm, hr, hx⟩ := ha.m
 have hlx : lx.length = A.mails.length := by rw [← hm, List.length_map]
 have f1 := hf.bl
 have f2 := hf.ml
 have f3 := hf.sl
 have f4 := hf.nl
 have fm := hf.mb
 clear hf
 refine zaa (args := [.agg (accC h A).toArray]) Tryz.func39 rfl NL ?_; refine GW ?_
 obtain ⟨a_b1, v_b1, k_w1, z_w1, r_w1⟩ := new5 w 36 (accC h A)
 generalize w.alloc (.cells (List.toArray (accC h A)) 36) = w1 at *
 generalize hs_b1 : w.heap.size = b1 at *
 obtain ⟨a_b2, v_b2, k_w2, z_w2, r_w2⟩ := new5 w1 36 (zAcc)
 generalize w1.alloc (.cells (List.toArray (zAcc)) 36) = w2 at *
 generalize hs_b2 : w1.heap.size = b2 at *
 have K2 := k_w1.trans0 k_w2
 have a1 := zac a_b1 k_w2
 refine Draw.heldTail 12 (fun u => Kp w2 u n_) (fun _ => true) (by decide +kernel) (by decide +kernel) (Kp.refl _ _).drew ?_
 refine GW ?_
 refine KGO ?_
 refine CallS.of (Tryz.call70 _ _) (zdn (w := w2.drew) A.boxes (ha.b.keep K2.drew) (by omega)) ?_
 rintro e w3 ⟨v3, rfl, o3, k3⟩
 obtain ⟨a3, c3, rfl⟩ := zab o3
 have J3 : Kp w2 w3 n_ := (Kp.refl w2 n_).drew.trans0 k3
 refine RT ?_
 refine ⟨J3, ?_⟩
 refine KGO ?_
 refine CallS.of (Tryz.call91 _ _) (zpN (w := w3) A.scripts (ha.s.keep (K2.trans0 J3)) (by omega)) ?_
 rintro e w4 ⟨v4, rfl, o4, k4⟩
 obtain ⟨a4, c4, rfl⟩ := zab o4
 have J4 := J3.trans0 k4
 refine RT ?_
 refine ⟨J4, ?_⟩
 refine KGO ?_
 refine CallS.of (Tryz.call92 _ _) (cl_Sn (w := w4) A.seen (ha.n.keep (K2.trans0 J4)) (by omega)) ?_
 rintro e w5 ⟨v5, rfl, o5, k5⟩
 obtain ⟨a5, c5, rfl⟩ := zab o5
 have J5 := J4.trans0 k5
 refine RT ?_
 refine ⟨J5, ?_⟩
 refine KGO ?_
 refine CallS.of (Tryz.call93 _ _) (cl_Ml (w := w5) lx (hr.keep (K2.trans0 J5)) (by omega)) ?_
 rintro e w6 ⟨v6, rfl, o6, k6⟩
 obtain ⟨a6, c6, rfl⟩ := zab o6
 have J6 := J5.trans0 k6
 have vb := v_b1.keep0 (k_w2.trans0 J6)
 have vr := v_b2.keep0 J6
 refine RT ?_
 refine ⟨J6, ?_⟩
 have zd : w2.drew.heap.size = w2.heap.size := rfl
 have z3 := k3.size
 have z4 := k4.size
 have z5 := k5.size
 have z6 := k6.size
 have n0 : ([] : List Nat).Nodup ∧ ∀ k ∈ ([] : List Nat), k < w2.drew.heap.size := by simp
 have n1 := zjC n0 (zeZ o3 (Kp.refl w3 n_)) z3
 have n2 := zjC n1 (zeZ o4 (Kp.refl w4 n_)) z4
 have n3 := zjC n2 (zeZ o5 (Kp.refl w5 n_)) z5
 have n4 := zjC n3 (zeZ o6 (Kp.refl w6 n_)) z6
 have apB := zcl (zaf o3 (k4.trans0 k5)) o6 (Nat.le_refl _)
 have apS := zcl (zaf o4 k5) o6 (Nat.le_refl _)
 have apN := zcl o5 o6 (Nat.le_refl _)
 have o3 := zaf o3 ((k4.trans0 k5).trans0 k6)
 have o4 := zaf o4 (k5.trans0 k6)
 have o5 := zaf o5 k6
 have hbM : ∀ g, (Value.slice a6 lx.length c6).ownBlock = some g → w5.heap.size ≤ g ∧ g < w6.heap.size := zeZ o6 (Kp.refl w6 n_)
 have bl1 : b1 < w2.drew.heap.size := by omega
 have bl2 : b2 < w2.drew.heap.size := by omega
 refine KGO ?_
 refine SCK 0 vb fun w7 vb k7 => ?_
 refine KGO ?_
 refine SCK 2 vb fun w8 vb k8 => ?_
 refine KGO ?_
 refine SCK 4 vb fun w9 vb k9 => ?_
 refine KGO ?_
 refine SCK 1 vb fun w10 vb k10 => ?_
 have vb : VarK w10 b1 36 [.slice a3 A.boxes.length c3, .slice a6 lx.length c6, .slice a4 A.scripts.length c4, .string (str A.active), .slice a5 A.seen.length c5, .int .i64 A.nm, .int .i64 A.nb, .int .i64 A.st] := vb
 have k710 := ((k7.trans' k8).trans' k9).trans' k10
 clear k7 k8 k9 k10
 have K10 : Kp w w10 n_ := zae (K2.trans0 J6) k710 (by omega)
 have vr := vr.keep k710 (fun e => by have e : b2 = b1 := e; omega)
 have o3 := zaA o3 k710 bl1
 have o4 := zaA o4 k710 (by omega)
 have o5 := zaA o5 k710 (by omega)
 have o6 := zaA o6 k710 (by omega)
 have z10 := k710.size
 have hat := vb.at
 refine KGO ?_
 refine Loop.intro (ι := Nat × List Mr) (fun p => [(1, .pointer (some ⟨b1, 0, none⟩)), (2, .pointer (some ⟨b2, 0, none⟩)), (22, .slice a6 lx.length c6), (23, .int .i64 (lx.length : Nat)), (24, .int .i64 (p.1 : Nat))])
  (fun p wr => Kp w wr n_ ∧ p.1 ≤ lx.length ∧ p.2.length = p.1 ∧ p.2.map (·.m) = (lx.take p.1).map (·.m) ∧ wr.ownsRow w5.heap.size 42 38 (.slice a6 lx.length c6) lx.length ((p.2 ++ lx.drop p.1).flatMap mrC) ∧
   (∀ y ∈ p.2, OwnI wr w6.heap.size y.b.v y.m.boxes ∧ OwnT wr w6.heap.size y.f.v y.m.flags) ∧
   ((([] ++ (Value.slice a3 A.boxes.length c3).ownBlock.toList ++ (Value.slice a4 A.scripts.length c4).ownBlock.toList ++ (Value.slice a5 A.seen.length c5).ownBlock.toList ++ (Value.slice a6 lx.length c6).ownBlock.toList) ++ p.2.flatMap Mr.bs).Nodup ∧
    ∀ k ∈ ([] ++ (Value.slice a3 A.boxes.length c3).ownBlock.toList ++ (Value.slice a4 A.scripts.length c4).ownBlock.toList ++ (Value.slice a5 A.seen.length c5).ownBlock.toList ++ (Value.slice a6 lx.length c6).ownBlock.toList) ++ p.2.flatMap Mr.bs, k < wr.heap.size) ∧
   VarK wr b1 36 [.slice a3 A.boxes.length c3, .slice a6 lx.length c6, .slice a4 A.scripts.length c4, .string (str A.active), .slice a5 A.seen.length c5, .int .i64 A.nm, .int .i64 A.nb, .int .i64 A.st] ∧ VarK wr b2 36 zAcc ∧
   OwnB wr w2.drew.heap.size (.slice a3 A.boxes.length c3) A.boxes ∧ OwnSrc wr w3.heap.size (.slice a4 A.scripts.length c4) A.scripts ∧ OwnSn wr w4.heap.size (.slice a5 A.seen.length c5) A.seen ∧ w6.heap.size ≤ wr.heap.size)
  (fun p => lx.length - p.1) (0, []) ⟨rfl, rfl, rfl, rfl, rfl, trivial⟩ ⟨K10, Nat.zero_le _, rfl, rfl, o6, by simp, ⟨by simpa using n4.1, fun k hk => Nat.lt_of_lt_of_le (n4.2 k (by simpa using hk)) z10⟩, vb, vr, o3, o4, o5, z10⟩ ?_
 clear vb vr o3 o4 o5 o6 hat
 generalize hNL : ([] ++ (Value.slice a3 A.boxes.length c3).ownBlock.toList ++ (Value.slice a4 A.scripts.length c4).ownBlock.toList ++ (Value.slice a5 A.seen.length c5).ownBlock.toList ++ (Value.slice a6 lx.length c6).ownBlock.toList) = NL at *
 rintro ⟨i, ys⟩ gg wr ⟨hK, hi, hyl, hym, o6, hin, hnd, vb, vr, o3, o4, o5, hwr⟩
 dsimp only at hi hyl hym o6 hin hnd ⊢
 have hat := vb.at
 refine GW ?_
 by_cases hlt : i < lx.length
 ·obtain ⟨zs, hz⟩ : ∃ zs, zs = ys ++ lx.drop i := ⟨_, rfl⟩
  have hzl : zs.length = lx.length := by rw [hz, List.length_append, List.length_drop]; omega
  have hzi : zs[i]'(by omega) = lx[i] := by
   subst hz
   rw [List.getElem_append_right (by omega)]
   simp [hyl]
  rw [← hz] at o6
  rcases own_blockK o6 with ⟨h, h0⟩ | ⟨g, cap, cells, he6, hBg, hv, hnc, hcm, hcl, htk⟩
  ·omega
  injection he6 with he6 _ hc6
  subst he6; subst hc6
  have hgl := hv.lt
  have hrow := zcB o6
  have kr := Kp.refl wr n_
  have hmo := (hx lx[i] (List.getElem_mem hlt)).keep hK
  have hsi := fm lx[i].m (by rw [← hm]; exact List.mem_map_of_mem (List.getElem_mem hlt))
  refine KGO ?_
  rw [hzi]
  generalize hxi : lx[i] = x at *
  refine Store.fresh (vs := mrC x) (by rfl) rfl (zan (by rfl)) ?_
  obtain ⟨a_b4, k_w11, z_w11⟩ := new3 wr 42 (mrC x)
  generalize wr.alloc (.cells (List.toArray (mrC x)) 42) = w11 at *
  generalize hs_b4 : wr.heap.size = b4 at *
  have hat1 := zac hat k_w11
  refine KGO ?_
  refine Draw.heldTail 5 (fun u => Kp w11 u n_) (fun _ => true) (by decide +kernel) (by decide +kernel) (Kp.refl _ _).drew ?_
  refine GW ?_
  refine KGO ?_
  refine CallS.of (Tryz.call41 _ _) (zhu (w := w11.drew) x (hmo.keep k_w11.drew) (by have := hsi.1; omega) (by have := hsi.2; omega)) ?_
  rintro e w12 ⟨y, rfl, hy, oy1, oy2, apy, k12⟩
  have J12 : Kp w11 w12 n_ := (Kp.refl w11 n_).drew.trans0 k12
  have J := k_w11.trans0 J12
  have hvz := hv.keep0 J
  refine RT ?_
  refine ⟨J12, ?_⟩
  refine KGO ?_
  have z11 : w11.drew.heap.size = w11.heap.size := rfl
  have zk := k12.size
  refine Store.elemK (l := zs) (k := i) (B := w5.heap.size) (cap := c6) y lenMl (by rfl) (zan (by rfl)) hvz hBg (by omega) hcm hcl (by rw [hzl]; exact htk) (by omega) fun w13 o13 v13 k13 => ?_
  refine KGO ?_
  have hset : zs.set i y = (ys ++ [y]) ++ lx.drop (i + 1) := by
   rw [hz, List.set_append_right _ _ (by omega), hyl, Nat.sub_self, List.drop_eq_getElem_cons hlt, List.set_cons_zero]
   simp
  rw [hset, hzl] at o13
  have hg6 : g < w6.heap.size := (hbM g rfl).2
  have hyb : y.m.boxes = x.m.boxes := by rw [hy]
  have hyf : y.m.flags = x.m.flags := by rw [hy]
  have hsz : w6.heap.size ≤ w11.drew.heap.size := by rw [z11]; have := k_w11.size; omega
  have zk13 := k13.size
  have zw11 := k_w11.size
  have ky := zpL hnd (bs_nd apy (fun k hk => ⟨(by have := (oy1.lt k hk).1; omega), Nat.lt_of_lt_of_le (oy1.lt k hk).2 zk13⟩) (fun k hk => ⟨(by have := (oy2.lt k hk).1; omega), Nat.lt_of_lt_of_le (oy2.lt k hk).2 zk13⟩)) (by omega)
  have hg11 : g < w11.drew.heap.size := by omega
  have Kst : Kp wr w13 (one_ g) := J.of_none.trans' k13
  refine ⟨(i + 1, ys ++ [y]), ⟨rfl, rfl, rfl, rfl, v_int (by simp), trivial⟩, ⟨zae (hK.trans0 J) k13 (by omega), by dsimp only; omega, by dsimp only; rw [List.length_append, hyl]; rfl, ?_, o13, fun z hzm => ?_, ?_, vb.keep Kst (fun e => by have e : b1 = g := e; omega), vr.keep Kst (fun e => by have e : b2 = g := e; omega), zah o3 Kst (fun k hk e => apB k hk (by rw [show k = g from e]; rfl)), zah o4 Kst (fun k hk e => apS k hk (by rw [show k = g from e]; rfl)), zah o5 Kst (fun k hk e => apN k hk (by rw [show k = g from e]; rfl)), by omega⟩, by dsimp only; omega⟩
  ·dsimp only
   rw [List.map_append, List.take_succ_eq_append_getElem hlt, List.map_append, hym, hxi]
   simp [hy]
  ·rcases List.mem_append.1 hzm with hzm | hzm
   ·exact ⟨zaA (zaf (hin z hzm).1 J) k13 hg6, zaA (zaf (hin z hzm).2 J) k13 hg6⟩
   ·rw [List.mem_singleton.1 hzm, hyb, hyf]
    exact ⟨zaj (zaA oy1 k13 hg11) hsz, zaj (zaA oy2 k13 hg11) hsz⟩
  ·dsimp only
   rw [List.flatMap_append, ← List.append_assoc]
   simpa using ky
 ·have ht : lx.drop i = [] := List.drop_eq_nil_of_le (by omega)
  rw [ht, List.append_nil] at o6
  rw [List.take_of_length_le (by omega), hm] at hym
  have kr := Kp.refl wr n_
  refine KGO ?_
  refine SVK (accC ⟨⟨a3, A.boxes.length, c3⟩, ⟨a6, lx.length, c6⟩, ⟨a4, A.scripts.length, c4⟩, ⟨a5, A.seen.length, c5⟩⟩ A) vr fun w11 vr k11 => ?_
  have hat := vr.at
  refine KGO ?_
  refine GW ?_
  refine KGO ?_
  refine GW ?_
  have hyn : ys.length = lx.length := by omega
  have b5 : b2 < w5.heap.size := by omega
  refine ⟨⟨⟨a3, A.boxes.length, c3⟩, ⟨a6, lx.length, c6⟩, ⟨a4, A.scripts.length, c4⟩, ⟨a5, A.seen.length, c5⟩⟩, ys, rfl, ⟨zaj (zaA o3 k11 bl2) (by omega), zaj (zaA o4 k11 (by omega)) (by omega), zaj (zaA o5 k11 (by omega)) (by omega), ?_, hym, fun z hz => ⟨zaj (zaA (hin z hz).1 k11 (by omega)) (by omega), zaj (zaA (hin z hz).2 k11 (by omega)) (by omega)⟩, ?_⟩, zae hK k11 (by omega)⟩
  ·unfold OwnMl
   rw [hyn]
   exact zaj (zaA o6 k11 b5) (by omega)
  ·have := hnd.1
   rw [← hNL] at this
   simpa [Hd.bs] using this
end
end Go.Proofs.YtohhkegmbgancaaGreatDoor
namespace Go.Cs
set_option maxHeartbeats 8000000
open Go.Lib
set_option linter.unusedVariables false
def inB : List UInt8 := [105, 110, 98, 111, 120]
def updA : List Ml → Int → (Ml → Ml) → List Ml
 | [], _, _ => []
 | m :: r, id, f => if m.id = id then f m :: r else m :: updA r id f
def delA : List Ml → Int → List Ml
 | [], _ => []
 | m :: r, id => if m.id = id then r else m :: delA r id
def findA (l : List Ml) (id : Int) : Option Ml := l.find? fun m => decide (m.id = id)
def ofA (A : Acc) (o : Opr) : Except Nat Ml := match findA A.mails o.id with
 | none => .error 5
 | some m => if 0 ≤ o.if_ ∧ o.if_ ≠ m.mod then .error 17 else .ok m
def newFlags (m : Ml) (o : Opr) : List (List UInt8) := (sortT (m.flags ++ o.add)).filter fun f => !decide (f ∈ o.drop)
def mailA (A : Acc) (o : Opr) : Except Nat (Acc × Int) :=
 if o.boxes = [] ∨ flagsB o.add = false ∨ ¬ (0 ≤ o.at_ ∧ o.at_ ≤ 1099511627776) ∨ ¬ (0 ≤ o.size ∧ o.size ≤ 65536) then .error 1
 else if thereB A.boxes o.boxes = false then .error 5
 else if 4096 ≤ A.mails.length ∨ 20 < (sortT o.add).length ∨ 1099511627776 ≤ A.nm then .error 3
 else .ok ({ A with mails := A.mails ++ [⟨A.nm, o.blob, sortI o.boxes, sortT o.add, o.at_, o.size, A.st⟩], nm := A.nm + 1 }, A.nm)
def flagA (A : Acc) (o : Opr) : Except Nat (Acc × Int) := match ofA A o with
 | .error c => .error c
 | .ok m => if flagsB o.add = false ∨ flagsB o.drop = false then .error 1
  else if 20 < (newFlags m o).length then .error 3
  else .ok ({ A with mails := updA A.mails o.id fun m => { m with flags := newFlags m o, mod := A.st } }, 0)
def moveA (A : Acc) (o : Opr) : Except Nat (Acc × Int) := match ofA A o with
 | .error c => .error c
 | .ok m => if o.boxes = [] then .error 1
  else if thereB A.boxes o.boxes = false then .error 5
  else .ok ({ A with mails := updA A.mails o.id fun m => { m with boxes := sortI o.boxes, mod := A.st } }, 0)
def destroyA (A : Acc) (o : Opr) : Except Nat (Acc × Int) := match ofA A o with
 | .error c => .error c
 | .ok m => .ok ({ A with mails := delA A.mails o.id }, 0)
def addA (A : Acc) (o : Opr) : Except Nat (Acc × Int) :=
 if 1099511627776 ≤ A.nb then .error 3
 else if (addL A.boxes o.up o.name o.role A.nb).2 ≠ 0 then .error (addL A.boxes o.up o.name o.role A.nb).2
 else .ok ({ A with boxes := (addL A.boxes o.up o.name o.role A.nb).1, nb := A.nb + 1 }, A.nb)
def boxesA (A : Acc) (r : List Bx × Nat) : Except Nat (Acc × Int) := if r.2 ≠ 0 then .error r.2 else .ok ({ A with boxes := r.1 }, 0)
def nameA (A : Acc) (o : Opr) : Except Nat (Acc × Int) := boxesA A (nameL A.boxes o.box o.name)
def hangA (A : Acc) (o : Opr) : Except Nat (Acc × Int) := boxesA A (moveL A.boxes o.box o.up)
def outOf (st box : Int) (m : Ml) : Ml := if box ∈ m.boxes then { m with boxes := m.boxes.erase box, mod := st } else m
def dropA (A : Acc) (o : Opr) : Except Nat (Acc × Int) :=
 if (dropL A.boxes o.box).2 ≠ 0 then .error (dropL A.boxes o.box).2
 else if (A.boxes.any fun b => decide (b.id = o.box ∧ b.role = inB)) = true then .error 20
 else if (A.mails.any fun m => decide (m.boxes = [o.box])) = true then .error 20
 else .ok ({ A with boxes := (dropL A.boxes o.box).1, mails := A.mails.map (outOf A.st o.box) }, 0)
def hasS (l : List Sc) (nm : List UInt8) : Bool := l.any fun s => decide (s.name = nm)
def idxS (l : List Sc) (nm : List UInt8) : Nat := (l.takeWhile fun s => ltT s.name nm).length
def AscS (l : List Sc) : Prop := l.Pairwise fun a b => ltT a.name b.name = true
def setA (A : Acc) (o : Opr) : Except Nat (Acc × Int) :=
 if scB o.name = false then .error 1
 else if 32768 < o.text.length then .error 16
 else if hasS A.scripts o.name = true then .ok ({ A with scripts := A.scripts.set (idxS A.scripts o.name) ⟨o.name, o.text⟩ }, 0)
 else if 16 ≤ A.scripts.length then .error 3
 else .ok ({ A with scripts := A.scripts.take (idxS A.scripts o.name) ++ ⟨o.name, o.text⟩ :: A.scripts.drop (idxS A.scripts o.name) }, 0)
def unsetA (A : Acc) (o : Opr) : Except Nat (Acc × Int) :=
 if hasS A.scripts o.name = false then .error 5
 else if A.active = o.name then .error 20
 else .ok ({ A with scripts := A.scripts.take (idxS A.scripts o.name) ++ A.scripts.drop (idxS A.scripts o.name + 1) }, 0)
def chooseA (A : Acc) (o : Opr) : Except Nat (Acc × Int) :=
 if hasS A.scripts o.name = false ∧ o.name ≠ [] then .error 5 else .ok ({ A with active := o.name }, 0)
def seenA (l : List Sn) (o : Opr) : List Sn := (l.filter fun s => !decide (s.key = o.name)) ++ [⟨o.name, o.at_⟩]
def answerA (A : Acc) (o : Opr) : Except Nat (Acc × Int) :=
 if 1000 < o.name.length ∨ ¬ (0 ≤ o.at_ ∧ o.at_ ≤ 1099511627776) then .error 1
 else .ok ({ A with seen := (seenA A.seen o).drop ((seenA A.seen o).length - 256) }, 0)
def oneA (A : Acc) (o : Opr) : Except Nat (Acc × Int) :=
 if o.kind = 1 then mailA A o else if o.kind = 2 then flagA A o else if o.kind = 3 then moveA A o else if o.kind = 4 then destroyA A o
 else if o.kind = 5 then addA A o else if o.kind = 6 then nameA A o else if o.kind = 7 then hangA A o else if o.kind = 8 then dropA A o
 else if o.kind = 9 then setA A o else if o.kind = 10 then unsetA A o else if o.kind = 11 then chooseA A o else if o.kind = 12 then answerA A o else .error 1
def nextA (A : Acc) : Acc := { A with st := A.st + 1 }
def applyA (A : Acc) (o : Opr) : Acc × Int × Nat := match oneA (nextA A) o with
 | .error c => (A, 0, c)
 | .ok r => if 1099511627776 < r.1.st then (A, 0, 3) else (r.1, r.2, 0)
theorem zgC (f : Ml → Ml) (id : Int) : ∀ (l : List Ml) (i : Nat) (h : i < l.length), l[i].id = id → (∀ j (hj : j < i), (l[j]'(by omega)).id ≠ id) → updA l id f = l.set i (f l[i])
 | [], i, h, _, _ => by simp at h
 | m :: r, 0, h, he, _ => by
  have he : m.id = id := he
  rw [updA, if_pos he]; rfl
 | m :: r, i + 1, h, he, hn => by
  have h0 : m.id ≠ id := hn 0 (by omega)
  rw [updA, if_neg h0, zgC f id r i (by simpa using h) he fun j hj => hn (j + 1) (by omega)]
  rfl
theorem zer (id : Int) : ∀ (l : List Ml) (i : Nat) (h : i < l.length), l[i].id = id → (∀ j (hj : j < i), (l[j]'(by omega)).id ≠ id) → delA l id = l.take i ++ l.drop (i + 1)
 | [], i, h, _, _ => by simp at h
 | m :: r, 0, h, he, _ => by
  have he : m.id = id := he
  rw [delA, if_pos he]; rfl
 | m :: r, i + 1, h, he, hn => by
  have h0 : m.id ≠ id := hn 0 (by omega)
  rw [delA, if_neg h0, zer id r i (by simpa using h) he fun j hj => hn (j + 1) (by omega)]
  rfl
abbrev Ne0 (x : Except Nat (Acc × Int)) : Prop := x ≠ .error 0
theorem zaP {c : Prop} [Decidable c] {x y : Except Nat (Acc × Int)} (hx : Ne0 x) (hy : Ne0 y) : Ne0 (if c then x else y) := by
 by_cases h : c
 ·rw [if_pos h]; exact hx
 ·rw [if_neg h]; exact hy
theorem zbs (n : Nat) : Ne0 (.error (n + 1)) := fun h => by injection h with h; omega
theorem ok_n0 (r : Acc × Int) : Ne0 (.ok r) := fun h => by injection h
theorem ofA_e {A : Acc} {o : Opr} {c : Nat} (h : ofA A o = .error c) : c = 5 ∨ c = 17 := by
 unfold ofA at h
 split at h
 ·injection h with h; exact .inl h.symm
 ·split at h
  ·injection h with h; exact .inr h.symm
  ·cases h
theorem of_n0 {A : Acc} {o : Opr} {f : Ml → Except Nat (Acc × Int)} (hf : ∀ m, Ne0 (f m)) : Ne0 (match ofA A o with | .error c => .error c | .ok m => f m) := by
 cases h : ofA A o with
 | error c =>
  intro e
  injection e with e
  have := ofA_e h
  omega
 | ok m => exact hf m
theorem zjo (A : Acc) (r : List Bx × Nat) : Ne0 (boxesA A r) := by
 unfold boxesA
 by_cases h : r.2 ≠ 0
 ·rw [if_pos h]; intro e; injection e with e; exact h e
 ·rw [if_neg h]; exact ok_n0 _
theorem zoL (A : Acc) (o : Opr) : Ne0 (mailA A o) := zaP (zbs 0) (zaP (zbs 4) (zaP (zbs 2) (ok_n0 _)))
theorem zoZ (A : Acc) (o : Opr) : Ne0 (flagA A o) := of_n0 fun _ => zaP (zbs 0) (zaP (zbs 2) (ok_n0 _))
theorem zoc (A : Acc) (o : Opr) : Ne0 (moveA A o) := of_n0 fun _ => zaP (zbs 0) (zaP (zbs 4) (ok_n0 _))
theorem zjR (A : Acc) (o : Opr) : Ne0 (destroyA A o) := of_n0 fun _ => ok_n0 _
theorem zpk (A : Acc) (o : Opr) : Ne0 (addA A o) := zaP (zbs 2) (by
 by_cases h : (addL A.boxes o.up o.name o.role A.nb).2 ≠ 0
 ·rw [if_pos h]; intro e; injection e with e; exact h e
 ·rw [if_neg h]; exact ok_n0 _)
theorem zoq (A : Acc) (o : Opr) : Ne0 (dropA A o) := by
 unfold dropA
 by_cases h : (dropL A.boxes o.box).2 ≠ 0
 ·rw [if_pos h]; intro e; injection e with e; exact h e
 ·rw [if_neg h]; exact zaP (zbs 19) (zaP (zbs 19) (ok_n0 _))
theorem zpi (A : Acc) (o : Opr) : Ne0 (setA A o) := zaP (zbs 0) (zaP (zbs 15) (zaP (ok_n0 _) (zaP (zbs 2) (ok_n0 _))))
theorem zmB (A : Acc) (o : Opr) : Ne0 (unsetA A o) := zaP (zbs 4) (zaP (zbs 19) (ok_n0 _))
theorem zkH (A : Acc) (o : Opr) : Ne0 (chooseA A o) := zaP (zbs 4) (ok_n0 _)
theorem zkR (A : Acc) (o : Opr) : Ne0 (answerA A o) := zaP (zbs 0) (ok_n0 _)
theorem zpU (A : Acc) (o : Opr) : Ne0 (oneA A o) := by
 unfold oneA
 exact zaP (zoL A o) (zaP (zoZ A o) (zaP (zoc A o) (zaP (zjR A o) (zaP (zpk A o) (zaP (zjo _ _) (zaP (zjo _ _) (zaP (zoq A o) (zaP (zpi A o) (zaP (zmB A o) (zaP (zkH A o) (zaP (zkR A o) (zbs 0))))))))))))
theorem zlV {A : Acc} {o : Opr} {c : Nat} (h : oneA A o = .error c) : c ≠ 0 := fun e => zpU A o (by rw [h, e])
def risesB {α : Type} (lt : α → α → Bool) : List α → Bool
 | a :: b :: r => lt a b && risesB lt (b :: r)
 | _ => true
theorem zaY {α : Type} (lt : α → α → Bool) : ∀ l : List α, risesB lt l = true ↔ ∀ i (h : i + 1 < l.length), lt (l[i]'(by omega)) l[i + 1] = true
 | [] => by simp [risesB]
 | [a] => by simp [risesB]
 | a :: b :: r => by
  rw [risesB, Bool.and_eq_true, zaY lt (b :: r)]
  constructor
  ·rintro ⟨h1, h2⟩ i hi
   cases i with
   | zero => exact h1
   | succ i => exact h2 i (by simpa using hi)
  ·intro h
   exact ⟨h 0 (by simp), fun i hi => h (i + 1) (by simpa using hi)⟩
theorem zge {α β : Type} (lt : β → β → Bool) (f : α → β) (l : List α) : risesB (fun x y => lt (f x) (f y)) l = risesB lt (l.map f) := by
 rw [Bool.eq_iff_iff, zaY, zaY]
 simp
theorem zcf {α : Type} {lt : α → α → Bool} (tr : ∀ a b c, lt a b = true → lt b c = true → lt a c = true) : ∀ {l : List α}, risesB lt l = true ↔ l.Pairwise fun a b => lt a b = true
 | [] => by simp [risesB]
 | [a] => by simp [risesB]
 | a :: b :: r => by
  rw [risesB, Bool.and_eq_true, zcf tr (l := b :: r), List.pairwise_cons (a := a)]
  constructor
  ·rintro ⟨h1, h2⟩
   refine ⟨fun x hx => ?_, h2⟩
   rcases List.mem_cons.1 hx with rfl | hx
   ·exact h1
   ·exact tr _ _ _ h1 ((List.pairwise_cons.1 h2).1 x hx)
  ·rintro ⟨h1, h2⟩
   exact ⟨h1 b (by simp), h2⟩
def inR (n lo hi : Int) : Bool := decide (lo ≤ n ∧ n ≤ hi)
def fitM (A : Acc) (m : Ml) : Bool := inR m.id 1 (A.nm - 1) && (decide (0 < m.boxes.length) && (risesB ltI m.boxes && (thereB A.boxes m.boxes && (decide (m.flags.length ≤ 20) && (risesB ltT m.flags && (flagsB m.flags && (inR m.at_ 0 1099511627776 && (inR m.size 0 65536 && inR m.mod 0 A.st))))))))
def keysB : List (List UInt8) → List Sn → Bool
 | _, [] => true
 | ks, s :: r => decide (s.key.length ≤ 1000) && (inR s.at_ 0 1099511627776 && (!decide (s.key ∈ ks) && keysB (ks ++ [s.key]) r))
def lastB (A : Acc) : Bool := match A.boxes.getLast? with | none => true | some b => decide (b.id < A.nb)
def srcB (s : Sc) : Bool := scB s.name && decide (s.text.length ≤ 32768)
def headB (A : Acc) : Bool := inR A.nm 1 1099511627776 && (inR A.nb 1 1099511627776 && (inR A.st 0 1099511627776 && (rightL A.boxes && (decide (A.mails.length ≤ 4096) && (decide (A.scripts.length ≤ 16) && decide (A.seen.length ≤ 256))))))
def idB (x y : Ml) : Bool := decide (x.id < y.id)
def nameB (x y : Sc) : Bool := ltT x.name y.name
def rightA (A : Acc) : Bool := headB A && (lastB A && (risesB idB A.mails && (risesB nameB A.scripts && (A.mails.all (fitM A) && (A.scripts.all srcB && (keysB [] A.seen && (decide (A.active = []) || hasS A.scripts A.active)))))))
end Go.Cs
