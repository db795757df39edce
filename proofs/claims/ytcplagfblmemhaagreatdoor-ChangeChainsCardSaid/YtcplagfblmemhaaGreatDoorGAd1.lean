/- Helper text of this claim: lemmas and contracts that the proved statement rests on; no conditions of its own. -/
import Derived.Test.YtcplagfblmemhaaGreatDoorGBl1
namespace Go.Proofs.YtcplagfblmemhaaGreatDoor
set_option linter.unusedVariables false
set_option maxHeartbeats 8000000
open Go.Shelf Go.RowKit Go.Pw Go.Vc Go.Cs Go.Lib
set_option linter.unusedVariables false
set_option maxRecDepth 100000
structure OffM (h : Hd) (lx : List Mr) (g : Nat) : Prop where
 b : ∀ k, h.B.v.ownBlock = some k → k ≠ g
 s : ∀ k, h.S.v.ownBlock = some k → k ≠ g
 n : ∀ k, h.N.v.ownBlock = some k → k ≠ g
 x : ∀ x ∈ lx, (∀ k, x.b.v.ownBlock = some k → k ≠ g) ∧ ∀ k, x.f.v.ownBlock = some k → k ≠ g
theorem AccO.offM {w : World} {B g : Nat} {h : Hd} {lx : List Mr} {A : Acc} (o : AccO w B h lx A) (hg : h.M.v.ownBlock = some g) : OffM h lx g := by
 have nd := o.nd
 unfold Hd.bs at nd
 rw [hg] at nd
 obtain ⟨n1, n2, n3⟩ := List.nodup_append.1 nd
 obtain ⟨m1, m2, m3⟩ := List.nodup_append.1 n1
 have hm : ∀ k, k ∈ h.B.v.ownBlock.toList ++ h.S.v.ownBlock.toList ++ h.N.v.ownBlock.toList → k ≠ g := fun k hk => m3 k hk g (by simp)
 refine ⟨fun k hk => hm k (by rw [List.append_assoc]; exact List.mem_append_left _ (zau.2 hk)), fun k hk => hm k (List.mem_append_left _ (List.mem_append_right _ (zau.2 hk))), fun k hk => hm k (List.mem_append_right _ (zau.2 hk)), fun x hx => ?_⟩
 have hi : ∀ k, k ∈ x.bs → k ≠ g := fun k hk e => n3 g (List.mem_append_right _ (by simp)) k (List.mem_flatMap.2 ⟨x, hx, hk⟩) e.symm
 exact ⟨fun k hk => hi k (List.mem_append_left _ (zau.2 hk)), fun k hk => hi k (List.mem_append_right _ (zau.2 hk))⟩
theorem zck {w w' : World} {B s n g : Nat} {e : TypeId} {v : Value} {xs : List Value} (h : w.ownsRow B e s v n xs) (k : Kp w w' (one_ g)) (hn : ∀ b, v.ownBlock = some b → b ≠ g) : w'.ownsRow B e s v n xs := zad h k fun b hb e => hn b hb e
theorem zms {w w4 w5 : World} {B b g : Nat} {h : Hd} {lx ly : List Mr} {A A' : Acc} (hd : Drf w B b h lx A) (K : Kp w w4 n_) (k : Kp w4 w5 (one_ g)) (hg : h.M.v.ownBlock = some g)
  (o5 : OwnMl w5 B h.M.v ly) (hy : ∀ y ∈ ly, OwnI w5 0 y.b.v y.m.boxes ∧ OwnT w5 0 y.f.v y.m.flags) (hA : A' = { A with mails := ly.map (·.m) }) : ∃ h', VarK w5 b 118 (accC h' A') ∧ AccR w5 h' A' ∧ StabA w5 h' A' := by
 have off := hd.o.offM hg
 have hgb : g < b := hd.lt g (List.mem_append_left _ (List.mem_append_right _ (zau.2 hg)))
 subst hA
 have P : AccP w5 h ly { A with mails := ly.map (·.m) } := ⟨zaj (zck (zab hd.o.b K) k off.b) (Nat.zero_le _), zaj (zck (zab hd.o.s K) k off.s) (Nat.zero_le _), zaj (zck (zab hd.o.n K) k off.n) (Nat.zero_le _), zaj o5 (Nat.zero_le _), rfl, hy⟩
 exact ⟨h, (hd.v.keep0 K).keep k fun e => by have e : b = g := e; omega, P.read, P.stab⟩
theorem zlM {w w4 w5 : World} {B g : Nat} {h : Hd} {lx : List Mr} {A : Acc} (o : AccO w B h lx A) (K : Kp w w4 n_) (k : Kp w4 w5 (one_ g)) (hg : h.M.v.ownBlock = some g) : ∀ x ∈ lx, OwnI w5 0 x.b.v x.m.boxes ∧ OwnT w5 0 x.f.v x.m.flags := fun x hx =>
 have off := (o.offM hg).x x hx
 ⟨zaj (zck (zab (o.mb x hx).1 K) k off.1) (Nat.zero_le _), zaj (zck (zab (o.mb x hx).2 K) k off.2) (Nat.zero_le _)⟩
theorem zgs {w w' w5 : World} {B g : Nat} (K : Kp w w' n_) (k : Kp w' w5 (one_ g)) (hB : B ≤ g) : Kp w w5 (from_ B) := K.of_none.trans k fun q _ e => by have e : q = g := e; subst e; exact hB
theorem ziF {A : Acc} {o : Opr} {c : Nat} (h : ofA A o = .error c) : c = 5 ∨ c = 17 := by
 unfold ofA at h
 split at h
 ·injection h with h; exact .inl h.symm
 ·split at h
  ·injection h with h; exact .inr h.symm
  ·cases h
theorem at_of_own' {w : World} {B g : Nat} {s : Sl} {lx : List Mr} (h : OwnMl w B s.v lx) (ha : s.a = some ⟨g, 0, none⟩) : At w g 0 (lx.flatMap mrC) := by
 obtain ⟨a, n, c⟩ := s
 have ha : a = some ⟨g, 0, none⟩ := ha
 subst ha
 obtain ⟨a', c', he⟩ := zac h
 injection he with _ he _
 have he : n = lx.length := he
 subst he
 exact zbF h
theorem zoE {lx : List Mr} {A : Acc} {id : Int} {i : Nat} (hml : lx.map (·.m) = A.mails) (hi : i < lx.length) (hid : lx[i].m.id = id) (hfirst : ∀ j (hj : j < i), (lx[j]'(by omega)).m.id ≠ id) (f : Ml → Ml) {y : Mr} (hy : y.m = f lx[i].m) : updA A.mails id f = (lx.set i y).map (·.m) := by
 have hlen : lx.length = A.mails.length := by rw [← hml, List.length_map]
 have hx : ∀ j (hj : j < lx.length), A.mails[j]'(by omega) = (lx[j]).m := fun j hj => by simp [← hml]
 rw [zlU f id A.mails i (by omega) (by rw [hx i hi]; exact hid) (fun j hj => by rw [hx j (by omega)]; exact hfirst j hj), hx i hi, ← hy, List.map_set, hml]
section
variable {w : World}
theorem zny (s : List UInt8) {v : Ov} {o : Opr} {bp : Nat} (hc : At w bp 0 (opC v o)) (hd : RowT w v.d.v o.drop) (hl : o.drop.length ≤ 8796093022208) : Calls Tryz.prog 98 #[.string (str s), .pointer (some ⟨bp, 0, none⟩)] w fun e w' => e = .returned (.bool (decide (s ∈ o.drop))) ∧ Kp w w' n_ := by
 have kr := Kp.refl w n_
 refine zaa (args := [.string (str s), .pointer (some ⟨bp, 0, none⟩)]) Tryz.func98 rfl NL ?_; refine GW ?_
 refine KGO ?_
 refine CallS.of (Tryz.call83 _ _) (zdS (w := w) o.drop s hd (by omega)) ?_
 rintro e w1 ⟨rfl, k1⟩
 refine RT ?_
 exact ⟨rfl, k1⟩
theorem znl (a b : Sl) (w : World) : (Instr.buildSlice 214 2 [(0, .slice a.a a.n a.c), (1, .slice b.a b.n b.c)].toArray).run Tryz.prog w = .ok (.slice (some ⟨w.heap.size, 0, none⟩) 2 2) (w.alloc (.cells #[.slice a.a a.n a.c, .slice b.a b.n b.c] 58)) := by
 simp [Instr.buildSlice, go_sem, Tryz.runUnderlying214]
theorem zpm {B b : Nat} {h : Hd} {lx : List Mr} {A : Acc} {v : Ov} {o : Opr} (hd : Drf w B b h lx A) (hf : Fit A) (ho : OpR w v o) (fo : FitO o) :
  Calls Tryz.prog 51 #[.pointer (some ⟨b, 0, none⟩), .agg (opC v o).toArray] w fun e w' => Done w' b e (flagA A o) ∧ Kp w w' (from_ B) := by
 have fml := hf.ml
 have foa := fo.a
 have fod := fo.d
 refine zaa (args := [.pointer (some ⟨b, 0, none⟩), .agg (opC v o).toArray]) Tryz.func51 rfl NL ?_; refine GW ?_
 obtain ⟨a_b1, v_b1, k_w1, z_w1, r_w1⟩ := new5 w 72 (opC v o)
 generalize w.alloc (.cells (List.toArray (opC v o)) 72) = w1 at *
 generalize hs_b1 : w.heap.size = b1 at *
 refine KGO ?_
 refine CallS.of (Tryz.call95 _ _) (ac_of (w := w1) (v := v) (o := o) (hd.keep k_w1) hf.ml) ?_
 rintro e w2 ⟨hof, k2⟩
 have K2 := k_w1.trans0 k2
 have a2 := zaf a_b1 k2
 cases hA : ofA A o with
 | error c =>
  rw [hA] at hof
  subst hof
  have hc := ziF hA
  have hres : flagA A o = .error c := by unfold flagA; rw [hA]
  refine RT ?_
  refine KGO ?_
  exact ⟨by rw [hres]; rfl, K2.of_none⟩
 | ok m =>
  rw [hA] at hof
  obtain ⟨i, g, hi, rfl, hma, hxm, hid, hfirst⟩ := hof
  refine RT ?_
  refine KGO ?_
  refine CallS.of (Tryz.call93 _ _) (zhf (w := w2) o.add (ho.a.keep K2) (by omega) fo.fa) ?_
  rintro e w3 ⟨rfl, k3⟩
  have K3 := K2.trans0 k3
  have a3 := zaf a2 k3
  refine RT ?_
  by_cases h1 : flagsB o.add = true
  rotate_left
  ·have h1 : flagsB o.add = false := by simpa using h1
   have hres : flagA A o = .error 1 := by unfold flagA; rw [hA]; dsimp only; rw [if_pos (.inl h1)]
   rw [h1]
   refine KGO ?_
   exact ⟨by rw [hres]; rfl, K3.of_none⟩
  rw [h1]
  have kr3 := Kp.refl w3 n_
  refine KGO ?_
  refine CallS.of (Tryz.call93 _ _) (zhf (w := w3) o.drop (ho.d.keep K3) (by omega) fo.fd) ?_
  rintro e w4 ⟨rfl, k4⟩
  have K4 := K3.trans0 k4
  have a4 := zaf a3 k4
  refine RT ?_
  by_cases h2 : flagsB o.drop = true
  rotate_left
  ·have h2 : flagsB o.drop = false := by simpa using h2
   have hres : flagA A o = .error 1 := by unfold flagA; rw [hA]; dsimp only; rw [if_pos (.inr h2)]
   rw [h2]
   refine KGO ?_
   exact ⟨by rw [hres]; rfl, K4.of_none⟩
  rw [h2]
  have kr4 := Kp.refl w4 n_
  refine KGO ?_
  have hrow := at_of_own' hd.o.m hma
  have hdA := hd.v.at
  have hmoB := hd.o.mb lx[i] (List.getElem_mem hi)
  have hlf : m.flags.length ≤ 200 := by
   have : m ∈ A.mails := by rw [← hd.o.ml, ← hxm]; exact List.mem_map_of_mem (List.getElem_mem hi)
   exact (hf.mb m this).2
  have kd4 := K4.drew
  refine KGO ?_
  generalize hx : lx[i] = x at *
  have hrT : RowT w x.f.v m.flags := by rw [← hxm]; exact zaH hmoB.2
  refine KGO ?_
  refine RunV.of (znl x.f v.a _) ?_
  have hps : At (w4.drew.alloc (.cells #[.slice x.f.a x.f.n x.f.c, .slice v.a.a v.a.n v.a.c] 58)) w4.drew.heap.size 0 ([(x.f, m.flags), (v.a, o.add)].flatMap slC) := zaq w4.drew 58 [.slice x.f.a x.f.n x.f.c, .slice v.a.a v.a.n v.a.c]
  have k5 : Kp w4 (w4.drew.alloc (.cells #[.slice x.f.a x.f.n x.f.c, .slice v.a.a v.a.n v.a.c] 58)) n_ := (Kp.refl w4 n_).drew.alloc _
  have z5 : w4.drew.heap.size < (w4.drew.alloc (.cells #[.slice x.f.a x.f.n x.f.c, .slice v.a.a v.a.n v.a.c] 58)).heap.size := by simp
  generalize w4.drew.alloc (.cells #[.slice x.f.a x.f.n x.f.c, .slice v.a.a v.a.n v.a.c] 58) = w5 at *
  generalize w4.drew.heap.size = bs at *
  have K5 := K4.trans0 k5
  have a5 := zaf a4 k5
  refine KGO ?_
  have hpp : ∀ p ∈ [(x.f, m.flags), (v.a, o.add)], RowT w5 p.1.v p.2 := fun p hp => by
   simp only [List.mem_cons, List.not_mem_nil, or_false] at hp
   rcases hp with rfl | rfl
   ·exact hrT.keep K5
   ·exact ho.a.keep K5
  refine CallS.of (Tryz.call97 _ _) (cat_T (w := w5) [(x.f, m.flags), (v.a, o.add)] ⟨some ⟨bs, 0, none⟩, 2, rfl, fun _ => ⟨bs, 0, rfl, z5, hps⟩⟩ hpp (by simp) (by simp; omega)) ?_
  rintro e w6 ⟨v6, rfl, o6, k6⟩
  rw [show ([(x.f, m.flags), (v.a, o.add)].flatMap (·.2)) = m.flags ++ o.add by simp] at o6
  obtain ⟨a6', c6, rfl⟩ := zac o6
  have K6 := K5.trans0 k6
  have a6 := zaf a5 k6
  refine RT ?_
  refine KGO ?_
  refine CallS.of (Tryz.call92 _ _) (zda (w := w6) (m.flags ++ o.add) (zaH o6) (by rw [List.length_append]; omega)) ?_
  rintro e w7 ⟨v7, rfl, o7, k7⟩
  obtain ⟨a7', c7, rfl⟩ := zac o7
  have K7 := K6.trans0 k7
  have a7 := zaf a6 k7
  have z6 := K6.size
  have hb16 : b1 < w6.heap.size := by have := (k2.trans0 k3).trans0 k4; have := this.size; have := k5.size; have := k6.size; omega
  refine RT ?_
  refine KGO ?_
  conv => arg 3; simp [ev, upd]
  have hln : (sortT (m.flags ++ o.add)).length ≤ 8796093022208 := by
   have := zlB (lt := ltT) (m.flags ++ o.add)
   rw [List.length_append] at this
   unfold sortT
   omega
  refine CallS.of (Tryz.call96 _ _) (dlf_T (w := w7) (sortT (m.flags ++ o.add)) 98 (.pointer (some ⟨b1, 0, none⟩)) (fun s => decide (s ∈ o.drop)) o7 (by omega) Tryz.call98 (fun s _ w' k => zny s (v := v) (zav a7 k (fun e => by have := (o7.lt b1 e).1; omega)) (ho.d.keep (K7.trans k fun q hq e => by have := (o7.lt q e).1; omega)) (by omega))) ?_
  rintro e w8 ⟨v8, rfl, o8, k8, hb8⟩
  have hnf : (sortT (m.flags ++ o.add)).filter (fun s => !decide (s ∈ o.drop)) = newFlags m o := rfl
  rw [hnf] at o8
  obtain ⟨a8', c8, rfl⟩ := zac o8
  have K8 := zhp o7 k8 w K7 (by omega)
  refine RT ?_
  by_cases h3 : 20 < (newFlags m o).length
  ·have hres : flagA A o = .error 3 := by unfold flagA; rw [hA]; dsimp only; rw [if_neg (by rw [h1, h2]; simp), if_pos h3]
   refine KGO ?_
   exact ⟨by rw [hres]; rfl, K8.of_none⟩
  have hres : flagA A o = .ok ({ A with mails := updA A.mails o.id fun m => { m with flags := newFlags m o, mod := A.st } }, 0) := by unfold flagA; rw [hA]; dsimp only; rw [if_neg (by rw [h1, h2]; simp), if_neg h3]
  refine KGO ?_
  subst hxm
  have oM := zab hd.o.m K8
  rcases own_blockK oM with ⟨_, h0⟩ | ⟨gM, cap, cells, heM, hBg, hvM, hnc, hcm, hcl, htk⟩
  ·omega
  have heM' := heM
  injection heM with heM1 heM2 heM3
  rw [hma] at heM1
  injection heM1 with heM1
  injection heM1 with heM1
  subst heM1
  refine Store.atK (i := 0 + i * 38 + 34) hvM (by rw [hcl]; omega) (by rfl) ⟨rfl, by simp, by simp⟩ fun wA vA kA => ?_
  rw [show 0 + i * 38 + 34 = i * 38 + 34 by omega] at vA
  have oA := zbm (w := w8) lenMl (l := lx) (k := i) (j := 34) (x := ⟨x.m, x.b, ⟨a8', (newFlags x.m o).length, c8⟩⟩) hi (by decide) (by rw [hx]; rfl) hBg hnc hcm hcl htk vA
  rcases own_blockK oA with ⟨hq, _⟩ | ⟨gA, capA, cellsA, heA, hBA, hvA, hncA, hcmA, hclA, htkA⟩
  ·cases hq
  injection heA with heA1 heA2 heA3
  injection heA1 with heA1
  injection heA1 with heA1
  subst heA1; subst heA3
  refine KGO ?_
  refine Store.atK (i := 0 + i * 38 + 37) hvA (by rw [hclA]; omega) (by rfl) ⟨rfl, by simp, by simp⟩ fun wB vB kB => ?_
  rw [show 0 + i * 38 + 37 = i * 38 + 37 by omega] at vB
  have oB := zbm (w := wA) lenMl (l := lx.set i ⟨x.m, x.b, ⟨a8', (newFlags x.m o).length, c8⟩⟩) (k := i) (j := 37) (x := ⟨{ x.m with flags := newFlags x.m o, mod := A.st }, x.b, ⟨a8', (newFlags x.m o).length, c8⟩⟩) (by rw [List.length_set]; exact hi) (by decide) (by rw [List.getElem_set_self]; rfl) hBA (by rw [List.length_set]; exact hncA) hcmA hclA (by rw [List.length_set]; exact htkA) vB
  rw [List.length_set, List.set_set] at oB
  have kAB := kA.trans' kB
  have hrowB : OwnMl wB B h.M.v (lx.set i ⟨{ x.m with flags := newFlags x.m o, mod := A.st }, x.b, ⟨a8', (newFlags x.m o).length, c8⟩⟩) := by
   rw [heM']
   unfold OwnMl
   rw [List.length_set]
   exact oB
  have hgM : h.M.v.ownBlock = some g := by rw [heM']; rfl
  have hneM := zlM hd.o K8 kAB hgM
  have hgb : g < w.heap.size := by have := hd.lt g (List.mem_append_left _ (List.mem_append_right _ (zau.2 hgM))); have := hd.v.lt; omega
  refine KGO ?_
  refine ⟨?_, zgs K8 kAB hBg⟩
  rw [hres]
  refine ⟨rfl, zms hd K8 kAB hgM hrowB (fun y hy => ?_) ?_⟩
  ·rcases List.mem_or_eq_of_mem_set hy with hy | rfl
   ·exact hneM y hy
   ·have hx2 := hneM x (by rw [← hx]; exact List.getElem_mem hi)
    exact ⟨hx2.1, zaj (zck o8 kAB fun k hk => by have := (o8.lt k hk).1; omega) (Nat.zero_le _)⟩
  ·rw [← zoE hd.o.ml hi (by rw [hx]; exact hid) hfirst (fun m => { m with flags := newFlags m o, mod := A.st }) (by rw [hx])]
end
end Go.Proofs.YtcplagfblmemhaaGreatDoor
namespace Go.Proofs.YtcplagfblmemhaaGreatDoor
set_option linter.unusedVariables false
set_option maxHeartbeats 8000000
open Go.RowKit Go.Pw Go.Vc Go.Cs Go.Lib
set_option linter.unusedVariables false
set_option maxRecDepth 100000
theorem zqI {w : World} {v : Value} {B : Nat} (l : List Mr) (i : Nat) (ho : OwnMl w B v l) (hi : i < l.length) (hl : l.length ≤ 1000000) :
  Calls Tryz.prog 99 #[v, .int .i64 (i : Nat), .int .i64 ((i + 1 : Nat) : Int)] w fun e w' => ∃ v', e = .returned v' ∧ OwnMl w' B v' (l.take i ++ l.drop (i + 1)) ∧ Kp w w' (own_ v) ∧ v'.ownBlock = v.ownBlock := by
 have hlenK := zay mrC 38 lenMl
 have htkK := zbb mrC 38 lenMl
 have hdrK := zbc mrC 38 lenMl
 rcases own_blockK ho with ⟨rfl, h0⟩ | ⟨g, cap, cells, rfl, hBg, hv, hnc, hcm, hcl, htk⟩
 ·omega
 refine zaa (args := [.slice (some ⟨g, 0, none⟩) l.length cap, .int .i64 (i : Nat), .int .i64 ((i + 1 : Nat) : Int)]) Tryz.func99 rfl NL ?_; refine GW ?_
 refine RunV.of (zeG (i := i) (j := i + 1) (m := l.length) Tryz.underlying32 infoMl (by omega) (by omega) (by omega)) ?_
 have hcells : cells = (l.take i).flatMap mrC ++ (cells.drop (i * 38)) := by
  conv => lhs; rw [← List.take_append_drop (i * 38) cells]
  rw [show cells.take (i * 38) = (cells.take (l.length * 38)).take (i * 38) by rw [List.take_take, Nat.min_eq_left (by omega)], htk, htkK]
 have hA : ((l.take i).flatMap mrC).length = i * 38 := by rw [hlenK, List.length_take]; omega
 have hD : ((l.drop (i + 1)).flatMap mrC).length = (l.length - (i + 1)) * 38 := by rw [hlenK, List.length_drop]
 have hres : (l.take i ++ l.drop (i + 1)).flatMap mrC = (l.take i).flatMap mrC ++ (l.drop (i + 1)).flatMap mrC := List.flatMap_append
 have hresl : (l.take i ++ l.drop (i + 1)).length = l.length - 1 := by rw [List.length_append, List.length_take, List.length_drop]; omega
 have hsrcD : ∀ j u, ((l.drop (i + 1)).flatMap mrC)[j]? = some u → cells[(i + 1) * 38 + j]? = some u := fun j u hj => by
  rw [← hdrK, List.getElem?_drop, ← htk, List.getElem?_take] at hj
  split at hj
  ·exact hj
  ·cases hj
 generalize hAe : (l.take i).flatMap mrC = A at *
 generalize hDe : (l.drop (i + 1)).flatMap mrC = D at *
 have hD1 : ∀ u ∈ D, u.oneCell' = true := by rw [← hDe]; exact oneMl _
 refine KGO ?_
 rw [if_neg (by omega : ¬ 0 = cap)]
 have hvd : VarK w.drew g 60 cells := hv
 by_cases hc : i + 1 = cap
 ·rw [if_pos hc]
  have hnews : ∀ j u, D[j]? = some u → w.drew.cell? ((⟨g, 0, none⟩ : Addr).add j) = some u := hvd.cells _ _ fun j u hj => by
   have hlt := (List.getElem?_eq_some_iff.1 hj).1
   rw [hD] at hlt
   omega
  refine RunN.roomK (s := 38) (n := i) (c := cap) (m := l.length - (i + 1)) Tryz.underlying32 infoMl hvd (a := ⟨g, 0, none⟩) (news := D) hD hnews hD1 (by omega) (by rw [hcl]; omega) fun w2 v2 k2 => ?_
  rw [show i + (l.length - (i + 1)) = l.length - 1 by omega] at v2 ⊢
  have htA : cells.take (i * 38) = A := by rw [hcells, ← hA, List.take_left]
  rw [htA] at v2
  have hRl : (cells.drop ((l.length - 1) * 38)).length = (cap - (l.length - 1)) * 38 := by rw [List.length_drop, hcl]; omega
  generalize cells.drop ((l.length - 1) * 38) = R at *
  refine KGO ?_
  rw [if_neg (by omega : ¬ l.length - 1 = cap)]
  refine RunN.clearK (s := 38) (g := g) (o := 0 + (l.length - 1) * 38) (n := l.length - (l.length - 1)) Tryz.underlying32 infoMl rfl (fun u hu => by exact List.all_eq_true.1 (show (((.agg #[.int .i64 0, .int .u8 0, .int .u8 0, .int .u8 0, .int .u8 0, .int .u8 0, .int .u8 0, .int .u8 0, .int .u8 0, .int .u8 0, .int .u8 0, .int .u8 0, .int .u8 0, .int .u8 0, .int .u8 0, .int .u8 0, .int .u8 0, .int .u8 0, .int .u8 0, .int .u8 0, .int .u8 0, .int .u8 0, .int .u8 0, .int .u8 0, .int .u8 0, .int .u8 0, .int .u8 0, .int .u8 0, .int .u8 0, .int .u8 0, .int .u8 0, .int .u8 0, .int .u8 0, .slice none 0 0, .slice none 0 0, .int .i64 0, .int .i64 0, .int .i64 0] : Value)).cells.toList).all (fun u => u.oneCell') = true by rfl) u (by simpa using hu)) v2 (by rw [List.length_append, List.length_append, hA, hD, hRl]; omega) fun w3 zs hzl v3 k3 => ?_
  refine KGO ?_
  refine ⟨_, rfl, ?_, ((((Kp.refl w (one_ g)).drew).trans' k2).trans' k3).mono fun q _ hq => by have hq : q = g := hq; rw [hq]; rfl, rfl⟩
  unfold OwnMl
  rw [hresl, hres]
  have hrl : (A ++ D).length = (l.length - 1) * 38 := by rw [List.length_append, hA, hD]; omega
  have ho4 : 0 + (l.length - 1) * 38 = (A ++ D).length := by rw [hrl]; omega
  rw [ho4] at v3
  rw [List.take_left] at v3
  refine zbj hBg v3 (by omega) hcm (by rw [List.length_append, List.length_append, hrl, List.length_drop, List.length_append, hrl, hRl, hzl]; omega) ?_ hrl
  rw [← hrl, List.append_assoc, List.take_left]
 ·rw [if_neg hc]
  have hnews : ∀ j u, D[j]? = some u → w.drew.cell? ((⟨g, 0 + (i + 1) * 38, none⟩ : Addr).add j) = some u := hvd.cells _ _ fun j u hj => by
   have hlt := (List.getElem?_eq_some_iff.1 hj).1
   rw [hD] at hlt
   rw [Nat.zero_add]; exact hsrcD j u hj
  refine RunN.roomK (s := 38) (n := i) (c := cap) (m := l.length - (i + 1)) Tryz.underlying32 infoMl hvd (a := ⟨g, 0 + (i + 1) * 38, none⟩) (news := D) hD hnews hD1 (by omega) (by rw [hcl]; omega) fun w2 v2 k2 => ?_
  rw [show i + (l.length - (i + 1)) = l.length - 1 by omega] at v2 ⊢
  have htA : cells.take (i * 38) = A := by rw [hcells, ← hA, List.take_left]
  rw [htA] at v2
  have hRl : (cells.drop ((l.length - 1) * 38)).length = (cap - (l.length - 1)) * 38 := by rw [List.length_drop, hcl]; omega
  generalize cells.drop ((l.length - 1) * 38) = R at *
  refine KGO ?_
  rw [if_neg (by omega : ¬ l.length - 1 = cap)]
  refine RunN.clearK (s := 38) (g := g) (o := 0 + (l.length - 1) * 38) (n := l.length - (l.length - 1)) Tryz.underlying32 infoMl rfl (fun u hu => by exact List.all_eq_true.1 (show (((.agg #[.int .i64 0, .int .u8 0, .int .u8 0, .int .u8 0, .int .u8 0, .int .u8 0, .int .u8 0, .int .u8 0, .int .u8 0, .int .u8 0, .int .u8 0, .int .u8 0, .int .u8 0, .int .u8 0, .int .u8 0, .int .u8 0, .int .u8 0, .int .u8 0, .int .u8 0, .int .u8 0, .int .u8 0, .int .u8 0, .int .u8 0, .int .u8 0, .int .u8 0, .int .u8 0, .int .u8 0, .int .u8 0, .int .u8 0, .int .u8 0, .int .u8 0, .int .u8 0, .int .u8 0, .slice none 0 0, .slice none 0 0, .int .i64 0, .int .i64 0, .int .i64 0] : Value)).cells.toList).all (fun u => u.oneCell') = true by rfl) u (by simpa using hu)) v2 (by rw [List.length_append, List.length_append, hA, hD, hRl]; omega) fun w3 zs hzl v3 k3 => ?_
  refine KGO ?_
  refine ⟨_, rfl, ?_, ((((Kp.refl w (one_ g)).drew).trans' k2).trans' k3).mono fun q _ hq => by have hq : q = g := hq; rw [hq]; rfl, rfl⟩
  unfold OwnMl
  rw [hresl, hres]
  have hrl : (A ++ D).length = (l.length - 1) * 38 := by rw [List.length_append, hA, hD]; omega
  have ho4 : 0 + (l.length - 1) * 38 = (A ++ D).length := by rw [hrl]; omega
  rw [ho4] at v3
  rw [List.take_left] at v3
  refine zbj hBg v3 (by omega) hcm (by rw [List.length_append, List.length_append, hrl, List.length_drop, List.length_append, hrl, hRl, hzl]; omega) ?_ hrl
  rw [← hrl, List.append_assoc, List.take_left]
theorem zqj {w : World} {v : Value} {B : Nat} (l : List Sc) (i : Nat) (ho : OwnSrc w B v l) (hi : i < l.length) (hl : l.length ≤ 1000000) :
  Calls Tryz.prog 109 #[v, .int .i64 (i : Nat), .int .i64 ((i + 1 : Nat) : Int)] w fun e w' => ∃ v', e = .returned v' ∧ OwnSrc w' B v' (l.take i ++ l.drop (i + 1)) ∧ Kp w w' (own_ v) ∧ v'.ownBlock = v.ownBlock := by
 have hlenK := zay srcC 2 lenSrc
 have htkK := zbb srcC 2 lenSrc
 have hdrK := zbc srcC 2 lenSrc
 rcases own_blockK ho with ⟨rfl, h0⟩ | ⟨g, cap, cells, rfl, hBg, hv, hnc, hcm, hcl, htk⟩
 ·omega
 refine zaa (args := [.slice (some ⟨g, 0, none⟩) l.length cap, .int .i64 (i : Nat), .int .i64 ((i + 1 : Nat) : Int)]) Tryz.func109 rfl NL ?_; refine GW ?_
 refine RunV.of (zeG (i := i) (j := i + 1) (m := l.length) Tryz.underlying33 infoSrc (by omega) (by omega) (by omega)) ?_
 have hcells : cells = (l.take i).flatMap srcC ++ (cells.drop (i * 2)) := by
  conv => lhs; rw [← List.take_append_drop (i * 2) cells]
  rw [show cells.take (i * 2) = (cells.take (l.length * 2)).take (i * 2) by rw [List.take_take, Nat.min_eq_left (by omega)], htk, htkK]
 have hA : ((l.take i).flatMap srcC).length = i * 2 := by rw [hlenK, List.length_take]; omega
 have hD : ((l.drop (i + 1)).flatMap srcC).length = (l.length - (i + 1)) * 2 := by rw [hlenK, List.length_drop]
 have hres : (l.take i ++ l.drop (i + 1)).flatMap srcC = (l.take i).flatMap srcC ++ (l.drop (i + 1)).flatMap srcC := List.flatMap_append
 have hresl : (l.take i ++ l.drop (i + 1)).length = l.length - 1 := by rw [List.length_append, List.length_take, List.length_drop]; omega
 have hsrcD : ∀ j u, ((l.drop (i + 1)).flatMap srcC)[j]? = some u → cells[(i + 1) * 2 + j]? = some u := fun j u hj => by
  rw [← hdrK, List.getElem?_drop, ← htk, List.getElem?_take] at hj
  split at hj
  ·exact hj
  ·cases hj
 generalize hAe : (l.take i).flatMap srcC = A at *
 generalize hDe : (l.drop (i + 1)).flatMap srcC = D at *
 have hD1 : ∀ u ∈ D, u.oneCell' = true := by rw [← hDe]; exact oneSrc _
 refine KGO ?_
 rw [if_neg (by omega : ¬ 0 = cap)]
 have hvd : VarK w.drew g 49 cells := hv
 by_cases hc : i + 1 = cap
 ·rw [if_pos hc]
  have hnews : ∀ j u, D[j]? = some u → w.drew.cell? ((⟨g, 0, none⟩ : Addr).add j) = some u := hvd.cells _ _ fun j u hj => by
   have hlt := (List.getElem?_eq_some_iff.1 hj).1
   rw [hD] at hlt
   omega
  refine RunN.roomK (s := 2) (n := i) (c := cap) (m := l.length - (i + 1)) Tryz.underlying33 infoSrc hvd (a := ⟨g, 0, none⟩) (news := D) hD hnews hD1 (by omega) (by rw [hcl]; omega) fun w2 v2 k2 => ?_
  rw [show i + (l.length - (i + 1)) = l.length - 1 by omega] at v2 ⊢
  have htA : cells.take (i * 2) = A := by rw [hcells, ← hA, List.take_left]
  rw [htA] at v2
  have hRl : (cells.drop ((l.length - 1) * 2)).length = (cap - (l.length - 1)) * 2 := by rw [List.length_drop, hcl]; omega
  generalize cells.drop ((l.length - 1) * 2) = R at *
  refine KGO ?_
  rw [if_neg (by omega : ¬ l.length - 1 = cap)]
  refine RunN.clearK (s := 2) (g := g) (o := 0 + (l.length - 1) * 2) (n := l.length - (l.length - 1)) Tryz.underlying33 infoSrc rfl (fun u hu => by exact List.all_eq_true.1 (show (((.agg #[.string ⟨#[]⟩, .string ⟨#[]⟩] : Value)).cells.toList).all (fun u => u.oneCell') = true by rfl) u (by simpa using hu)) v2 (by rw [List.length_append, List.length_append, hA, hD, hRl]; omega) fun w3 zs hzl v3 k3 => ?_
  refine KGO ?_
  refine ⟨_, rfl, ?_, ((((Kp.refl w (one_ g)).drew).trans' k2).trans' k3).mono fun q _ hq => by have hq : q = g := hq; rw [hq]; rfl, rfl⟩
  unfold OwnSrc
  rw [hresl, hres]
  have hrl : (A ++ D).length = (l.length - 1) * 2 := by rw [List.length_append, hA, hD]; omega
  have ho4 : 0 + (l.length - 1) * 2 = (A ++ D).length := by rw [hrl]; omega
  rw [ho4] at v3
  rw [List.take_left] at v3
  refine zbj hBg v3 (by omega) hcm (by rw [List.length_append, List.length_append, hrl, List.length_drop, List.length_append, hrl, hRl, hzl]; omega) ?_ hrl
  rw [← hrl, List.append_assoc, List.take_left]
 ·rw [if_neg hc]
  have hnews : ∀ j u, D[j]? = some u → w.drew.cell? ((⟨g, 0 + (i + 1) * 2, none⟩ : Addr).add j) = some u := hvd.cells _ _ fun j u hj => by
   have hlt := (List.getElem?_eq_some_iff.1 hj).1
   rw [hD] at hlt
   rw [Nat.zero_add]; exact hsrcD j u hj
  refine RunN.roomK (s := 2) (n := i) (c := cap) (m := l.length - (i + 1)) Tryz.underlying33 infoSrc hvd (a := ⟨g, 0 + (i + 1) * 2, none⟩) (news := D) hD hnews hD1 (by omega) (by rw [hcl]; omega) fun w2 v2 k2 => ?_
  rw [show i + (l.length - (i + 1)) = l.length - 1 by omega] at v2 ⊢
  have htA : cells.take (i * 2) = A := by rw [hcells, ← hA, List.take_left]
  rw [htA] at v2
  have hRl : (cells.drop ((l.length - 1) * 2)).length = (cap - (l.length - 1)) * 2 := by rw [List.length_drop, hcl]; omega
  generalize cells.drop ((l.length - 1) * 2) = R at *
  refine KGO ?_
  rw [if_neg (by omega : ¬ l.length - 1 = cap)]
  refine RunN.clearK (s := 2) (g := g) (o := 0 + (l.length - 1) * 2) (n := l.length - (l.length - 1)) Tryz.underlying33 infoSrc rfl (fun u hu => by exact List.all_eq_true.1 (show (((.agg #[.string ⟨#[]⟩, .string ⟨#[]⟩] : Value)).cells.toList).all (fun u => u.oneCell') = true by rfl) u (by simpa using hu)) v2 (by rw [List.length_append, List.length_append, hA, hD, hRl]; omega) fun w3 zs hzl v3 k3 => ?_
  refine KGO ?_
  refine ⟨_, rfl, ?_, ((((Kp.refl w (one_ g)).drew).trans' k2).trans' k3).mono fun q _ hq => by have hq : q = g := hq; rw [hq]; rfl, rfl⟩
  unfold OwnSrc
  rw [hresl, hres]
  have hrl : (A ++ D).length = (l.length - 1) * 2 := by rw [List.length_append, hA, hD]; omega
  have ho4 : 0 + (l.length - 1) * 2 = (A ++ D).length := by rw [hrl]; omega
  rw [ho4] at v3
  rw [List.take_left] at v3
  refine zbj hBg v3 (by omega) hcm (by rw [List.length_append, List.length_append, hrl, List.length_drop, List.length_append, hrl, hRl, hzl]; omega) ?_ hrl
  rw [← hrl, List.append_assoc, List.take_left]
theorem del_I {w : World} {v : Value} {B : Nat} (l : List Int) (i : Nat) (ho : OwnI w B v l) (hi : i < l.length) (hl : l.length ≤ 1000000) :
  Calls Tryz.prog 105 #[v, .int .i64 (i : Nat), .int .i64 ((i + 1 : Nat) : Int)] w fun e w' => ∃ v', e = .returned v' ∧ OwnI w' B v' (l.take i ++ l.drop (i + 1)) ∧ Kp w w' (own_ v) ∧ v'.ownBlock = v.ownBlock := by
 have hlenK := zay inC 1 lenI
 have htkK := zbb inC 1 lenI
 have hdrK := zbc inC 1 lenI
 rcases own_blockK ho with ⟨rfl, h0⟩ | ⟨g, cap, cells, rfl, hBg, hv, hnc, hcm, hcl, htk⟩
 ·omega
 refine zaa (args := [.slice (some ⟨g, 0, none⟩) l.length cap, .int .i64 (i : Nat), .int .i64 ((i + 1 : Nat) : Int)]) Tryz.func105 rfl NL ?_; refine GW ?_
 refine RunV.of (zeG (i := i) (j := i + 1) (m := l.length) Tryz.underlying37 infoI (by omega) (by omega) (by omega)) ?_
 have hcells : cells = (l.take i).flatMap inC ++ (cells.drop (i * 1)) := by
  conv => lhs; rw [← List.take_append_drop (i * 1) cells]
  rw [show cells.take (i * 1) = (cells.take (l.length * 1)).take (i * 1) by rw [List.take_take, Nat.min_eq_left (by omega)], htk, htkK]
 have hA : ((l.take i).flatMap inC).length = i * 1 := by rw [hlenK, List.length_take]; omega
 have hD : ((l.drop (i + 1)).flatMap inC).length = (l.length - (i + 1)) * 1 := by rw [hlenK, List.length_drop]
 have hres : (l.take i ++ l.drop (i + 1)).flatMap inC = (l.take i).flatMap inC ++ (l.drop (i + 1)).flatMap inC := List.flatMap_append
 have hresl : (l.take i ++ l.drop (i + 1)).length = l.length - 1 := by rw [List.length_append, List.length_take, List.length_drop]; omega
 have hsrcD : ∀ j u, ((l.drop (i + 1)).flatMap inC)[j]? = some u → cells[(i + 1) * 1 + j]? = some u := fun j u hj => by
  rw [← hdrK, List.getElem?_drop, ← htk, List.getElem?_take] at hj
  split at hj
  ·exact hj
  ·cases hj
 generalize hAe : (l.take i).flatMap inC = A at *
 generalize hDe : (l.drop (i + 1)).flatMap inC = D at *
 have hD1 : ∀ u ∈ D, u.oneCell' = true := by rw [← hDe]; exact oneI _
 refine KGO ?_
 rw [if_neg (by omega : ¬ 0 = cap)]
 have hvd : VarK w.drew g 3 cells := hv
 by_cases hc : i + 1 = cap
 ·rw [if_pos hc]
  have hnews : ∀ j u, D[j]? = some u → w.drew.cell? ((⟨g, 0, none⟩ : Addr).add j) = some u := hvd.cells _ _ fun j u hj => by
   have hlt := (List.getElem?_eq_some_iff.1 hj).1
   rw [hD] at hlt
   omega
  refine RunN.roomK (s := 1) (n := i) (c := cap) (m := l.length - (i + 1)) Tryz.underlying37 infoI hvd (a := ⟨g, 0, none⟩) (news := D) hD hnews hD1 (by omega) (by rw [hcl]; omega) fun w2 v2 k2 => ?_
  rw [show i + (l.length - (i + 1)) = l.length - 1 by omega] at v2 ⊢
  have htA : cells.take (i * 1) = A := by rw [hcells, ← hA, List.take_left]
  rw [htA] at v2
  have hRl : (cells.drop ((l.length - 1) * 1)).length = (cap - (l.length - 1)) * 1 := by rw [List.length_drop, hcl]; omega
  generalize cells.drop ((l.length - 1) * 1) = R at *
  refine KGO ?_
  rw [if_neg (by omega : ¬ l.length - 1 = cap)]
  refine RunN.clearK (s := 1) (g := g) (o := 0 + (l.length - 1) * 1) (n := l.length - (l.length - 1)) Tryz.underlying37 infoI rfl (fun u hu => by exact List.all_eq_true.1 (show (((.int .i64 0 : Value)).cells.toList).all (fun u => u.oneCell') = true by rfl) u (by simpa using hu)) v2 (by rw [List.length_append, List.length_append, hA, hD, hRl]; omega) fun w3 zs hzl v3 k3 => ?_
  refine KGO ?_
  refine ⟨_, rfl, ?_, ((((Kp.refl w (one_ g)).drew).trans' k2).trans' k3).mono fun q _ hq => by have hq : q = g := hq; rw [hq]; rfl, rfl⟩
  unfold OwnI
  rw [hresl, hres]
  have hrl : (A ++ D).length = (l.length - 1) * 1 := by rw [List.length_append, hA, hD]; omega
  have ho4 : 0 + (l.length - 1) * 1 = (A ++ D).length := by rw [hrl]; omega
  rw [ho4] at v3
  rw [List.take_left] at v3
  refine zbj hBg v3 (by omega) hcm (by rw [List.length_append, List.length_append, hrl, List.length_drop, List.length_append, hrl, hRl, hzl]; omega) ?_ hrl
  rw [← hrl, List.append_assoc, List.take_left]
 ·rw [if_neg hc]
  have hnews : ∀ j u, D[j]? = some u → w.drew.cell? ((⟨g, 0 + (i + 1) * 1, none⟩ : Addr).add j) = some u := hvd.cells _ _ fun j u hj => by
   have hlt := (List.getElem?_eq_some_iff.1 hj).1
   rw [hD] at hlt
   rw [Nat.zero_add]; exact hsrcD j u hj
  refine RunN.roomK (s := 1) (n := i) (c := cap) (m := l.length - (i + 1)) Tryz.underlying37 infoI hvd (a := ⟨g, 0 + (i + 1) * 1, none⟩) (news := D) hD hnews hD1 (by omega) (by rw [hcl]; omega) fun w2 v2 k2 => ?_
  rw [show i + (l.length - (i + 1)) = l.length - 1 by omega] at v2 ⊢
  have htA : cells.take (i * 1) = A := by rw [hcells, ← hA, List.take_left]
  rw [htA] at v2
  have hRl : (cells.drop ((l.length - 1) * 1)).length = (cap - (l.length - 1)) * 1 := by rw [List.length_drop, hcl]; omega
  generalize cells.drop ((l.length - 1) * 1) = R at *
  refine KGO ?_
  rw [if_neg (by omega : ¬ l.length - 1 = cap)]
  refine RunN.clearK (s := 1) (g := g) (o := 0 + (l.length - 1) * 1) (n := l.length - (l.length - 1)) Tryz.underlying37 infoI rfl (fun u hu => by exact List.all_eq_true.1 (show (((.int .i64 0 : Value)).cells.toList).all (fun u => u.oneCell') = true by rfl) u (by simpa using hu)) v2 (by rw [List.length_append, List.length_append, hA, hD, hRl]; omega) fun w3 zs hzl v3 k3 => ?_
  refine KGO ?_
  refine ⟨_, rfl, ?_, ((((Kp.refl w (one_ g)).drew).trans' k2).trans' k3).mono fun q _ hq => by have hq : q = g := hq; rw [hq]; rfl, rfl⟩
  unfold OwnI
  rw [hresl, hres]
  have hrl : (A ++ D).length = (l.length - 1) * 1 := by rw [List.length_append, hA, hD]; omega
  have ho4 : 0 + (l.length - 1) * 1 = (A ++ D).length := by rw [hrl]; omega
  rw [ho4] at v3
  rw [List.take_left] at v3
  refine zbj hBg v3 (by omega) hcm (by rw [List.length_append, List.length_append, hrl, List.length_drop, List.length_append, hrl, hRl, hzl]; omega) ?_ hrl
  rw [← hrl, List.append_assoc, List.take_left]
end Go.Proofs.YtcplagfblmemhaaGreatDoor
namespace Go.Proofs.YtcplagfblmemhaaGreatDoor
set_option linter.unusedVariables false
set_option maxHeartbeats 8000000
open Go.Shelf Go.RowKit Go.Pw Go.Vc Go.Cs Go.Lib
set_option linter.unusedVariables false
set_option maxRecDepth 100000
theorem nd4 {o1 o2 o3 o4 : Option Nat} {l : List Nat} (nd : ((o1.toList ++ o2.toList ++ o3.toList ++ o4.toList) ++ l).Nodup) :
  (∀ k, o1 = some k → o2 ≠ some k ∧ o3 ≠ some k ∧ o4 ≠ some k ∧ k ∉ l) ∧ (∀ k, o2 = some k → o3 ≠ some k ∧ o4 ≠ some k ∧ k ∉ l) ∧ (∀ k, o3 = some k → o4 ≠ some k ∧ k ∉ l) ∧ (∀ k, o4 = some k → k ∉ l) := by
 have e : ∀ (o : Option Nat) k, o = some k → k ∈ o.toList := fun o k h => by rw [h]; simp
 rw [List.nodup_append] at nd
 obtain ⟨n1, _, n2⟩ := nd
 rw [List.nodup_append] at n1
 obtain ⟨n3, _, n4⟩ := n1
 rw [List.nodup_append] at n3
 obtain ⟨n5, _, n6⟩ := n3
 rw [List.nodup_append] at n5
 obtain ⟨_, _, n7⟩ := n5
 refine ⟨fun k h => ⟨fun q => ?_, fun q => ?_, fun q => ?_, fun q => ?_⟩, fun k h => ⟨fun q => ?_, fun q => ?_, fun q => ?_⟩, fun k h => ⟨fun q => ?_, fun q => ?_⟩, fun k h q => ?_⟩
 ·exact n7 k (e _ _ h) k (e _ _ q) rfl
 ·exact n6 k (List.mem_append_left _ (e _ _ h)) k (e _ _ q) rfl
 ·exact n4 k (List.mem_append_left _ (List.mem_append_left _ (e _ _ h))) k (e _ _ q) rfl
 ·exact n2 k (List.mem_append_left _ (List.mem_append_left _ (List.mem_append_left _ (e _ _ h)))) k q rfl
 ·exact n6 k (List.mem_append_right _ (e _ _ h)) k (e _ _ q) rfl
 ·exact n4 k (List.mem_append_left _ (List.mem_append_right _ (e _ _ h))) k (e _ _ q) rfl
 ·exact n2 k (List.mem_append_left _ (List.mem_append_left _ (List.mem_append_right _ (e _ _ h)))) k q rfl
 ·exact n4 k (List.mem_append_right _ (e _ _ h)) k (e _ _ q) rfl
 ·exact n2 k (List.mem_append_left _ (List.mem_append_right _ (e _ _ h))) k q rfl
 ·exact n2 k (List.mem_append_right _ (e _ _ h)) k q rfl
section
variable {w w' : World} {B : Nat} {h : Hd} {lx : List Mr} {A : Acc}
theorem zfC {x : Mr} {k : Nat} (hx : x ∈ lx) (hk : k ∉ lx.flatMap Mr.bs) : x.b.v.ownBlock ≠ some k ∧ x.f.v.ownBlock ≠ some k :=
 ⟨fun e => hk (List.mem_flatMap.2 ⟨x, hx, by unfold Mr.bs; rw [List.mem_append, zau, zau]; exact .inl e⟩), fun e => hk (List.mem_flatMap.2 ⟨x, hx, by unfold Mr.bs; rw [List.mem_append, zau, zau]; exact .inr e⟩)⟩
theorem AccP.setB (o : AccP w h lx A) {v : Sl} {l : List Bx} {B' : Nat} (hv : OwnB w B' v.v l) : AccP w { h with B := v } lx { A with boxes := l } :=
 ⟨zaj hv (Nat.zero_le _), o.s, o.n, o.m, o.ml, o.mb⟩
theorem AccO.setS (o : AccO w B h lx A) (k : Kp w w' (own_ h.S.v)) {v : Sl} {l : List Sc} {B' : Nat} (hv : OwnSrc w' B' v.v l) : AccP w' { h with S := v } lx { A with scripts := l } := by
 obtain ⟨h1, h2, h3, h4⟩ := nd4 o.nd
 have o := o.p
 exact ⟨zad o.b k fun q hq e => (h1 q hq).1 e, zaj hv (Nat.zero_le _), zad o.n k fun q hq e => (h2 q e).1 hq, zad o.m k fun q hq e => (h2 q e).2.1 hq, o.ml, fun x hx => ⟨zad (o.mb x hx).1 k fun q hq e => (zfC hx (h2 q e).2.2).1 hq, zad (o.mb x hx).2 k fun q hq e => (zfC hx (h2 q e).2.2).2 hq⟩⟩
theorem AccO.setN (o : AccO w B h lx A) (k : Kp w w' (own_ h.N.v)) {v : Sl} {l : List Sn} {B' : Nat} (hv : OwnSn w' B' v.v l) : AccP w' { h with N := v } lx { A with seen := l } := by
 obtain ⟨h1, h2, h3, h4⟩ := nd4 o.nd
 have o := o.p
 exact ⟨zad o.b k fun q hq e => (h1 q hq).2.1 e, zad o.s k fun q hq e => (h2 q hq).1 e, zaj hv (Nat.zero_le _), zad o.m k fun q hq e => (h3 q e).1 hq, o.ml, fun x hx => ⟨zad (o.mb x hx).1 k fun q hq e => (zfC hx (h3 q e).2).1 hq, zad (o.mb x hx).2 k fun q hq e => (zfC hx (h3 q e).2).2 hq⟩⟩
theorem AccO.setM (o : AccO w B h lx A) (k : Kp w w' (own_ h.M.v)) {v : Sl} {ly : List Mr} {l : List Ml} {B' : Nat} (hv : OwnMl w' B' v.v ly) (hl : ly.map (·.m) = l)
  (hy : ∀ y ∈ ly, y ∈ lx ∨ (OwnI w' 0 y.b.v y.m.boxes ∧ OwnT w' 0 y.f.v y.m.flags)) : AccP w' { h with M := v } ly { A with mails := l } := by
 obtain ⟨h1, h2, h3, h4⟩ := nd4 o.nd
 have o := o.p
 refine ⟨zad o.b k fun q hq e => (h1 q hq).2.2.1 e, zad o.s k fun q hq e => (h2 q hq).2.1 e, zad o.n k fun q hq e => (h3 q hq).1 e, zaj hv (Nat.zero_le _), hl, fun x hx => ?_⟩
 rcases hy x hx with hx | hx
 ·exact ⟨zad (o.mb x hx).1 k fun q hq e => (zfC hx (h4 q e)).1 hq, zad (o.mb x hx).2 k fun q hq e => (zfC hx (h4 q e)).2 hq⟩
 ·exact hx
theorem zew {w5 w6 : World} {b : Nat} {h' : Hd} {ly : List Mr} {A' : Acc} (hv : VarK w6 b 118 (accC h' A')) (P : AccP w5 h' ly A') (k : Kp w5 w6 (one_ b)) (hne : ∀ q ∈ h'.all ly, q ≠ b) : ∃ h', VarK w6 b 118 (accC h' A') ∧ AccR w6 h' A' ∧ StabA w6 h' A' :=
 ⟨h', hv, (P.keep k fun q hq e => hne q hq e).read, (P.keep k fun q hq e => hne q hq e).stab⟩
theorem Drf.all {b : Nat} (d : Drf w B b h lx A) : ∀ k ∈ h.all lx, k < b := d.lt
end
section
variable {w : World}
theorem zpU {B b : Nat} {h : Hd} {lx : List Mr} {A : Acc} {v : Ov} {o : Opr} (hd : Drf w B b h lx A) (hf : Fit A) (ho : OpR w v o) (fo : FitO o) :
  Calls Tryz.prog 52 #[.pointer (some ⟨b, 0, none⟩), .agg (opC v o).toArray] w fun e w' => Done w' b e (moveA A o) ∧ Kp w w' (from_ B) := by
 have fml := hf.ml
 have fob := fo.b
 have hbn : v.b.n = o.boxes.length := by
  obtain ⟨a, c, e, _⟩ := ho.b
  injection e
 have hnil : o.boxes = [] ↔ v.b.n = 0 := by rw [hbn, List.length_eq_zero_iff]
 refine zaa (args := [.pointer (some ⟨b, 0, none⟩), .agg (opC v o).toArray]) Tryz.func52 rfl NL ?_; refine GW ?_
 obtain ⟨a_b1, v_b1, k_w1, z_w1, r_w1⟩ := new5 w 72 (opC v o)
 generalize w.alloc (.cells (List.toArray (opC v o)) 72) = w1 at *
 generalize hs_b1 : w.heap.size = b1 at *
 refine KGO ?_
 refine CallS.of (Tryz.call95 _ _) (ac_of (w := w1) (v := v) (o := o) (hd.keep k_w1) hf.ml) ?_
 rintro e w2 ⟨hof, k2⟩
 have K2 := k_w1.trans0 k2
 have a2 := zaf a_b1 k2
 cases hA : ofA A o with
 | error c =>
  rw [hA] at hof
  subst hof
  have hc := ziF hA
  have hres : moveA A o = .error c := by unfold moveA; rw [hA]
  refine RT ?_
  refine KGO ?_
  exact ⟨by rw [hres]; rfl, K2.of_none⟩
 | ok m =>
  rw [hA] at hof
  obtain ⟨i, g, hi, rfl, hma, hxm, hid, hfirst⟩ := hof
  refine RT ?_
  have kr2 := Kp.refl w2 n_
  by_cases h1 : v.b.n = 0
  ·have hres : moveA A o = .error 1 := by unfold moveA; rw [hA]; dsimp only; rw [if_pos (hnil.2 h1)]
   refine KGO ?_
   exact ⟨by rw [hres]; rfl, K2.of_none⟩
  have hdA := hd.v.at
  refine KGO ?_
  refine CallS.of (Tryz.call94 _ _) (zjF (w := w2.drew) (h := h) (A := A) o.boxes (hd.o.read.b.keep K2.drew) (by have := hf.bl; omega) (ho.b.keep K2.drew) (by omega)) ?_
  rintro e w3 ⟨rfl, k3⟩
  have K3 := K2.drew.trans0 k3
  have a3 := zaf a2 ((Kp.refl w2 n_).drew.trans0 k3)
  refine RT ?_
  by_cases h2 : thereB A.boxes o.boxes = true
  rotate_left
  ·have h2 : thereB A.boxes o.boxes = false := by simpa using h2
   have hres : moveA A o = .error 5 := by unfold moveA; rw [hA]; dsimp only; rw [if_neg (fun e => h1 (hnil.1 e)), if_pos h2]
   rw [h2]
   refine KGO ?_
   exact ⟨by rw [hres]; rfl, K3.of_none⟩
  have hres : moveA A o = .ok ({ A with mails := updA A.mails o.id fun m => { m with boxes := sortI o.boxes, mod := A.st } }, 0) := by unfold moveA; rw [hA]; dsimp only; rw [if_neg (fun e => h1 (hnil.1 e)), if_neg (by rw [h2]; simp)]
  rw [h2]
  refine KGO ?_
  have hgM0 : h.M.v.ownBlock = some g := by
   have e : h.M.v = .slice (some ⟨g, 0, none⟩) h.M.n h.M.c := by show Value.slice h.M.a h.M.n h.M.c = _; rw [hma]
   rw [e]; rfl
  have hgb0 : g < b := hd.lt g (Hd.all_m hgM0)
  have hbw : b < w.heap.size := hd.v.lt
  have hd3 := zaf hdA K3
  have hS1 : ∀ u, Kp w3 u (one_ g) → At u b1 0 (opC v o) := fun u hu => zav a3 hu fun e => by have e : b1 = g := e; omega
  have hS2 : ∀ u, Kp w3 u (one_ g) → At u b 0 (accC h A) := fun u hu => zav hd3 hu fun e => by have e : b = g := e; omega
  refine Draw.held (fun u => Kp w3 u (one_ g)) (fun _ => true) (by decide +kernel) (Kp.refl _ _).drew ?_
  refine KGO ?_
  refine Held.one (by rfl) (fun u hu => hS1 u hu 39 _ rfl) ?_
  refine KGO ?_
  refine CallS.of (Tryz.call91 _ _) (zec (w := w3.drew) o.boxes (ho.b.keep K3.drew) (by omega)) ?_
  rintro e w4 ⟨v4, rfl, o4, k4⟩
  obtain ⟨a4, c4, rfl⟩ := zac o4
  have J4 : Kp w3 w4 n_ := (Kp.refl w3 n_).drew.trans0 k4
  have K4 := K3.trans0 J4
  have kS : Kp w3 w4 (one_ g) := J4.of_none
  refine RT ?_
  refine ⟨kS, ?_⟩
  refine KGO ?_
  refine Held.one (by rfl) (fun u hu => hS2 u hu 7 _ rfl) ?_
  refine KGO ?_
  generalize hx : lx[i] = x at *
  subst hxm
  have oM := zab hd.o.m K4
  rcases own_blockK oM with ⟨_, h0⟩ | ⟨gM, cap, cells, heM, hBg, hvM, hnc, hcm, hcl, htk⟩
  ·omega
  have heM' := heM
  injection heM with heM1 heM2 heM3
  rw [hma] at heM1
  injection heM1 with heM1
  injection heM1 with heM1
  subst heM1
  refine Store.atK (i := 0 + i * 38 + 33) hvM (by rw [hcl]; omega) (by rfl) ⟨rfl, by simp, by simp⟩ fun wA vA kA => ?_
  refine ⟨(kS.trans' kA), ?_⟩
  rw [show 0 + i * 38 + 33 = i * 38 + 33 by omega] at vA
  have oA := zbm (w := w4) lenMl (l := lx) (k := i) (j := 33) (x := ⟨x.m, ⟨a4, (sortI o.boxes).length, c4⟩, x.f⟩) hi (by decide) (by rw [hx]; rfl) hBg hnc hcm hcl htk vA
  rcases own_blockK oA with ⟨hq, _⟩ | ⟨gA, capA, cellsA, heA, hBA, hvA, hncA, hcmA, hclA, htkA⟩
  ·cases hq
  injection heA with heA1 heA2 heA3
  injection heA1 with heA1
  injection heA1 with heA1
  subst heA1; subst heA3
  refine KGO ?_
  refine Store.atK (i := 0 + i * 38 + 37) hvA (by rw [hclA]; omega) (by rfl) ⟨rfl, by simp, by simp⟩ fun wB vB kB => ?_
  refine ⟨(kS.trans' kA).trans' kB, ?_⟩
  rw [show 0 + i * 38 + 37 = i * 38 + 37 by omega] at vB
  have oB := zbm (w := wA) lenMl (l := lx.set i ⟨x.m, ⟨a4, (sortI o.boxes).length, c4⟩, x.f⟩) (k := i) (j := 37) (x := ⟨{ x.m with boxes := sortI o.boxes, mod := A.st }, ⟨a4, (sortI o.boxes).length, c4⟩, x.f⟩) (by rw [List.length_set]; exact hi) (by decide) (by rw [List.getElem_set_self]; rfl) hBA (by rw [List.length_set]; exact hncA) hcmA hclA (by rw [List.length_set]; exact htkA) vB
  rw [List.length_set, List.set_set] at oB
  have kAB := kA.trans' kB
  have hrowB : OwnMl wB B h.M.v (lx.set i ⟨{ x.m with boxes := sortI o.boxes, mod := A.st }, ⟨a4, (sortI o.boxes).length, c4⟩, x.f⟩) := by
   rw [heM']
   unfold OwnMl
   rw [List.length_set]
   exact oB
  have hgM : h.M.v.ownBlock = some g := by rw [heM']; rfl
  have hneM := zlM hd.o K4 kAB hgM
  have hgb : g < w.heap.size := by have := hd.lt g (List.mem_append_left _ (List.mem_append_right _ (zau.2 hgM))); have := hd.v.lt; omega
  refine KGO ?_
  refine ⟨?_, zgs K4 kAB hBg⟩
  rw [hres]
  refine ⟨rfl, zms hd K4 kAB hgM hrowB (fun y hy => ?_) ?_⟩
  ·rcases List.mem_or_eq_of_mem_set hy with hy | rfl
   ·exact hneM y hy
   ·have hx2 := hneM x (by rw [← hx]; exact List.getElem_mem hi)
    exact ⟨zaj (zck o4 kAB fun k hk => by have := (o4.lt k hk).1; have := K3.drew.size; omega) (Nat.zero_le _), hx2.2⟩
  ·rw [← zoE hd.o.ml hi (by rw [hx]; exact hid) hfirst (fun m => { m with boxes := sortI o.boxes, mod := A.st }) (by rw [hx])]
end
end Go.Proofs.YtcplagfblmemhaaGreatDoor
