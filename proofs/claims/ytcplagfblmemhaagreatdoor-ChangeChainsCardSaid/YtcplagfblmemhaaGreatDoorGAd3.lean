/- Helper text of this claim: lemmas and contracts that the proved statement rests on; no conditions of its own. -/
import Derived.Test.YtcplagfblmemhaaGreatDoorGAd1
namespace Go.Proofs.YtcplagfblmemhaaGreatDoor
set_option linter.unusedVariables false
set_option maxHeartbeats 8000000
open Go.Shelf Go.RowKit Go.Pw Go.Vc Go.Cs Go.Lib
set_option linter.unusedVariables false
set_option maxRecDepth 100000
section
variable {w : World}
theorem zkd {B b : Nat} {h : Hd} {lx : List Mr} {A : Acc} {v : Ov} {o : Opr} (hd : Drf w B b h lx A) (hf : Fit A) :
  Calls Tryz.prog 53 #[.pointer (some ⟨b, 0, none⟩), .agg (opC v o).toArray] w fun e w' => Done w' b e (destroyA A o) ∧ Kp w w' (from_ B) := by
 have fml := hf.ml
 refine zaa (args := [.pointer (some ⟨b, 0, none⟩), .agg (opC v o).toArray]) Tryz.func53 rfl NL ?_; refine GW ?_
 obtain ⟨a_b1, v_b1, k_w1, z_w1, r_w1⟩ := new5 w 72 (opC v o)
 generalize w.alloc (.cells (List.toArray (opC v o)) 72) = w1 at *
 generalize hs_b1 : w.heap.size = b1 at *
 refine KGO ?_
 refine CallS.of (Tryz.call95 _ _) (ac_of (w := w1) (v := v) (o := o) (hd.keep k_w1) hf.ml) ?_
 rintro e w2 ⟨hof, k2⟩
 have K2 := k_w1.trans0 k2
 have a2 := zaf a_b1 k2
 cases hA : ofA A o with
 | error c =>
  rw [hA] at hof
  subst hof
  have hc := ziF hA
  have hres : destroyA A o = .error c := by unfold destroyA; rw [hA]
  refine RT ?_
  refine KGO ?_
  exact ⟨by rw [hres]; rfl, K2.of_none⟩
 | ok m =>
  rw [hA] at hof
  obtain ⟨i, g, hi, rfl, hma, hxm, hid, hfirst⟩ := hof
  have hres : destroyA A o = .ok ({ A with mails := delA A.mails o.id }, 0) := by unfold destroyA; rw [hA]
  refine RT ?_
  have kr2 := Kp.refl w2 n_
  have hdA := hd.v.at
  refine KGO ?_
  refine CallS.of (Tryz.call39 _ _) (ziX (w := w2.drew) (h := h) (A := A) o.id (hd.o.read.keep K2.drew) (by omega)) ?_
  rintro e w3 ⟨rfl, k3⟩
  have K3 := K2.drew.trans0 k3
  refine RT ?_
  have hlen : lx.length = A.mails.length := by rw [← hd.o.ml, List.length_map]
  have hxj : ∀ j (hj : j < lx.length), A.mails[j]'(by omega) = (lx[j]).m := fun j hj => by simp [← hd.o.ml]
  have hpl : placeL A.mails o.id = (i : Nat) := by
   rcases place_find A.mails o.id with ⟨hp, hfd⟩ | ⟨i', hi', hp, hfd, hid', hfirst'⟩
   ·exfalso
    have := List.find?_eq_none.1 hfd (A.mails[i]'(by omega)) (List.getElem_mem _)
    apply this
    rw [hxj i hi, hxm]
    simpa using hid
   ·rw [hp]
    congr 1
    rcases Nat.lt_trichotomy i' i with q | q | q
    ·exact absurd (by rw [← hxj i' (by omega)]; exact hid') (hfirst i' q)
    ·exact q
    ·exact absurd (by rw [hxj i hi, hxm]; exact hid) (hfirst' i q)
  rw [hpl]
  refine KGO ?_
  have o3 := zab hd.o.m K3
  refine CallS.of (Tryz.call99 _ _) (zqI (w := w3) lx i o3 hi (by omega)) ?_
  rintro e w4 ⟨v4, rfl, o4, k4, hb4⟩
  have hd3 := hd.keep K3
  obtain ⟨a4, c4, rfl⟩ := zac o4
  have hown : ∀ q, own_ h.M.v q → q < b := fun q hq => hd.lt q (Hd.all_m hq)
  have vA := hd3.v.keep k4 fun e => by have := hown b e; omega
  have P := hd3.o.setM (v := ⟨a4, _, c4⟩) k4 o4 (l := delA A.mails o.id) (by
   rw [List.map_append, List.map_take, List.map_drop, hd.o.ml]
   exact (zjW o.id A.mails i (by omega) (by rw [hxj i hi, hxm]; exact hid) fun j hj => by rw [hxj j (by omega)]; exact hfirst j hj).symm) fun y hy => .inl (by
    rcases List.mem_append.1 hy with hy | hy
    ·exact List.mem_of_mem_take hy
    ·exact List.mem_of_mem_drop hy)
  refine RT ?_
  refine KGO ?_
  refine SCK 1 vA fun w5 vA5 k5 => ?_
  refine KGO ?_
  rw [hres]
  refine ⟨⟨rfl, zew (h' := { h with M := ⟨a4, _, c4⟩ }) vA5 P k5 fun q hq => ?_⟩, (K3.of_none.trans' (k4.mono fun q _ hq => ?_)).trans' (k5.mono fun q _ hq => ?_)⟩
  ·have hall : q ∈ h.all lx ∨ (Value.slice a4 (lx.take i ++ lx.drop (i + 1)).length c4).ownBlock = some q := by
    unfold Hd.all Hd.bs at hq
    simp only [List.mem_append, zau] at hq
    rcases hq with (((hq | hq) | hq) | hq) | hq
    ·exact .inl (Hd.all_b hq)
    ·exact .inl (Hd.all_s hq)
    ·exact .inl (Hd.all_n hq)
    ·exact .inr hq
    ·obtain ⟨x, hx, hq⟩ := List.mem_flatMap.1 hq
     refine .inl (List.mem_append_right _ (List.mem_flatMap.2 ⟨x, ?_, hq⟩))
     rcases List.mem_append.1 hx with hx | hx
     ·exact List.mem_of_mem_take hx
     ·exact List.mem_of_mem_drop hx
   rcases hall with hq | hq
   ·have := hd.lt q hq; omega
   ·rw [hb4] at hq
    have := hown q hq; omega
  ·exact (hd.o.m.lt q hq).1
  ·have e : q = b := hq
   have := hd.B
   show B ≤ q
   omega
theorem zjR {B B2 b c : Nat} {h : Hd} {lx : List Mr} {A : Acc} {v : Value} (l : List Bx) (hd : Drf w B b h lx A) (hv : OwnB w B2 v l) (hB : b < B2) :
  Calls Tryz.prog 100 #[.pointer (some ⟨b, 0, none⟩), v, .int .i64 (c : Nat)] w fun e w' => Done w' b e (boxesA A (l, c)) ∧ Kp w w' (from_ B) := by
 obtain ⟨a, cp, rfl⟩ := zac hv
 refine zaa (args := [.pointer (some ⟨b, 0, none⟩), .slice a l.length cp, .int .i64 (c : Nat)]) Tryz.func100 rfl NL ?_; refine GW ?_
 by_cases h0 : c = 0
 ·subst h0
  refine KGO ?_
  refine SCK 0 hd.v fun w5 vA5 k5 => ?_
  refine KGO ?_
  have hres : boxesA A (l, 0) = .ok ({ A with boxes := l }, 0) := by simp [boxesA]
  rw [hres]
  refine ⟨⟨rfl, zew (h' := { h with B := ⟨a, _, cp⟩ }) vA5 (hd.o.p.setB hv) k5 fun q hq => ?_⟩, k5.mono fun q _ hq => ?_⟩
  ·unfold Hd.all Hd.bs at hq
   simp only [List.mem_append, zau] at hq
   rcases hq with (((hq | hq) | hq) | hq) | hq
   ·have := (hv.lt q hq).1; omega
   ·have := hd.lt q (Hd.all_s hq); omega
   ·have := hd.lt q (Hd.all_n hq); omega
   ·have := hd.lt q (Hd.all_m hq); omega
   ·have := hd.lt q (List.mem_append_right _ hq); omega
  ·have e : q = b := hq
   have := hd.B
   show B ≤ q
   omega
 ·have hres : boxesA A (l, c) = .error c := by simp [boxesA, h0]
  rw [hres]
  refine KGO ?_
  exact ⟨rfl, Kp.refl _ _⟩
end
theorem Done.returned {w : World} {b : Nat} {e : Ending} {r : Except Nat (Acc × Int)} (h : Done w b e r) : ∃ n c : Int, e = .returned (.tuple #[.int .i64 n, .int .i64 c]) := by
 cases r with
 | error c => exact ⟨_, _, h⟩
 | ok r => exact ⟨_, _, h.1⟩
section
variable {w : World}
theorem zei {B : Nat} {w w1 w2 : World} (k : Kp w w1 n_) (k2 : Kp w1 w2 (from_ B)) : Kp w w2 (from_ B) := k.of_none.trans' k2
theorem zpH {B b : Nat} {h : Hd} {lx : List Mr} {A : Acc} {v : Ov} {o : Opr} (hd : Drf w B b h lx A) (hf : Fit A) (fo : FitO o) (hE : BEnv w) :
  Calls Tryz.prog 55 #[.pointer (some ⟨b, 0, none⟩), .agg (opC v o).toArray] w fun e w' => Done w' b e (nameA A o) ∧ Kp w w' (from_ B) := by
 refine zaa (args := [.pointer (some ⟨b, 0, none⟩), .agg (opC v o).toArray]) Tryz.func55 rfl NL ?_; refine GW ?_
 obtain ⟨a_b1, v_b1, k_w1, z_w1, r_w1⟩ := new5 w 72 (opC v o)
 generalize w.alloc (.cells (List.toArray (opC v o)) 72) = w1 at *
 generalize hs_b1 : w.heap.size = b1 at *
 have hdA := hd.v.at
 refine KGO ?_
 refine CallS.of (Tryz.call101 _ _) (zqc (w := w1.drew) A.boxes o.box o.name (hd.o.read.b.keep k_w1.drew) hf.bl hf.bs fo.nm (hE.keep k_w1.drew)) ?_
 rintro e w2 ⟨v2, rfl, o2, k2⟩
 have K2 := k_w1.drew.trans0 k2
 have hbw : b < w.heap.size := hd.v.lt
 obtain ⟨a2, c2, rfl⟩ := zac o2
 refine RT ?_
 refine KGO ?_
 refine CallS.of (Tryz.call100 _ _) (zjR (w := w2) (c := (nameL A.boxes o.box o.name).2) (nameL A.boxes o.box o.name).1 (hd.keep K2) o2 (by have := k_w1.drew.size; omega)) ?_
 rintro e w3 ⟨hD, k3⟩
 obtain ⟨n, c, rfl⟩ := hD.returned
 refine RT ?_
 refine KGO ?_
 exact ⟨hD, zei K2 k3⟩
theorem zpp {B b : Nat} {h : Hd} {lx : List Mr} {A : Acc} {v : Ov} {o : Opr} (hd : Drf w B b h lx A) (hf : Fit A) (hE : BEnv w) :
  Calls Tryz.prog 56 #[.pointer (some ⟨b, 0, none⟩), .agg (opC v o).toArray] w fun e w' => Done w' b e (hangA A o) ∧ Kp w w' (from_ B) := by
 refine zaa (args := [.pointer (some ⟨b, 0, none⟩), .agg (opC v o).toArray]) Tryz.func56 rfl NL ?_; refine GW ?_
 obtain ⟨a_b1, v_b1, k_w1, z_w1, r_w1⟩ := new5 w 72 (opC v o)
 generalize w.alloc (.cells (List.toArray (opC v o)) 72) = w1 at *
 generalize hs_b1 : w.heap.size = b1 at *
 have hdA := hd.v.at
 refine KGO ?_
 refine CallS.of (Tryz.call102 _ _) (zpa (w := w1.drew) A.boxes o.box o.up (hd.o.read.b.keep k_w1.drew) hf.bl hf.bs (hE.keep k_w1.drew)) ?_
 rintro e w2 ⟨v2, rfl, o2, k2⟩
 have K2 := k_w1.drew.trans0 k2
 have hbw : b < w.heap.size := hd.v.lt
 obtain ⟨a2, c2, rfl⟩ := zac o2
 refine RT ?_
 refine KGO ?_
 refine CallS.of (Tryz.call100 _ _) (zjR (w := w2) (c := (moveL A.boxes o.box o.up).2) (moveL A.boxes o.box o.up).1 (hd.keep K2) o2 (by have := k_w1.drew.size; omega)) ?_
 rintro e w3 ⟨hD, k3⟩
 obtain ⟨n, c, rfl⟩ := hD.returned
 refine RT ?_
 refine KGO ?_
 exact ⟨hD, zei K2 k3⟩
theorem zqv {B b : Nat} {h : Hd} {lx : List Mr} {A : Acc} {v : Ov} {o : Opr} (hd : Drf w B b h lx A) (hf : Fit A) (fo : FitO o) (hE : BEnv w) :
  Calls Tryz.prog 54 #[.pointer (some ⟨b, 0, none⟩), .agg (opC v o).toArray] w fun e w' => Done w' b e (addA A o) ∧ Kp w w' (from_ B) := by
 have hnb := hf.nb
 refine zaa (args := [.pointer (some ⟨b, 0, none⟩), .agg (opC v o).toArray]) Tryz.func54 rfl NL ?_; refine GW ?_
 obtain ⟨a_b1, v_b1, k_w1, z_w1, r_w1⟩ := new5 w 72 (opC v o)
 generalize w.alloc (.cells (List.toArray (opC v o)) 72) = w1 at *
 generalize hs_b1 : w.heap.size = b1 at *
 have hdA := hd.v.at
 by_cases h1 : 1099511627776 ≤ A.nb
 ·have hres : addA A o = .error 3 := by unfold addA; rw [if_pos h1]
  refine KGO ?_
  exact ⟨by rw [hres]; rfl, k_w1.of_none⟩
 refine KGO ?_
 refine CallS.of (Tryz.call49 _ _) (zoG (w := w1.drew) A.boxes o.up o.name o.role A.nb (hd.o.read.b.keep k_w1.drew) hf.bl hf.bs fo.nm (hE.keep k_w1.drew)) ?_
 rintro e w2 ⟨v2, rfl, o2, k2⟩
 have K2 := k_w1.drew.trans0 k2
 have hbw : b < w.heap.size := hd.v.lt
 have hz1 := k_w1.drew.size
 obtain ⟨a2, c2, rfl⟩ := zac o2
 refine RT ?_
 by_cases h2 : (addL A.boxes o.up o.name o.role A.nb).2 = 0
 rotate_left
 ·have hres : addA A o = .error (addL A.boxes o.up o.name o.role A.nb).2 := by unfold addA; rw [if_neg h1, if_pos h2]
  generalize addL A.boxes o.up o.name o.role A.nb = r at *
  refine KGO ?_
  exact ⟨by rw [hres]; rfl, K2.of_none⟩
 have hres : addA A o = .ok ({ A with boxes := (addL A.boxes o.up o.name o.role A.nb).1, nb := A.nb + 1 }, A.nb) := by unfold addA; rw [if_neg h1, if_neg (fun e => e h2)]
 rw [h2]
 generalize addL A.boxes o.up o.name o.role A.nb = r at *
 refine KGO ?_
 refine Store.cellK (i := 0) (hd.v.keep0 K2) NL (by rfl) ⟨rfl, by simp, by simp⟩ fun w3 v3 k3 => ?_
 have hd3 := v3.at
 refine KGO ?_
 refine SCK 6 v3 fun w4 v4 k4 => ?_
 have hd4 := v4.at
 refine KGO ?_
 rw [hres]
 have k34 := k3.trans' k4
 refine ⟨⟨?_, zew (w5 := w2) (ly := lx) (h' := { h with B := ⟨a2, _, c2⟩ }) (A' := { A with boxes := r.1, nb := A.nb + 1 }) v4 ?_ k34 fun q hq => ?_⟩, zei K2 (k34.mono fun q _ hq => ?_)⟩
 ·rw [show A.nb + 1 - 1 = A.nb by omega]
 ·have := (hd.keep K2).o.p.setB (v := ⟨a2, _, c2⟩) o2
  exact ⟨this.b, this.s, this.n, this.m, this.ml, this.mb⟩
 ·unfold Hd.all Hd.bs at hq
  simp only [List.mem_append, zau] at hq
  rcases hq with (((hq | hq) | hq) | hq) | hq
  ·have := (o2.lt q hq).1; omega
  ·have := hd.lt q (Hd.all_s hq); omega
  ·have := hd.lt q (Hd.all_n hq); omega
  ·have := hd.lt q (Hd.all_m hq); omega
  ·have := hd.lt q (List.mem_append_right _ hq); omega
 ·have e : q = b := hq
  have := hd.B
  show B ≤ q
  omega
end
section
variable {w : World}
theorem znO {f : Fr} {x : Operand} (w : World) (hx : ev f x = .int .i64 0 := by rfl) : (Instr.sliceAt 33 (.slice none 0 0) ((some x).map (ev f)) none none).run Tryz.prog w = .ok (.slice none 0 0) w := by
 obtain ⟨i, hi, _, hs, _⟩ := zbg infoSrc
 simp [Instr.sliceAt, hx, Instr.slice, Instr.sliceBounds, go_sem, zaA Tryz.underlying33, zbi hi]
theorem zrf {vb g o n c : Nat} {cells : List Value} {b : Sc} (hvb : VarK w vb 49 (srcC b)) (hv : VarK w g 49 cells) (hne : vb ≠ g) (h0 : cells.length ≠ 0) :
  (callFunc 159 #[.slice (some ⟨vb, 0, none⟩) 1 1, .slice (some ⟨g, o, none⟩) n c]).run Tryz.prog w = .ok (.value (.bool false)) w := by
 have hsz : ∀ w, (Go.sizeOf 49).run Tryz.prog w = .ok 2 w := fun w => by
  obtain ⟨i, hi, _, hs, _⟩ := zbg infoSrc
  rw [zbi hi, hs]
 rw [run_callFunc_extern Tryz.func159 (by kernel_rfl) (by kernel_rfl) (by kernel_rfl) (e := Extern.SlicesOverlaps.overlaps #[33, 33] #[4]) (by kernel_rfl),
  Lib.run_overlaps_apart w 33 4 49 Tryz.underlying33 2 hsz ⟨vb, 0, none⟩ ⟨g, o, none⟩ 1 1 n c hne _ _ _ _ hvb.shape hv.shape h0 (hvb.frozen 0) (hvb.frozen _)]
 rfl
theorem zpQ {v : Value} {B vb : Nat} (l : List Sc) (i : Nat) (b : Sc) (ho : OwnSrc w B v l) (hB : B ≤ w.heap.size) (hi : i ≤ l.length) (hl : l.length ≤ 1000) (hvb : VarK w vb 49 (srcC b)) (hne : ∀ g, v.ownBlock = some g → g ≠ vb) :
  Calls Tryz.prog 108 #[v, .int .i64 (i : Nat), .slice (some ⟨vb, 0, none⟩) 1 1] w fun e w' => ∃ v', e = .returned v' ∧ OwnSrc w' B v' (l.take i ++ b :: l.drop i) ∧ Kp w w' (fun k => w.heap.size ≤ k ∨ own_ v k) := by
 have hlenK := zay srcC 2 lenSrc
 have htkK := zbb srcC 2 lenSrc
 have hdrK := zbc srcC 2 lenSrc
 have hnews : ∀ j u, (srcC b)[j]? = some u → w.cell? ((⟨vb, 0, none⟩ : Addr).add j) = some u := hvb.cells w 0 fun j u h => by simpa using h
 by_cases hin : i = l.length
 ·subst hin
  have hend : ∀ v' w', w'.ownsRow B 49 2 v' (l.length + 1) (l.flatMap srcC ++ srcC b) → w.grownBy w' v.ownBlock → OwnSrc w' B v' (l.take l.length ++ b :: l.drop l.length) ∧ Kp w w' (fun k => w.heap.size ≤ k ∨ own_ v k) := fun v' w' h1 h2 => by
   rw [List.take_length, List.drop_length]
   refine ⟨?_, ⟨h2.os, h2.tape, h2.output, h2.size, fun k hk hn => h2.block k hk fun e => hn (.inr e.symm)⟩⟩
   unfold OwnSrc
   rw [List.length_append, List.flatMap_append]
   simpa using h1
  have happ : ∀ {K : Value → World → Prop} {cs : Array Bool}, (∀ v' w', w'.ownsRow B 49 2 v' (l.length + 1) (l.flatMap srcC ++ srcC b) → w.grownBy w' v.ownBlock → K v' w') → RunN Tryz.prog (builtin .append #[33, 33] 33 cs [v, .slice (some ⟨vb, 0, none⟩) 1 1].toArray) w K := fun k =>
   RunN.app Tryz.underlying33 infoSrc rfl (by decide) ho hB ⟨vb, 0, none⟩ 1 1 (srcC b) rfl hnews (by have := oneSrc [b]; simpa using this) (by omega) (by omega) k
  rcases own_blockK ho with ⟨rfl, h0⟩ | ⟨g, cap, cells, rfl, hBg, hv, hnc, hcm, hcl, htk⟩
  ·rw [h0] at *
   refine zaa (args := [.slice none 0 0, .int .i64 (0 : Nat), .slice (some ⟨vb, 0, none⟩) 1 1]) Tryz.func108 rfl NL ?_; refine GW ?_
   refine RunV.of (v := .slice none 0 0) (w' := w) (znO _) ?_
   refine KGO ?_
   refine happ fun v' w' h1 h2 => ?_
   obtain ⟨q1, q2⟩ := hend v' w' h1 h2
   obtain ⟨a', c', rfl⟩ := zac h1
   refine KGO ?_
   exact ⟨_, rfl, q1, q2⟩
  ·refine zaa (args := [.slice (some ⟨g, 0, none⟩) l.length cap, .int .i64 (l.length : Nat), .slice (some ⟨vb, 0, none⟩) 1 1]) Tryz.func108 rfl NL ?_; refine GW ?_
   refine KGO ?_
   refine happ fun v' w' h1 h2 => ?_
   obtain ⟨q1, q2⟩ := hend v' w' h1 h2
   obtain ⟨a', c', rfl⟩ := zac h1
   refine KGO ?_
   exact ⟨_, rfl, q1, q2⟩
 ·rcases own_blockK ho with ⟨rfl, h0⟩ | ⟨g, cap, cells, rfl, hBg, hv, hnc, hcm, hcl, htk⟩
  ·omega
  have hgvb : g ≠ vb := hne g rfl
  have hcells : cells = (l.take i).flatMap srcC ++ ((l.drop i).flatMap srcC ++ cells.drop (l.length * 2)) := by
   conv => lhs; rw [← List.take_append_drop (l.length * 2) cells, htk, ← List.take_append_drop (i * 2) (l.flatMap srcC), htkK, hdrK]
   rw [List.append_assoc]
  have hA : ((l.take i).flatMap srcC).length = i * 2 := by rw [hlenK, List.length_take, Nat.min_eq_left hi]
  have hD : ((l.drop i).flatMap srcC).length = (l.length - i) * 2 := by rw [hlenK, List.length_drop]
  have hres : ((l.take i ++ b :: l.drop i).flatMap srcC) = (l.take i).flatMap srcC ++ srcC b ++ (l.drop i).flatMap srcC := by
   rw [List.flatMap_append, List.flatMap_cons, List.append_assoc]
  have hresl : (l.take i ++ b :: l.drop i).length = l.length + 1 := by rw [List.length_append, List.length_cons, List.length_take, List.length_drop]; omega
  have hsrcD : ∀ (w' : World), VarK w' g 49 cells → ∀ j u, ((l.drop i).flatMap srcC)[j]? = some u → w'.cell? ((⟨g, 0 + i * 2, none⟩ : Addr).add j) = some u := fun w' h => h.cells w' _ fun j u hj => by
   rw [hcells, Nat.zero_add, List.getElem?_append_right (by omega), hA, Nat.add_sub_cancel_left, List.getElem?_append_left (by
    have := (List.getElem?_eq_some_iff.1 hj).1; exact this)]
   exact hj
  generalize hAe : (l.take i).flatMap srcC = A at *
  generalize hDe : (l.drop i).flatMap srcC = D at *
  refine zaa (args := [.slice (some ⟨g, 0, none⟩) l.length cap, .int .i64 (i : Nat), .slice (some ⟨vb, 0, none⟩) 1 1]) Tryz.func108 rfl NL ?_; refine GW ?_
  refine KGO ?_
  refine RunN.capK Tryz.underlying33 ?_
  by_cases hcap : cap < l.length + 1
  ·refine KGO ?_
   rw [if_neg (by omega : ¬ 0 = cap), show ((l.length : Nat) : Int) + ((1 : Nat) : Int) - ((i : Nat) : Int) = ((l.length + 1 - i : Nat) : Int) by omega, Nat.sub_zero, Nat.sub_zero]
   refine RunN.zerosK (olds := A) Tryz.underlying33 Tryz.underlying3 infoSrc rfl (by decide) hA (hv.cells w 0 fun j u hj => by rw [hcells, Nat.zero_add, List.getElem?_append_left (List.getElem?_eq_some_iff.1 hj).1]; exact hj) (by omega) (by omega) (by omega) (by omega) fun w1 tail c' v1 hlen hge hcm' k1 => ?_
   rw [show i + (l.length + 1 - i) = l.length + 1 by omega] at hge ⊢
   have hvb1 := hvb.keep0 k1
   have hv1 := hv.keep0 k1
   have hB2 : B ≤ w.heap.size := hB
   have hg2 : g ≠ w.heap.size := by have := hv.lt; omega
   have hvb2 : vb ≠ w.heap.size := by have := hvb.lt; omega
   have hkB : ∀ {x y : World}, Kp x y (one_ w.heap.size) → Kp x y (fun k => w.heap.size ≤ k ∨ own_ (.slice (some ⟨g, 0, none⟩) l.length cap) k) := fun k => k.mono fun q _ e => by
    have e : q = _ := e
    exact .inl (by omega)
   generalize w.heap.size = g2 at *
   refine KGO ?_
   rw [if_neg (by omega : ¬ i = c')]
   refine RunN.copyK Tryz.underlying33 infoSrc v1 (a := ⟨vb, 0, none⟩) (news := srcC b) (m := 1) (by omega) rfl (hvb1.cells _ 0 fun j u h => by simpa using h) (by have := oneSrc [b]; simpa using this) (by rw [hlen, lenSrc]; omega) fun w2 v2 k2 => ?_
   have v2 : VarK w2 g2 49 (patch (A ++ tail) (0 + i * 2) (srcC b)) := v2
   rw [zbw A tail (srcC b) (0 + i * 2) (by rw [hA]; omega), lenSrc] at v2
   have hv2 : VarK w2.drew g 49 cells := hv1.keep (k2.drew) fun e => by
    have e : g = g2 := e
    exact hg2 e
   have v2d : VarK w2.drew g2 49 (A ++ srcC b ++ tail.drop 2) := v2
   have htl : (A ++ tail).length = A.length + tail.length := List.length_append
   have htd : (tail.drop 2).length = tail.length - 2 := List.length_drop
   refine KGO ?_
   rw [if_neg (by omega : ¬ i + 1 = c'), if_neg (by omega : ¬ i = cap)]
   refine RunN.copyK Tryz.underlying33 infoSrc v2d (a := ⟨g, 0 + i * 2, none⟩) (news := D) (m := l.length - i) (by omega) hD (hsrcD _ hv2) (by rw [← hDe]; exact oneSrc _) (by rw [List.length_append, List.length_append, hA, htd, hD, lenSrc]; omega) fun w3 v3 k3 => ?_
   have v3 : VarK w3 g2 49 (patch (A ++ srcC b ++ tail.drop 2) (0 + (i + 1) * 2) D) := v3
   rw [zbw (A ++ srcC b) (tail.drop 2) D (0 + (i + 1) * 2) (by rw [List.length_append, hA, lenSrc]; omega)] at v3
   refine KGO ?_
   refine ⟨_, rfl, ?_, ((k1.of_none.trans' (hkB k2)).drew).trans' (hkB k3)⟩
   unfold OwnSrc
   rw [hresl, hres]
   have hrl : (A ++ srcC b ++ D).length = (l.length + 1) * 2 := by rw [List.length_append, List.length_append, hA, hD, lenSrc]; omega
   exact zbj (by omega) v3 hge hcm' (by rw [List.length_append, hrl, List.length_drop, htd, hD]; omega) (by rw [← hrl, List.take_left]) hrl
  ·refine KGO ?_
   refine CallS.ext (zrf hvb hv (fun e => hgvb e.symm) (by rw [hcl]; omega)) ?_
   refine KGO ?_
   rw [if_neg (by omega : ¬ i + 1 = cap - 0), if_neg (by omega : ¬ i = cap - 0), if_neg (by omega : ¬ 0 = cap)]
   have hsrc : ∀ (w' : World), VarK w' g 49 cells → ∀ j u, D[j]? = some u → w'.cell? ((⟨g, 0 + 0 * 2 + i * 2, none⟩ : Addr).add j) = some u := fun w' h j u hj => by
    have := hsrcD w' h j u hj
    rwa [show 0 + 0 * 2 + i * 2 = 0 + i * 2 by omega]
   have hTl : (cells.drop (l.length * 2)).length = (cap - l.length) * 2 := by rw [List.length_drop, hcl]; omega
   generalize cells.drop (l.length * 2) = T at *
   have hvd : VarK w.drew g 49 (A ++ (D ++ T)) := by rw [← hcells]; exact hv
   have hADT : (A ++ (D ++ T)).length = cap * 2 := by rw [← hcells, hcl]
   refine RunN.copyK Tryz.underlying33 infoSrc hvd (a := ⟨g, 0 + 0 * 2 + i * 2, none⟩) (news := D) (m := l.length - i) (by omega) hD (hsrc _ hv) (by rw [← hDe]; exact oneSrc _) (by rw [hADT, hD]; omega) fun w2 v2 k2 => ?_
   have hpl : (patch (A ++ (D ++ T)) (0 + 0 * 2 + (i + 1) * 2) D).length = cap * 2 := by rw [zdL (by rw [hADT, hD]; omega), hADT]
   have v2 : VarK w2 g 49 (patch (A ++ (D ++ T)) (0 + 0 * 2 + (i + 1) * 2) D) := v2
   obtain ⟨X, hX, hXl⟩ : ∃ X : List Value, A ++ (D ++ T) = A ++ X ++ (D ++ T).drop 2 ∧ X.length = 2 := ⟨(D ++ T).take 2, by rw [List.append_assoc, List.take_append_drop], by rw [List.length_take, List.length_append, hD, hTl]; omega⟩
   rw [hX, zbw (A ++ X) ((D ++ T).drop 2) D (0 + 0 * 2 + (i + 1) * 2) (by rw [List.length_append, hA, hXl]; omega), show A ++ X ++ D ++ ((D ++ T).drop 2).drop D.length = A ++ (X ++ D ++ ((D ++ T).drop 2).drop D.length) by simp] at v2
   have hlen2 : (A ++ (X ++ D ++ ((D ++ T).drop 2).drop D.length)).length = cap * 2 := by
    rw [← hpl, hX, zbw (A ++ X) ((D ++ T).drop 2) D (0 + 0 * 2 + (i + 1) * 2) (by rw [List.length_append, hA, hXl]; omega)]
    simp
   have hvbd : VarK w.drew vb 49 (srcC b) := hvb
   have hvb2 := hvbd.keep k2 fun e => by
    have e : vb = g := e
    exact hgvb e.symm
   refine KGO ?_
   rw [if_neg (by omega : ¬ i = cap - 0)]
   refine RunN.copyK Tryz.underlying33 infoSrc v2 (a := ⟨vb, 0, none⟩) (news := srcC b) (m := 1) (by omega) rfl (hvb2.cells _ 0 fun j u h => by simpa using h) (by have := oneSrc [b]; simpa using this) (by rw [hlen2, lenSrc]; omega) fun w3 v3 k3 => ?_
   have v3 : VarK w3 g 49 (patch (A ++ (X ++ D ++ ((D ++ T).drop 2).drop D.length)) (0 + 0 * 2 + i * 2) (srcC b)) := v3
   have hl3 := zdL (cells := A ++ (X ++ D ++ ((D ++ T).drop 2).drop D.length)) (o := 0 + 0 * 2 + i * 2) (news := srcC b) (by rw [hlen2, lenSrc]; omega)
   rw [zbw A (X ++ D ++ ((D ++ T).drop 2).drop D.length) (srcC b) (0 + 0 * 2 + i * 2) (by rw [hA]; omega), lenSrc, List.append_assoc X, List.drop_append_of_le_length (by omega), List.drop_of_length_le (by omega), List.nil_append] at v3 hl3
   refine KGO ?_
   have hkB : ∀ {x y : World}, Kp x y (one_ g) → Kp x y (fun k => w.heap.size ≤ k ∨ own_ (.slice (some ⟨g, 0, none⟩) l.length cap) k) := fun k => k.mono fun q _ e => by
    have e : q = g := e
    exact .inr (by rw [e]; rfl)
   refine ⟨_, rfl, ?_, (((Kp.refl w _).drew).trans' (hkB k2)).trans' (hkB k3)⟩
   unfold OwnSrc
   rw [hresl, hres]
   have hrl : (A ++ srcC b ++ D).length = (l.length + 1) * 2 := by rw [List.length_append, List.length_append, hA, hD, lenSrc]; omega
   refine zbj hBg v3 (by omega) hcm (by rw [Nat.sub_zero, hl3, ← List.append_assoc X, hlen2]) ?_ hrl
   rw [Nat.sub_zero, ← List.append_assoc, ← hrl, List.take_left]
end
theorem cb_lt (a b : List UInt8) : compareBytes a b < 0 ↔ ltT a b = true := by
 unfold ltT
 rw [decide_eq_true_eq]
 induction a generalizing b with
 | nil => cases b with
  | nil => simp [compareBytes]
  | cons y s => simp [compareBytes]
 | cons x r ih => cases b with
  | nil => simp [compareBytes]
  | cons y s =>
   unfold compareBytes
   rw [List.cons_lt_cons_iff]
   by_cases h1 : x < y
   ·simp [h1]
   ·rw [if_neg h1]
    by_cases h2 : y < x
    ·rw [if_pos h2]
     have : x ≠ y := fun e => by subst e; exact h1 h2
     simp [h1, this]
    ·rw [if_neg h2, ih]
     have e : x = y := UInt8.le_antisymm (UInt8.not_lt.1 h2) (UInt8.not_lt.1 h1)
     subst e
     simp [h1]
theorem cb_eq (a b : List UInt8) : compareBytes a b = 0 ↔ a = b := by
 induction a generalizing b with
 | nil => cases b with
  | nil => simp [compareBytes]
  | cons y s => simp [compareBytes]
 | cons x r ih => cases b with
  | nil => simp [compareBytes]
  | cons y s =>
   unfold compareBytes
   by_cases h1 : x < y
   ·have : x ≠ y := fun e => by subst e; exact absurd h1 (by simp)
    simp [h1, this]
   ·rw [if_neg h1]
    by_cases h2 : y < x
    ·have : x ≠ y := fun e => by subst e; exact h1 h2
     simp [h2, this]
    ·rw [if_neg h2, ih]
     have e : x = y := UInt8.le_antisymm (UInt8.not_lt.1 h2) (UInt8.not_lt.1 h1)
     subst e
     simp
theorem zmw {l : List Sc} {nm : List UInt8} {j : Nat} (hj : j ≤ l.length) (h1 : ∀ m (hm : m < l.length), m < j → ltT l[m].name nm = true) (h2 : ∀ m (hm : m < l.length), j ≤ m → ¬ ltT l[m].name nm = true) : idxS l nm = j := by
 unfold idxS
 induction l generalizing j with
 | nil => simp at hj; simp [hj]
 | cons a r ih =>
  cases j with
  | zero =>
   have := h2 0 (by simp) (Nat.le_refl _)
   rw [List.takeWhile_cons_of_neg (by simpa using this)]
   rfl
  | succ j =>
   have := h1 0 (by simp) (by omega)
   rw [List.takeWhile_cons_of_pos (by simpa using this), List.length_cons, ih (by simpa using hj) (fun m hm hmj => h1 (m + 1) (by simpa using hm) (by omega)) (fun m hm hmj => h2 (m + 1) (by simpa using hm) (by omega))]
theorem zeO {l : List Sc} {nm : List UInt8} (hp : AscS l) : hasS l nm = decide (∃ h : idxS l nm < l.length, l[idxS l nm].name = nm) := by
 rw [Bool.eq_iff_iff, decide_eq_true_eq]
 unfold hasS
 rw [List.any_eq_true]
 constructor
 ·rintro ⟨s, hs, he⟩
  have he : s.name = nm := by simpa using he
  obtain ⟨i, hi, rfl⟩ := List.getElem_of_mem hs
  have := zmw (l := l) (nm := nm) (j := i) (by omega) (fun m hm hmi => by rw [← he]; exact (List.pairwise_iff_getElem.1 hp) m i hm hi hmi) (fun m hm him => by
   rw [← he]
   by_cases e : i = m
   ·subst e; rw [stoT.irr]; simp
   ·exact fun q => by have := stoT.tr _ _ _ ((List.pairwise_iff_getElem.1 hp) i m hi hm (by omega)) q; rw [stoT.irr] at this; cases this)
  exact ⟨by omega, by simp only [this]; exact he⟩
 ·rintro ⟨h, he⟩
  exact ⟨_, List.getElem_mem h, by simpa using he⟩
section
variable {w : World}
theorem zgl (s : Sc) (nm : List UInt8) : Calls Tryz.prog 157 #[.agg (srcC s).toArray, .string (str nm)] w fun e w' => e = .returned (.int .i64 (compareBytes s.name nm)) ∧ Kp w w' n_ := by
 refine zaa (args := [.agg (srcC s).toArray, .string (str nm)]) Tryz.func157 rfl NL ?_; refine GW ?_
 obtain ⟨a_b1, v_b1, k_w1, z_w1, r_w1⟩ := new5 w 49 (srcC s)
 generalize w.alloc (.cells (List.toArray (srcC s)) 49) = w1 at *
 generalize hs_b1 : w.heap.size = b1 at *
 refine KGO ?_
 refine CallS.of (Tryz.call158 _ _) (zlc (str s.name) (str nm) w1) ?_
 rintro e w2 ⟨rfl, rfl⟩
 refine RT ?_
 rw [L_str, L_str]
 exact ⟨rfl, k_w1⟩
theorem zqY {v : Value} (l : List Sc) (nm : List UInt8) (hv : RowS w v l) (hl : l.length ≤ 1000000) : Calls Tryz.prog 156 #[v, .string (str nm), .func (.func 157) #[] #[]] w fun e w' =>
  ∃ (k : Nat) (b : Bool), e = .returned (.tuple #[.int .i64 (k : Nat), .bool b]) ∧ k ≤ l.length ∧ (AscS l → k = idxS l nm ∧ b = hasS l nm) ∧ Kp w w' n_ := by
 obtain ⟨a, cap, rfl, hr⟩ := hv
 refine zaa (args := [.slice a l.length cap, .string (str nm), .func (.func 157) #[] #[]]) Tryz.func156 rfl NL ?_; refine GW ?_
 refine Loop.intro (ι := Nat × Nat) (fun p => [(0, .slice a l.length cap), (1, .string (str nm)), (2, .func (.func 157) #[] #[]), (8, .int .i64 (l.length : Nat)), (9, .int .i64 p.1), (10, .int .i64 p.2)])
  (fun p wr => Kp w wr n_ ∧ p.1 ≤ p.2 ∧ p.2 ≤ l.length ∧ (AscS l → (∀ m (hm : m < l.length), m < p.1 → ltT l[m].name nm = true) ∧ ∀ m (hm : m < l.length), p.2 ≤ m → ¬ ltT l[m].name nm = true)) (fun p => p.2 - p.1) (0, l.length) ⟨rfl, rfl, rfl, rfl, rfl, rfl, trivial⟩
  ⟨Kp.refl _ _, by omega, Nat.le_refl _, fun _ => ⟨fun m _ hm => by omega, fun m h1 h2 => by omega⟩⟩ ?_
 rintro ⟨i, j⟩ g wr ⟨hK, hij, hj, hord⟩
 dsimp only at hij hj hord ⊢
 refine GW ?_
 by_cases hlt : i < j
 ·obtain ⟨gb, o, rfl, hgb, hat⟩ := hr (by omega)
  refine KGO ?_
  rw [zie i j (by omega)]
  have hm1 : i ≤ (i + j) / 2 := by omega
  have hm2 : (i + j) / 2 < j := by omega
  generalize (i + j) / 2 = h at *
  have hhl : h < l.length := by omega
  refine KGO ?_
  refine CallS.of (Tryz.call157 _ _) (zgl l[h] nm) ?_
  rintro e w1 ⟨rfl, k1⟩
  refine RT ?_
  by_cases hc : compareBytes l[h].name nm < 0
  ·refine KGO ?_
   refine ⟨(h + 1, j), ⟨rfl, rfl, rfl, rfl, v_int (by simp), rfl, trivial⟩, ⟨hK.trans0 k1, by dsimp only; omega, hj, fun hp => ⟨fun m hm hmh => ?_, (hord hp).2⟩⟩, by dsimp only; omega⟩
   dsimp only at hmh
   have hlh := (cb_lt _ _).1 hc
   by_cases e : m = h
   ·subst e; exact hlh
   ·exact stoT.tr _ _ _ ((List.pairwise_iff_getElem.1 hp) m h hm hhl (by omega)) hlh
  ·refine KGO ?_
   refine ⟨(i, h), ⟨rfl, rfl, rfl, rfl, rfl, rfl, trivial⟩, ⟨hK.trans0 k1, by dsimp only; omega, by dsimp only; omega, fun hp => ⟨(hord hp).1, fun m hm hmh => ?_⟩⟩, by dsimp only; omega⟩
   dsimp only at hmh
   have hlh : ¬ ltT l[h].name nm = true := fun q => hc ((cb_lt _ _).2 q)
   by_cases e : m = h
   ·subst e; exact hlh
   ·exact fun q => hlh (stoT.tr _ _ _ ((List.pairwise_iff_getElem.1 hp) h m hhl hm (by omega)) q)
 ·have hji : j = i := by omega
  subst hji
  have hidx : ∀ hp : AscS l, idxS l nm = j := fun hp => zmw hj (hord hp).1 (hord hp).2
  by_cases h17 : j < l.length
  ·obtain ⟨gb, o, rfl, hgb, hat⟩ := hr (by omega)
   refine KGO ?_
   refine CallS.of (Tryz.call157 _ _) (zgl l[j] nm) ?_
   rintro e w1 ⟨rfl, k1⟩
   refine RT ?_
   refine KGO ?_
   refine ⟨j, _, rfl, hj, fun hp => ⟨(hidx hp).symm, ?_⟩, hK.trans0 k1⟩
   rw [zeO hp, Bool.eq_iff_iff, beq_iff_eq, decide_eq_true_eq, cb_eq]
   have hidx := hidx hp
   constructor
   ·intro he; exact ⟨by omega, by simp only [hidx]; exact he⟩
   ·rintro ⟨_, he⟩; simpa only [hidx] using he
  ·refine KGO ?_
   refine ⟨j, _, rfl, hj, fun hp => ⟨(hidx hp).symm, ?_⟩, hK⟩
   rw [zeO hp]
   have hidx := hidx hp
   symm
   rw [decide_eq_false_iff_not]
   rintro ⟨h, _⟩
   omega
end
theorem Kp.fresh {w w' : World} {p : Nat → Prop} (k : Kp w w' (fun q => w.heap.size ≤ q ∨ p q)) : Kp w w' p := ⟨k.os, k.tape, k.output, k.size, fun q hq hn => k.block q hq fun h => h.elim (fun h => by omega) hn⟩
theorem zkb (s : Sc) (w : World) : (Instr.buildSlice 33 1 [(0, .agg #[.string (str s.name), .string (str s.text)])].toArray).run Tryz.prog w = .ok (.slice (some ⟨w.heap.size, 0, none⟩) 1 1) (w.alloc (.cells (srcC s).toArray 49)) := by
 simp [Instr.buildSlice, go_sem, Tryz.runUnderlying33, srcC]
theorem zln (s : Sn) (w : World) : (Instr.buildSlice 34 1 [(0, .agg #[.string (str s.key), .int .i64 s.at_])].toArray).run Tryz.prog w = .ok (.slice (some ⟨w.heap.size, 0, none⟩) 1 1) (w.alloc (.cells (snC s).toArray 175)) := by
 simp [Instr.buildSlice, go_sem, Tryz.runUnderlying34, snC]
theorem zqw {K : Value → World → Prop} {B vb : Nat} {v : Value} {l : List Sn} {cs : Array Bool} {w : World} (h : OwnSn w B v l) (hB : B ≤ w.heap.size) (z : Sn) (hvb : VarK w vb 175 (snC z)) (hl : l.length ≤ 1000000000)
  (k : ∀ v' w', OwnSn w' B v' (l ++ [z]) → Kp w w' (own_ v) → K v' w') :
  RunN Tryz.prog (builtin .append #[34, 34] 34 cs [v, .slice (some ⟨vb, 0, none⟩) 1 1].toArray) w K := by
 refine RunN.app Tryz.underlying34 infoSn rfl (by decide) h hB ⟨vb, 0, none⟩ 1 1 (snC z) rfl (hvb.cells w 0 fun j u h => by simpa using h) (by have := oneSn [z]; simpa using this) (by omega) (by omega) fun v' w' h2 h3 => k v' w' ?_ ?_
 ·unfold OwnSn
  rw [List.length_append, List.flatMap_append]
  simpa using h2
 ·exact ⟨h3.os, h3.tape, h3.output, h3.size, fun i hi hn => h3.block i hi (fun e => hn e.symm)⟩
section
variable {w : World}
theorem zkr (s : Sn) {v : Ov} {o : Opr} {bp : Nat} (hc : At w bp 0 (opC v o)) : Calls Tryz.prog 111 #[.agg (snC s).toArray, .pointer (some ⟨bp, 0, none⟩)] w fun e w' => e = .returned (.bool (decide (s.key = o.name))) ∧ Kp w w' n_ := by
 refine zaa (args := [.agg (snC s).toArray, .pointer (some ⟨bp, 0, none⟩)]) Tryz.func111 rfl NL ?_; refine GW ?_
 obtain ⟨a_b1, v_b1, k_w1, z_w1, r_w1⟩ := new5 w 175 (snC s)
 generalize w.alloc (.cells (List.toArray (snC s)) 175) = w1 at *
 generalize hs_b1 : w.heap.size = b1 at *
 refine KGO ?_
 refine ⟨zag ?_, k_w1⟩
 rw [Bool.eq_iff_iff, decide_eq_true_eq, decide_eq_true_eq]
 exact zgV
theorem zeS {B b : Nat} {h : Hd} {lx : List Mr} {A : Acc} (nm : List UInt8) (hd : Drf w B b h lx A) (hl : A.scripts.length ≤ 1000) (ha : AscS A.scripts) : Calls Tryz.prog 106 #[.pointer (some ⟨b, 0, none⟩), .string (str nm)] w fun e w' =>
  e = .returned (.tuple #[.int .i64 (idxS A.scripts nm : Nat), .bool (hasS A.scripts nm)]) ∧ idxS A.scripts nm ≤ A.scripts.length ∧ Kp w w' n_ := by
 refine zaa (args := [.pointer (some ⟨b, 0, none⟩), .string (str nm)]) Tryz.func106 rfl NL ?_; refine GW ?_
 have hdA := hd.v.at
 refine KGO ?_
 refine CallS.of (Tryz.call156 _ _) (zqY (w := w) A.scripts nm hd.o.read.s (by omega)) ?_
 rintro e w1 ⟨k, bb, rfl, h1, h2, k1⟩
 obtain ⟨rfl, rfl⟩ := h2 ha
 refine RT ?_
 refine KGO ?_
 exact ⟨rfl, h1, k1⟩
theorem zmG {B b : Nat} {h : Hd} {lx : List Mr} {A : Acc} {v : Ov} {o : Opr} (hd : Drf w B b h lx A) (hf : Fit A) (ha : AscS A.scripts) :
  Calls Tryz.prog 60 #[.pointer (some ⟨b, 0, none⟩), .agg (opC v o).toArray] w fun e w' => Done w' b e (chooseA A o) ∧ Kp w w' (from_ B) := by
 refine zaa (args := [.pointer (some ⟨b, 0, none⟩), .agg (opC v o).toArray]) Tryz.func60 rfl NL ?_; refine GW ?_
 obtain ⟨a_b1, v_b1, k_w1, z_w1, r_w1⟩ := new5 w 72 (opC v o)
 generalize w.alloc (.cells (List.toArray (opC v o)) 72) = w1 at *
 generalize hs_b1 : w.heap.size = b1 at *
 refine KGO ?_
 refine CallS.of (Tryz.call106 _ _) (zeS (w := w1) (A := A) o.name (hd.keep k_w1) hf.sl ha) ?_
 rintro e w2 ⟨rfl, hix, k2⟩
 have K2 := k_w1.trans0 k2
 have a2 := zaf a_b1 k2
 have kr2 := Kp.refl w2 n_
 refine RT ?_
 have hfin : ∀ w3, VarK w3 b 118 ((accC h A).set 3 (.string (str o.name))) → Kp w2 w3 (one_ b) → chooseA A o = .ok ({ A with active := o.name }, 0) → Done w3 b (.returned (.tuple #[.int .i64 0, .int .i64 0])) (chooseA A o) ∧ Kp w w3 (from_ B) := fun w3 v3 k3 hres => by
  rw [hres]
  have P := (hd.keep K2).o.p
  refine ⟨⟨rfl, zew (w5 := w2) (ly := lx) (h' := h) (A' := { A with active := o.name }) v3 ⟨P.b, P.s, P.n, P.m, P.ml, P.mb⟩ k3 fun q hq => ?_⟩, zei K2 (k3.mono fun q _ hq => ?_)⟩
  ·have := hd.lt q hq; omega
  ·have e : q = b := hq
   have := hd.B
   show B ≤ q
   omega
 have hemp : ∀ x : List UInt8, str x = (⟨#[]⟩ : ByteArray) ↔ x = [] := fun x => zgV (b := [])
 by_cases h1 : hasS A.scripts o.name = true
 ·have hres : chooseA A o = .ok ({ A with active := o.name }, 0) := by unfold chooseA; rw [if_neg (by rw [h1]; simp)]
  rw [h1]
  refine KGO ?_
  refine Store.cellK (i := 3) (hd.v.keep0 K2) NL (by rfl) ⟨rfl, by simp, by simp⟩ fun w3 v3 k3 => ?_
  refine KGO ?_
  exact ⟨(hfin w3 v3 k3 hres).1, (hfin w3 v3 k3 hres).2⟩
 ·have h1 : hasS A.scripts o.name = false := by simpa using h1
  rw [h1]
  by_cases h2 : o.name = []
  ·have hres : chooseA A o = .ok ({ A with active := o.name }, 0) := by unfold chooseA; rw [if_neg (by rw [h2]; simp)]
   have h3 : str o.name = (⟨#[]⟩ : ByteArray) := (hemp _).2 h2
   refine KGO ?_
   refine Store.cellK (i := 3) (hd.v.keep0 K2) NL (by rfl) ⟨rfl, by simp, by simp⟩ fun w3 v3 k3 => ?_
   refine KGO ?_
   exact ⟨(hfin w3 v3 k3 hres).1, (hfin w3 v3 k3 hres).2⟩
  ·have hres : chooseA A o = .error 5 := by unfold chooseA; rw [if_pos ⟨h1, h2⟩]
   have h3 : ¬ str o.name = (⟨#[]⟩ : ByteArray) := fun e => h2 ((hemp _).1 e)
   refine KGO ?_
   exact ⟨by rw [hres]; rfl, K2.of_none⟩
theorem zor {B b : Nat} {h : Hd} {lx : List Mr} {A : Acc} {v : Ov} {o : Opr} (hd : Drf w B b h lx A) (hf : Fit A) (ha : AscS A.scripts) :
  Calls Tryz.prog 59 #[.pointer (some ⟨b, 0, none⟩), .agg (opC v o).toArray] w fun e w' => Done w' b e (unsetA A o) ∧ Kp w w' (from_ B) := by
 have hsl := hf.sl
 refine zaa (args := [.pointer (some ⟨b, 0, none⟩), .agg (opC v o).toArray]) Tryz.func59 rfl NL ?_; refine GW ?_
 obtain ⟨a_b1, v_b1, k_w1, z_w1, r_w1⟩ := new5 w 72 (opC v o)
 generalize w.alloc (.cells (List.toArray (opC v o)) 72) = w1 at *
 generalize hs_b1 : w.heap.size = b1 at *
 refine KGO ?_
 refine CallS.of (Tryz.call106 _ _) (zeS (w := w1) (A := A) o.name (hd.keep k_w1) hf.sl ha) ?_
 rintro e w2 ⟨rfl, hix, k2⟩
 have K2 := k_w1.trans0 k2
 have a2 := zaf a_b1 k2
 have kr2 := Kp.refl w2 n_
 have hdA := zaf hd.v.at K2
 refine RT ?_
 by_cases h1 : hasS A.scripts o.name = true
 rotate_left
 ·have h1 : hasS A.scripts o.name = false := by simpa using h1
  have hres : unsetA A o = .error 5 := by unfold unsetA; rw [if_pos h1]
  rw [h1]
  refine KGO ?_
  exact ⟨by rw [hres]; rfl, K2.of_none⟩
 have h1' := h1
 rw [zeO ha, decide_eq_true_eq] at h1'
 obtain ⟨hlt, _⟩ := h1'
 rw [h1]
 by_cases h2 : A.active = o.name
 ·have hres : unsetA A o = .error 20 := by unfold unsetA; rw [if_neg (by rw [h1]; simp), if_pos h2]
  have h3 : str A.active = str o.name := by rw [h2]
  refine KGO ?_
  exact ⟨by rw [hres]; rfl, K2.drew.of_none⟩
 have hres : unsetA A o = .ok ({ A with scripts := A.scripts.take (idxS A.scripts o.name) ++ A.scripts.drop (idxS A.scripts o.name + 1) }, 0) := by unfold unsetA; rw [if_neg (by rw [h1]; simp), if_neg h2]
 have h3 : ¬ str A.active = str o.name := fun e => h2 (zgV.1 e)
 generalize hie : idxS A.scripts o.name = i at *
 refine KGO ?_
 have K3 := K2.drew
 refine CallS.of (Tryz.call109 _ _) (zqj (w := w2.drew) A.scripts i (zab hd.o.s K3) hlt (by omega)) ?_
 rintro e w4 ⟨v4, rfl, o4, k4, hb4⟩
 have hd3 := hd.keep K3
 obtain ⟨a4, c4, rfl⟩ := zac o4
 have hown : ∀ q, own_ h.S.v q → q < b := fun q hq => hd.lt q (Hd.all_s hq)
 have vA := hd3.v.keep k4 fun e => by have := hown b e; omega
 have P := hd3.o.setS (v := ⟨a4, _, c4⟩) k4 o4
 refine RT ?_
 refine KGO ?_
 refine SCK 2 vA fun w5 vA5 k5 => ?_
 refine KGO ?_
 rw [hres]
 refine ⟨⟨rfl, zew (ly := lx) (h' := { h with S := ⟨a4, _, c4⟩ }) vA5 P k5 fun q hq => ?_⟩, (K3.of_none.trans' (k4.mono fun q _ hq => ?_)).trans' (k5.mono fun q _ hq => ?_)⟩
 ·unfold Hd.all Hd.bs at hq
  simp only [List.mem_append, zau] at hq
  rcases hq with (((hq | hq) | hq) | hq) | hq
  ·have := hd.lt q (Hd.all_b hq); omega
  ·have hq : (Value.slice a4 (A.scripts.take i ++ A.scripts.drop (i + 1)).length c4).ownBlock = some q := hq
   rw [hb4] at hq; have := hown q hq; omega
  ·have := hd.lt q (Hd.all_n hq); omega
  ·have := hd.lt q (Hd.all_m hq); omega
  ·have := hd.lt q (List.mem_append_right _ hq); omega
 ·exact (hd.o.s.lt q hq).1
 ·have e : q = b := hq
  have := hd.B
  show B ≤ q
  omega
end
end Go.Proofs.YtcplagfblmemhaaGreatDoor
