/- Helper text of this claim: lemmas and contracts that the proved statement rests on; no conditions of its own. -/
import Derived.Test.YtcplagfblmemhaaGreatDoorGAd6
import Derived.Test.YtcplagfblmemhaaGreatDoorGCz4
namespace Go.Proofs.YtcplagfblmemhaaGreatDoor
set_option linter.unusedVariables false
set_option maxHeartbeats 8000000
open Go.Shelf Go.RowKit Go.Pw Go.Vc Go.Cs Go.Lib
set_option linter.unusedVariables false
set_option maxRecDepth 100000
section
variable {w : World}
theorem zqb {B b : Nat} {h : Hd} {lx : List Mr} {A : Acc} {v : Ov} {o : Opr} (hd : Drf w B b h lx A) (hf : Fit A) (hE : BEnv w) :
  Calls Tryz.prog 57 #[.pointer (some ⟨b, 0, none⟩), .agg (opC v o).toArray] w fun e w' => Done w' b e (dropA A o) ∧ Kp w w' (from_ B) := by
 have fml := hf.ml
 have fbl := hf.bl
 have fmb := hf.mb
 have hlx : lx.length = A.mails.length := by rw [← hd.o.ml, List.length_map]
 have hbw : b < w.heap.size := hd.v.lt
 have hBb := hd.B
 have hMn : h.M.n = lx.length := by
  obtain ⟨a, c, e⟩ := zac hd.o.m
  injection e
 refine zaa (args := [.pointer (some ⟨b, 0, none⟩), .agg (opC v o).toArray]) Tryz.func57 rfl NL ?_; refine GW ?_
 obtain ⟨a_b1, v_b1, k_w1, z_w1, r_w1⟩ := new5 w 72 (opC v o)
 generalize w.alloc (.cells (List.toArray (opC v o)) 72) = w1 at *
 generalize hs_b1 : w.heap.size = b1 at *
 have hdA := hd.v.at
 refine KGO ?_
 refine CallS.of (Tryz.call103 _ _) (zpy (w := w1.drew) A.boxes o.box (hd.o.read.b.keep k_w1.drew) hf.bl hf.bs (hE.keep k_w1.drew)) ?_
 rintro e w2 ⟨v2, rfl, o2, k2⟩
 have K2 := k_w1.drew.trans0 k2
 have hz1 := k_w1.drew.size
 obtain ⟨a2, c2, rfl⟩ := zac o2
 refine RT ?_
 by_cases h2 : (dropL A.boxes o.box).2 = 0
 rotate_left
 ·have hres : dropA A o = .error (dropL A.boxes o.box).2 := by unfold dropA; rw [if_pos h2]
  generalize dropL A.boxes o.box = r at *
  refine KGO ?_
  exact ⟨by rw [hres]; rfl, K2.of_none⟩
 have hd2 := hd.keep K2
 have hdA2 := hd2.v.at
 have hrB := hd2.o.read.b
 have hBn := RowO.len hrB
 obtain ⟨aB, capB, heB, hrrB⟩ := hrB
 have aa := hdA2
 unfold accC at aa
 have hBn : h.B.n = A.boxes.length := hBn
 rw [hBn] at aa
 rw [h2]
 refine KGO ?_
 refine Loop.intro (ι := Nat) (fun i => [(0, .pointer (some ⟨b, 0, none⟩)), (3, .pointer (some ⟨b1, 0, none⟩)), (6, .slice a2 (dropL A.boxes o.box).1.length c2), (33, .slice h.B.a A.boxes.length h.B.c), (34, .int .i64 (A.boxes.length : Nat)), (35, .int .i64 (i : Nat))])
  (fun i wr => Kp w2 wr n_ ∧ i ≤ A.boxes.length ∧ ((A.boxes.take i).any fun b => decide (b.id = o.box ∧ b.role = inB)) = false) (fun i => A.boxes.length - i) 0 ⟨rfl, rfl, rfl, rfl, rfl, rfl, trivial⟩ ⟨Kp.refl _ _, Nat.zero_le _, rfl⟩ ?_
 rintro i gg wr ⟨hK, hi, hany⟩
 have K3 := K2.trans0 hK
 have kr := Kp.refl wr n_
 have ab1 := zaf a_b1 ((Kp.refl w1 n_).drew.trans0 (k2.trans0 hK))
 refine GW ?_
 by_cases hlt : i < A.boxes.length
 ·obtain ⟨gb, ob, hax, hgb, hat⟩ := hrrB (by omega)
  have hra : h.B.a = some ⟨gb, ob, none⟩ := by injection heB with heB; rw [heB, hax]
  rw [hra]
  have hat := zaf hat hK
  have htk := List.take_succ_eq_append_getElem hlt
  have hany' : ((A.boxes.take (i + 1)).any fun b => decide (b.id = o.box ∧ b.role = inB)) = decide (A.boxes[i].id = o.box ∧ A.boxes[i].role = inB) := by
   rw [htk, List.any_append, hany]; simp
  have hres0 : decide (A.boxes[i].id = o.box ∧ A.boxes[i].role = inB) = true → dropA A o = .error 20 := fun hq => by
   unfold dropA
   rw [if_neg (fun e => e h2), if_pos (List.any_eq_true.2 ⟨_, List.getElem_mem hlt, hq⟩)]
  refine KGO ?_
  generalize A.boxes[i] = x at *
  refine Store.fresh (vs := boxCells x) (by rfl) rfl (zam (by rfl)) ?_
  obtain ⟨a_b4, k_w4, z_w4⟩ := new3 wr 44 (boxCells x)
  generalize wr.alloc (.cells (List.toArray (boxCells x)) 44) = w4 at *
  generalize hs_b4 : wr.heap.size = b4 at *
  have ab4 := zaf ab1 k_w4
  have kr4 := Kp.refl w4 n_
  have hstr : str inB = (⟨#[105, 110, 98, 111, 120]⟩ : ByteArray) := rfl
  by_cases h5 : x.id = o.box
  ·by_cases h6 : x.role = inB
   ·have h7 : str x.role = (⟨#[105, 110, 98, 111, 120]⟩ : ByteArray) := by rw [h6]; rfl
    have hres := hres0 (decide_eq_true ⟨h5, h6⟩)
    refine KGO ?_
    exact ⟨by rw [hres]; rfl, (K3.trans0 k_w4).of_none⟩
   ·have h7 : ¬ str x.role = (⟨#[105, 110, 98, 111, 120]⟩ : ByteArray) := fun e => h6 (zgV.1 (e.trans hstr.symm))
    refine KGO ?_
    exact ⟨i + 1, ⟨rfl, rfl, rfl, rfl, rfl, v_int (by simp), trivial⟩, ⟨hK.trans0 k_w4, by omega, by rw [hany']; exact decide_eq_false fun q => h6 q.2⟩, by dsimp only; omega⟩
  ·refine KGO ?_
   exact ⟨i + 1, ⟨rfl, rfl, rfl, rfl, rfl, v_int (by simp), trivial⟩, ⟨hK.trans0 k_w4, by omega, by rw [hany']; exact decide_eq_false fun q => h5 q.1⟩, by dsimp only; omega⟩
 have hin : (A.boxes.any fun b => decide (b.id = o.box ∧ b.role = inB)) = false := by rw [List.take_of_length_le (by omega)] at hany; exact hany
 clear hany
 have hd3 := hd2.keep hK
 have aa3 := zaf hdA2 hK
 unfold accC at aa3
 rw [hMn] at aa3
 clear aa
 refine KGO ?_
 have hzr := hK.size
 have hz2 := k2.size
 have hzd : w1.drew.heap.size = w1.heap.size := rfl
 have o3 := zab o2 hK
 clear hrrB hdA2 hd2 hdA
 refine Loop.intro (ι := Nat) (fun i => [(0, .pointer (some ⟨b, 0, none⟩)), (3, .pointer (some ⟨b1, 0, none⟩)), (6, .slice a2 (dropL A.boxes o.box).1.length c2), (54, .slice h.M.a lx.length h.M.c), (55, .int .i64 (lx.length : Nat)), (56, .int .i64 (i : Nat))])
  (fun i w4 => Kp wr w4 n_ ∧ i ≤ lx.length ∧ ((A.mails.take i).any fun m => decide (m.boxes = [o.box])) = false) (fun i => lx.length - i) 0 ⟨rfl, rfl, rfl, rfl, rfl, rfl, trivial⟩ ⟨Kp.refl _ _, Nat.zero_le _, rfl⟩ ?_
 clear hi hlt
 rintro i gg w4 ⟨hK4, hi, hany⟩
 have K4 := K3.trans0 hK4
 have kr4 := Kp.refl w4 n_
 have ab4 := zaf ab1 hK4
 refine GW ?_
 by_cases hlt : i < lx.length
 ·have hlt2 : i < A.mails.length := by omega
  have hxm : lx[i].m = A.mails[i] := by simp [← hd3.o.ml]
  have oM := zab hd3.o.m hK4
  have hmb := hd3.o.mb lx[i] (List.getElem_mem hlt)
  have htk := List.take_succ_eq_append_getElem hlt2
  have hany' : ((A.mails.take (i + 1)).any fun m => decide (m.boxes = [o.box])) = decide (lx[i].m.boxes = [o.box]) := by
   rw [htk, List.any_append, hany, hxm]; simp
  have hres0 : lx[i].m.boxes = [o.box] → dropA A o = .error 20 := fun hq => by
   unfold dropA
   rw [if_neg (fun e => e h2), if_neg (by rw [hin]; simp), if_pos (List.any_eq_true.2 ⟨_, List.getElem_mem hlt2, by rw [← hxm]; simpa using hq⟩)]
  rcases own_blockK oM with ⟨_, h0⟩ | ⟨g, cap, cells, heM, hBg, hvM, hnc, hcm, hcl, htkM⟩
  ·omega
  injection heM with heM1 heM2 heM3
  have hat := at_of_own' oM heM1
  rw [heM1]
  refine KGO ?_
  generalize lx[i] = x at *
  refine Store.fresh (vs := mrC x) (by rfl) rfl (zam (by rfl)) ?_
  obtain ⟨a_b5, k_w5, z_w5⟩ := new3 w4 60 (mrC x)
  generalize w4.alloc (.cells (List.toArray (mrC x)) 60) = w5 at *
  generalize hs_b5 : w4.heap.size = b5 at *
  have ab5 := zaf ab4 k_w5
  have kr5 := Kp.refl w5 n_
  have rowb := (zaH (zab hmb.1 (hK4.trans0 k_w5)) : RowI w5 x.b.v x.m.boxes)
  have hbn := RowO.len rowb
  have hbn : x.b.n = x.m.boxes.length := hbn
  have a5 := a_b5
  unfold mrC at a5
  rw [hbn] at a5
  by_cases h1 : x.m.boxes.length = 1
  ·obtain ⟨z, hz⟩ := List.length_eq_one_iff.1 h1
   rw [hz] at rowb
   obtain ⟨ab', cb', heb, hbb⟩ := rowb
   obtain ⟨g2, o2', rfl, hg2, hat2⟩ := hbb (by simp)
   injection heb with heb _ _
   rw [heb] at a5
   by_cases h3 : z = o.box
   ·have hres := hres0 (by rw [hz, h3])
    refine KGO ?_
    exact ⟨by rw [hres]; rfl, (K4.trans0 k_w5.drew).of_none⟩
   ·refine KGO ?_
    exact ⟨i + 1, ⟨rfl, rfl, rfl, rfl, rfl, v_int (by simp), trivial⟩, ⟨hK4.trans0 k_w5.drew, by omega, by rw [hany']; exact decide_eq_false fun q => by rw [hz] at q; injection q with q _; exact h3 q⟩, by dsimp only; omega⟩
  ·refine KGO ?_
   exact ⟨i + 1, ⟨rfl, rfl, rfl, rfl, rfl, v_int (by simp), trivial⟩, ⟨hK4.trans0 k_w5.drew, by omega, by rw [hany']; exact decide_eq_false fun q => h1 (by rw [q]; rfl)⟩, by dsimp only; omega⟩
 have hin2 : (A.mails.any fun m => decide (m.boxes = [o.box])) = false := by rw [List.take_of_length_le (by omega)] at hany; exact hany
 have hres : dropA A o = .ok ({ A with boxes := (dropL A.boxes o.box).1, mails := A.mails.map (outOf A.st o.box) }, 0) := by
  unfold dropA
  rw [if_neg (fun e => e h2), if_neg (by rw [hin]; simp), if_neg (by rw [hin2]; simp)]
 clear hany
 have hd4 := hd3.keep hK4
 have hz4 := hK4.size
 have o4 := zab o3 hK4
 have aa4 := zaf aa3 hK4
 refine KGO ?_
 clear hi hlt
 refine Loop.intro (ι := Nat × List Mr) (fun p => [(0, .pointer (some ⟨b, 0, none⟩)), (3, .pointer (some ⟨b1, 0, none⟩)), (6, .slice a2 (dropL A.boxes o.box).1.length c2), (79, .int .i64 (lx.length : Nat)), (80, .int .i64 (p.1 : Nat))])
  (fun p w5 => Drf w5 B b h p.2 { A with mails := p.2.map (·.m) } ∧ Kp w4 w5 (fun q => B ≤ q ∧ q < b) ∧ p.1 ≤ lx.length ∧ p.2.length = lx.length ∧ p.2.map (·.m) = (A.mails.take p.1).map (outOf A.st o.box) ++ A.mails.drop p.1) (fun p => lx.length - p.1) (0, lx) ⟨rfl, rfl, rfl, rfl, rfl, trivial⟩ ⟨by rw [hd4.o.ml]; exact hd4, Kp.refl _ _, Nat.zero_le _, rfl, by simpa using hd4.o.ml⟩ ?_
 rintro ⟨i, zs⟩ gg w5 ⟨d5, k5, hi, hzl, hzm⟩
 dsimp only at d5 hi hzl hzm ⊢
 have hda : At w5 b 0 (accC h A) := d5.v.at
 have ab5 : At w5 b1 0 (opC v o) := zav ab4 k5 fun e => by omega
 have kr5 := Kp.refl w5 n_
 refine GW ?_
 by_cases hlt : i < lx.length
 ·have hlt2 : i < A.mails.length := by omega
  have hiz : i < zs.length := by omega
  have hxm : zs[i].m = A.mails[i] := by
   have e : (zs.map (·.m))[i]? = some zs[i].m := by simp [hiz]
   rw [hzm, List.getElem?_append_right (by rw [List.length_map, List.length_take]; omega), List.length_map, List.length_take, Nat.min_eq_left (by omega), Nat.sub_self, List.getElem?_drop, Nat.add_zero, List.getElem?_eq_getElem hlt2] at e
   injection e with e
   exact e.symm
  have hmb := d5.o.mb zs[i] (List.getElem_mem hiz)
  have hsi := (fmb A.mails[i] (List.getElem_mem hlt2)).1
  have hnext : ∀ y : Ml, (zs.map (·.m)).set i y = (A.mails.take i).map (outOf A.st o.box) ++ y :: A.mails.drop (i + 1) := fun y => by
   rw [hzm, List.set_append_right _ _ (by rw [List.length_map, List.length_take]; omega), List.length_map, List.length_take, Nat.min_eq_left (by omega), Nat.sub_self, List.drop_eq_getElem_cons hlt2, List.set_cons_zero]
  have htk : (A.mails.take (i + 1)).map (outOf A.st o.box) = (A.mails.take i).map (outOf A.st o.box) ++ [outOf A.st o.box A.mails[i]] := by
   rw [List.take_succ_eq_append_getElem hlt2, List.map_append]; rfl
  rcases own_blockK d5.o.m with ⟨_, h0⟩ | ⟨g, cap, cells, heM, hBg, hvM, hnc, hcm, hcl, htkM⟩
  ·omega
  have heM' := heM
  injection heM with heM1 heM2 heM3
  have hat := at_of_own' d5.o.m heM1
  have hgM : h.M.v.ownBlock = some g := by rw [heM']; rfl
  have hgb : g < b := d5.lt g (Hd.all_m hgM)
  have hdB := hda
  unfold accC at hdB
  rw [heM1, heM2] at hdB
  have hxb : zs[i].b.n = zs[i].m.boxes.length := by
   obtain ⟨a, c, e⟩ := zac hmb.1
   injection e
  refine KGO ?_
  refine CallS.of (Tryz.call104 _ _) (ix_I (w := w5.drew) zs[i].m.boxes o.box (zaH (zab hmb.1 (Kp.refl w5 n_).drew)) (by rw [hxm]; omega)) ?_
  rintro e w6 ⟨rfl, k6⟩
  have J6 : Kp w5 w6 n_ := (Kp.refl w5 n_).drew.trans0 k6
  have k56 := k5.trans' J6.of_none
  have ab6 := zaf ab5 J6
  have hda6 := zaf hda J6
  have hat6 := zaf hat J6
  have d6 := d5.keep J6
  have kr6 := Kp.refl w6 n_
  refine RT ?_
  rcases idxP_lt (fun x => decide (x = o.box)) zs[i].m.boxes with hq | ⟨k, hk, he, hp, hfst⟩
  ·rw [hq]
   have hno : o.box ∉ A.mails[i].boxes := fun hmem => by
    rw [← hxm] at hmem
    have : (zs[i].m.boxes.any fun x => decide (x = o.box)) = true := List.any_eq_true.2 ⟨_, hmem, by simp⟩
    rw [← zcu, hq] at this
    omega
   have hout : outOf A.st o.box A.mails[i] = A.mails[i] := by unfold outOf; rw [if_neg hno]
   refine KGO ?_
   exact ⟨(i + 1, zs), ⟨rfl, rfl, rfl, rfl, v_int (by simp), trivial⟩, ⟨d6, k56, by dsimp only; omega, hzl, by dsimp only; rw [hzm, htk, hout, List.drop_eq_getElem_cons hlt2, List.append_assoc]; rfl⟩, by dsimp only; omega⟩
  ·rw [he]
   have hzb : zs[i].m.boxes.length ≤ 100000 := by rw [hxm]; exact hsi
   have hkl : k < 100000 := by omega
   have hkb : zs[i].m.boxes[k] = o.box := by simpa using hp
   have hkn : ∀ j (hj : j < k), (zs[i].m.boxes[j]'(by omega)) ≠ o.box := fun j hj => by simpa using hfst j hj
   have hmem : o.box ∈ A.mails[i].boxes := by rw [← hxm, ← hkb]; exact List.getElem_mem hk
   have hout : outOf A.st o.box A.mails[i] = { A.mails[i] with boxes := A.mails[i].boxes.erase o.box, mod := A.st } := by unfold outOf; rw [if_pos hmem]
   have her : A.mails[i].boxes.erase o.box = zs[i].m.boxes.take k ++ zs[i].m.boxes.drop (k + 1) := by rw [← hxm]; exact zgq hk hkb hkn
   refine KGO ?_
   refine Draw.held (fun u => Kp w6 u (fun q => own_ zs[i].b.v q ∨ q = g)) (fun t => t != some 104) (by decide +kernel) (Kp.refl _ _).drew ?_
   refine KGO ?_
   refine ⟨(Kp.refl _ _).drew, ?_⟩
   refine KGO ?_
   have oib : OwnI w6 B zs[i].b.v zs[i].m.boxes := zab hmb.1 J6
   have nb := nd4 d6.o.nd
   have hxg : ∀ q, own_ zs[i].b.v q → q ≠ g := fun q hq e => (zfC (List.getElem_mem hiz) (nb.2.2.2 g hgM)).1 (e ▸ hq)
   have hxl : ∀ q, own_ zs[i].b.v q → B ≤ q ∧ q < b := fun q hq => ⟨(hmb.1.lt q hq).1, d5.lt q (Hd.all_x (List.getElem_mem hiz) (.inl hq))⟩
   refine CallS.of (Tryz.call105 _ _) (del_I (w := w6.drew) zs[i].m.boxes k (zab oib (Kp.refl w6 n_).drew) hk (by rw [hxm]; omega)) ?_
   rintro e w7 ⟨v7, rfl, o7, k7, hb7⟩
   obtain ⟨a7, c7, rfl⟩ := zac o7
   have J7 : Kp w6 w7 (own_ zs[i].b.v) := (Kp.refl w6 n_).drew.of_none.trans' k7
   have kS : Kp w6 w7 (fun q => own_ zs[i].b.v q ∨ q = g) := J7.mono fun q _ hq => .inl hq
   refine RT ?_
   refine ⟨kS, ?_⟩
   refine KGO ?_
   refine Held.one (by rfl) (fun u hu => (zav hda6 hu fun e => e.elim (fun e => by have := (hxl b e).2; omega) fun e => by omega) 7 _ rfl) ?_
   refine KGO ?_
   have oM := zad (zab d5.o.m J6) J7 fun q hq e => hxg q e (by rw [hgM] at hq; injection hq with hq; exact hq.symm)
   rcases own_blockK oM with ⟨_, h0⟩ | ⟨g', cap', cells', heM2, hBg', hvM', hnc', hcm', hcl', htk'⟩
   ·omega
   rw [heM'] at heM2
   injection heM2 with heM2 _ hcc
   injection heM2 with heM2
   injection heM2 with heM2
   subst heM2; subst hcc
   obtain ⟨x1, hx1⟩ : ∃ x1 : Mr, x1 = ⟨zs[i].m, ⟨a7, (zs[i].m.boxes.take k ++ zs[i].m.boxes.drop (k + 1)).length, c7⟩, zs[i].f⟩ := ⟨_, rfl⟩
   obtain ⟨x2, hx2⟩ : ∃ x2 : Mr, x2 = ⟨{ zs[i].m with boxes := zs[i].m.boxes.take k ++ zs[i].m.boxes.drop (k + 1), mod := A.st }, ⟨a7, (zs[i].m.boxes.take k ++ zs[i].m.boxes.drop (k + 1)).length, c7⟩, zs[i].f⟩ := ⟨_, rfl⟩
   refine Store.atK (i := 0 + i * 38 + 33) hvM' (by rw [hcl']; omega) (by rfl) ⟨rfl, by simp, by simp⟩ fun wA vA kA => ?_
   refine ⟨kS.trans' (kA.mono fun q _ e => .inr e), ?_⟩
   rw [show 0 + i * 38 + 33 = i * 38 + 33 by omega] at vA
   have oA := zbm (w := w7) lenMl (l := zs) (k := i) (j := 33) (x := x1) hiz (by decide) (by rw [hx1]; rfl) hBg' hnc' hcm' hcl' htk' vA
   rcases own_blockK oA with ⟨hq, _⟩ | ⟨gA, capA, cellsA, heA, hBA, hvA, hncA, hcmA, hclA, htkA⟩
   ·cases hq
   injection heA with heA1 heA2 heA3
   injection heA1 with heA1
   injection heA1 with heA1
   subst heA1; subst heA3
   refine KGO ?_
   refine Store.atK (i := 0 + i * 38 + 37) hvA (by rw [hclA]; omega) (by rfl) ⟨rfl, by simp, by simp⟩ fun wB vB kB => ?_
   have kAB := kA.trans' kB
   refine ⟨kS.trans' (kAB.mono fun q _ e => .inr e), ?_⟩
   rw [show 0 + i * 38 + 37 = i * 38 + 37 by omega] at vB
   have oB := zbm (w := wA) lenMl (l := zs.set i x1) (k := i) (j := 37) (x := x2) (by rw [List.length_set]; exact hiz) (by decide) (by rw [List.getElem_set_self, hx1, hx2]; rfl) hBA (by rw [List.length_set]; exact hncA) hcmA hclA (by rw [List.length_set]; exact htkA) vB
   rw [List.length_set, List.set_set] at oB
   have oB' : OwnMl wB B h.M.v (zs.set i x2) := by rw [heM']; unfold OwnMl; rw [List.length_set]; exact oB
   have dB := d6.turn (x := x2) hiz hgM (by rw [hx2]; exact hb7) (by rw [hx2]) (by rw [hx2]) J7 (by rw [hx2]; exact o7) kAB oB'
   refine KGO ?_
   refine ⟨(i + 1, zs.set i x2), ⟨rfl, rfl, rfl, rfl, v_int (by simp), trivial⟩, ⟨dB, (k56.trans' (J7.mono fun q _ hq => hxl q hq)).trans' (kAB.mono fun q _ hq => by have hq : q = g := hq; rw [hq]; exact ⟨hBg, hgb⟩), by dsimp only; omega, by dsimp only; rw [List.length_set]; exact hzl, ?_⟩, by dsimp only; omega⟩
   dsimp only
   rw [List.map_set, hnext, htk, hout, List.append_assoc]
   congr 1
   rw [hx2, her, ← hxm]
   rfl
 have hend : zs.map (·.m) = A.mails.map (outOf A.st o.box) := by rw [hzm, List.take_of_length_le (by omega), List.drop_of_length_le (by omega), List.append_nil]
 have o5 : OwnB w5 w1.drew.heap.size (.slice a2 (dropL A.boxes o.box).1.length c2) (dropL A.boxes o.box).1 := zad o4 k5 fun q hq e => by have := (o4.lt q hq).1; omega
 have hbl : ∀ q, (Value.slice a2 (dropL A.boxes o.box).1.length c2).ownBlock = some q → w1.drew.heap.size ≤ q := fun q hq => (o4.lt q hq).1
 generalize hL : (dropL A.boxes o.box).1 = L at *
 refine KGO ?_
 refine SCK 0 d5.v fun w6 v6 k6 => ?_
 refine KGO ?_
 have P0 := d5.o.p.setB (v := ⟨a2, L.length, c2⟩) o5
 have P : AccP w5 { h with B := ⟨a2, L.length, c2⟩ } zs { A with boxes := L, mails := A.mails.map (outOf A.st o.box) } := ⟨P0.b, P0.s, P0.n, P0.m, hend, P0.mb⟩
 have v6' : VarK w6 b 118 (accC { h with B := ⟨a2, L.length, c2⟩ } { A with boxes := L, mails := A.mails.map (outOf A.st o.box) }) := v6
 have hfin : ∃ h', VarK w6 b 118 (accC h' { A with boxes := L, mails := A.mails.map (outOf A.st o.box) }) ∧ AccR w6 h' { A with boxes := L, mails := A.mails.map (outOf A.st o.box) } ∧ StabA w6 h' { A with boxes := L, mails := A.mails.map (outOf A.st o.box) } := zew v6' P k6 fun q hq => by
  unfold Hd.all Hd.bs at hq
  simp only [List.mem_append, zau] at hq
  rcases hq with (((hq | hq) | hq) | hq) | hq
  ·have := hbl q hq; omega
  ·exact Nat.ne_of_lt (d5.lt q (Hd.all_s hq))
  ·exact Nat.ne_of_lt (d5.lt q (Hd.all_n hq))
  ·exact Nat.ne_of_lt (d5.lt q (Hd.all_m hq))
  ·exact Nat.ne_of_lt (d5.lt q (List.mem_append_right _ hq))
 have kf : Kp w w6 (from_ B) := (K4.of_none.trans' (k5.mono fun q _ hq => hq.1)).trans' (k6.mono fun q _ hq => by
  have e : q = b := hq
  show B ≤ q
  omega)
 rw [hres]
 exact ⟨⟨rfl, hfin⟩, kf⟩
end
abbrev fv (n : Nat) : Value := .func (.func n) #[] #[]
def doesL : List Value := [.nilFunc, fv 50, fv 51, fv 52, fv 53, fv 54, fv 55, fv 56, fv 57, fv 58, fv 59, fv 60, fv 61]
theorem zqS {o : Opr} (hk : 1 ≤ o.kind ∧ o.kind ≤ 12) : ∃ (i fn : Nat), o.kind = (i : Nat) ∧ i < 13 ∧ doesL[i]? = some (fv fn) ∧ (∀ (args : Array Value) (w : World), (callFunc fn args).run Tryz.prog w = .ok (.enter fn args) w) ∧
  ∀ {w : World} {B b : Nat} {h : Hd} {lx : List Mr} {A : Acc} {v : Ov}, Drf w B b h lx A → Fit A → AscS A.scripts → OpR w v o → FitO o → BEnv w → Calls Tryz.prog fn #[.pointer (some ⟨b, 0, none⟩), .agg (opC v o).toArray] w fun e w' => Done w' b e (oneA A o) ∧ Kp w w' (from_ B) := by
 have hc : o.kind = 1 ∨ o.kind = 2 ∨ o.kind = 3 ∨ o.kind = 4 ∨ o.kind = 5 ∨ o.kind = 6 ∨ o.kind = 7 ∨ o.kind = 8 ∨ o.kind = 9 ∨ o.kind = 10 ∨ o.kind = 11 ∨ o.kind = 12 := by omega
 rcases hc with e | e | e | e | e | e | e | e | e | e | e | e
 ·exact ⟨1, _, e, by omega, rfl, Tryz.call50, fun hd hf ha ho fo hE => by simpa only [oneA, e, if_true] using zpB hd hf ho fo⟩
 ·exact ⟨2, _, e, by omega, rfl, Tryz.call51, fun hd hf ha ho fo hE => by have := zpm hd hf ho fo; unfold oneA; rw [e]; exact this⟩
 ·exact ⟨3, _, e, by omega, rfl, Tryz.call52, fun hd hf ha ho fo hE => by have := zpU hd hf ho fo; unfold oneA; rw [e]; exact this⟩
 ·exact ⟨4, _, e, by omega, rfl, Tryz.call53, fun {_ _ _ _ _ _ v} hd hf ha ho fo hE => by have := zkd (v := v) (o := o) hd hf; unfold oneA; rw [e]; exact this⟩
 ·exact ⟨5, _, e, by omega, rfl, Tryz.call54, fun {_ _ _ _ _ _ v} hd hf ha ho fo hE => by have := zqv (v := v) hd hf fo hE; unfold oneA; rw [e]; exact this⟩
 ·exact ⟨6, _, e, by omega, rfl, Tryz.call55, fun {_ _ _ _ _ _ v} hd hf ha ho fo hE => by have := zpH (v := v) hd hf fo hE; unfold oneA; rw [e]; exact this⟩
 ·exact ⟨7, _, e, by omega, rfl, Tryz.call56, fun {_ _ _ _ _ _ v} hd hf ha ho fo hE => by have := zpp (v := v) (o := o) hd hf hE; unfold oneA; rw [e]; exact this⟩
 ·exact ⟨8, _, e, by omega, rfl, Tryz.call57, fun {_ _ _ _ _ _ v} hd hf ha ho fo hE => by have := zqb (v := v) (o := o) hd hf hE; unfold oneA; rw [e]; exact this⟩
 ·exact ⟨9, _, e, by omega, rfl, Tryz.call58, fun {_ _ _ _ _ _ v} hd hf ha ho fo hE => by have := zqH (v := v) hd hf fo ha; unfold oneA; rw [e]; exact this⟩
 ·exact ⟨10, _, e, by omega, rfl, Tryz.call59, fun {_ _ _ _ _ _ v} hd hf ha ho fo hE => by have := zor (v := v) (o := o) hd hf ha; unfold oneA; rw [e]; exact this⟩
 ·exact ⟨11, _, e, by omega, rfl, Tryz.call60, fun {_ _ _ _ _ _ v} hd hf ha ho fo hE => by have := zmG (v := v) (o := o) hd hf ha; unfold oneA; rw [e]; exact this⟩
 ·exact ⟨12, _, e, by omega, rfl, Tryz.call61, fun {_ _ _ _ _ _ v} hd hf ha ho fo hE => by have := zmR (v := v) hd hf fo; unfold oneA; rw [e]; exact this⟩
theorem Fit.next {A : Acc} (h : Fit A) (hs : A.st ≤ 1099511627776) : Fit (nextA A) := ⟨h.bl, h.bs, h.ml, h.mb, h.mf, h.sl, h.ss, h.nl, ⟨by have := h.st; show 0 ≤ A.st + 1; omega, by show A.st + 1 ≤ _; omega⟩, h.nm, h.nb⟩
theorem zkO (w : World) : (Instr.build 114 [(1, fv 50), (2, fv 51), (3, fv 52), (4, fv 53), (5, fv 54), (6, fv 55), (7, fv 56), (8, fv 57), (9, fv 58), (10, fv 59), (11, fv 60), (12, fv 61)].toArray).run Tryz.prog w = .ok (.agg doesL.toArray) w := by
 simp [Instr.build, Instr.fill, go_sem, Tryz.runUnderlying114, doesL, fv]
abbrev zAcc' : List Value := [.slice none 0 0, .slice none 0 0, .slice none 0 0, .string ⟨#[]⟩, .slice none 0 0, .int .i64 0, .int .i64 0, .int .i64 0]
theorem AccO.lo {w : World} {B : Nat} {h : Hd} {lx : List Mr} {A : Acc} (o : AccO w B h lx A) : ∀ q ∈ h.all lx, B ≤ q ∧ q < w.heap.size := fun q hq => by
 unfold Hd.all Hd.bs at hq
 simp only [List.mem_append, zau] at hq
 rcases hq with (((hq | hq) | hq) | hq) | hq
 ·exact o.b.lt q hq
 ·exact o.s.lt q hq
 ·exact o.n.lt q hq
 ·exact o.m.lt q hq
 ·obtain ⟨x, hx, hq⟩ := List.mem_flatMap.1 hq
  rcases bs_mem hq with hq | hq
  ·exact (o.mb x hx).1.lt q hq
  ·exact (o.mb x hx).2.lt q hq
theorem AccO.keepP {w w' : World} {B : Nat} {p : Nat → Prop} {h : Hd} {lx : List Mr} {A : Acc} (o : AccO w B h lx A) (k : Kp w w' p) (hp : ∀ q ∈ h.all lx, ¬ p q) : AccO w' B h lx A :=
  ⟨zad o.b k fun q hq => hp q (Hd.all_b hq), zad o.s k fun q hq => hp q (Hd.all_s hq), zad o.n k fun q hq => hp q (Hd.all_n hq), zad o.m k fun q hq => hp q (Hd.all_m hq), o.ml,
   fun x hx => ⟨zad (o.mb x hx).1 k fun q hq => hp q (Hd.all_x hx (.inl hq)), zad (o.mb x hx).2 k fun q hq => hp q (Hd.all_x hx (.inr hq))⟩, o.nd⟩
theorem ziC (h : Hd) (A : Acc) (w : World) : (Instr.build 118 [(0, .agg (accC h A).toArray)].toArray).run Tryz.prog w = .ok (.agg (accC h A).toArray) w := by
 simp [Instr.build, Instr.fill, go_sem, Tryz.runUnderlying118, accC]
section
variable {w : World}
theorem zjs {h : Hd} {A : Acc} {v : Ov} {o : Opr} (hr : AccR w h A) (hf : Fit A) (hs : A.st ≤ 1099511627776) (ha : AscS A.scripts) (ho : OpR w v o) (fo : FitO o) (hE : BEnv w) :
  Calls Tryz.prog 23 #[.agg (accC h A).toArray, .agg (opC v o).toArray] w fun e w' => ∃ h', e = .returned (.tuple #[.agg (accC h' (applyA A o).1).toArray, .int .i64 (applyA A o).2.1, .int .i64 ((applyA A o).2.2 : Nat)]) ∧ StabA w' h' (applyA A o).1 ∧ Kp w w' n_ := by
 refine zaa (args := [.agg (accC h A).toArray, .agg (opC v o).toArray]) Tryz.func23 rfl NL ?_; refine GW ?_
 obtain ⟨a_b1, v_b1, k_w1, z_w1, r_w1⟩ := new5 w 36 (accC h A)
 generalize w.alloc (.cells (List.toArray (accC h A)) 36) = w1 at *
 generalize hs_b1 : w.heap.size = b1 at *
 obtain ⟨a_b2, v_b2, k_w2, z_w2, r_w2⟩ := new5 w1 72 (opC v o)
 generalize w1.alloc (.cells (List.toArray (opC v o)) 72) = w2 at *
 generalize hs_b2 : w1.heap.size = b2 at *
 obtain ⟨a_b3, v_b3, k_w3, z_w3, r_w3⟩ := new5 w2 36 (zAcc')
 generalize w2.alloc (.cells (List.toArray (zAcc')) 36) = w3 at *
 generalize hs_b3 : w2.heap.size = b3 at *
 have K3 : Kp w w3 n_ := (k_w1.trans0 k_w2).trans0 k_w3
 have a1 := zaf a_b1 (k_w2.trans0 k_w3)
 have a2 := zaf a_b2 k_w3
 refine KGO ?_
 refine RunV.of (zkO _) ?_
 refine KGO ?_
 refine Store.fresh (vs := doesL) (by rfl) rfl (zam (by rfl)) ?_
 obtain ⟨a_b4, k_w4, z_w4⟩ := new3 w3 114 (doesL)
 generalize w3.alloc (.cells (List.toArray (doesL)) 114) = w4 at *
 generalize hs_b4 : w3.heap.size = b4 at *
 have K4 := K3.trans0 k_w4
 have a1 := zaf a1 k_w4
 have a2 := zaf a2 k_w4
 have kr4 := Kp.refl w4 n_
 refine KGO ?_
 refine CallS.of (Tryz.call62 _ _) (zcq (w := w4) o.kind 1 12) ?_
 rintro e w4' ⟨rfl, rfl⟩
 refine RT ?_
 by_cases h1 : 1 ≤ o.kind ∧ o.kind ≤ 12
 rotate_left
 ·have hres : applyA A o = (A, 0, 1) := by
   have hone : oneA (nextA A) o = .error 1 := by
    unfold oneA
    rw [if_neg (by omega), if_neg (by omega), if_neg (by omega), if_neg (by omega), if_neg (by omega), if_neg (by omega), if_neg (by omega), if_neg (by omega), if_neg (by omega), if_neg (by omega), if_neg (by omega), if_neg (by omega)]
   unfold applyA
   rw [hone]
  rw [show decide (1 ≤ o.kind ∧ o.kind ≤ 12) = false from decide_eq_false h1]
  refine KGO ?_
  refine CallS.of (Tryz.call63 _ _) (zeJ (w := w4) (hr.keep K4) hf) ?_
  rintro e w5 ⟨h', lx, rfl, o5, k5⟩
  have vr := v_b3.keep0 (k_w4.trans0 k5)
  refine RT ?_
  refine KGO ?_
  refine SVK (accC h' A) vr fun w6 vr k6 => ?_
  have hat := vr.at
  refine KGO ?_
  refine GW ?_
  refine KGO ?_
  refine GW ?_
  rw [hres]
  exact ⟨h', rfl, (o5.p.keep k6 fun q hq e => by have e : q = b3 := e; have := (o5.lo q hq).1; have := k_w4.size; omega).stab, zan (K4.trans0 k5) k6 (by omega)⟩
 rw [show decide (1 ≤ o.kind ∧ o.kind ≤ 12) = true from decide_eq_true h1]
 obtain ⟨ik, fn, hki, hi13, hdo, hg, hcall⟩ := zqS h1
 refine KGO ?_
 refine CallS.of (Tryz.call63 _ _) (zeJ (w := w4) (hr.keep K4) hf) ?_
 rintro e w5 ⟨h', lx, rfl, o5, k5⟩
 refine RT ?_
 refine KGO ?_
 refine RunV.of (ziC h' A _) ?_
 refine KGO ?_
 obtain ⟨a_b5, v_b5, k_w6, z_w6, r_w6⟩ := new5 w5 118 (accC h' A)
 generalize w5.alloc (.cells (List.toArray (accC h' A)) 118) = w6 at *
 generalize hs_b5 : w5.heap.size = b5 at *
 have o6 := o5.keep k_w6
 have hst := hf.st
 have z5 := k5.size
 have hall : ∀ q ∈ h'.all lx, w4.heap.size ≤ q ∧ q < b5 := fun q hq => by have := o5.lo q hq; omega
 refine KGO ?_
 refine SCK 7 v_b5 fun w7 v7 k7 => ?_
 have o7 := o6.keepP k7 fun q hq e => by have e : q = b5 := e; have := (hall q hq).2; omega
 have hd7 : Drf w7 w4.heap.size b5 h' lx (nextA A) := ⟨v7, ⟨o7.b, o7.s, o7.n, o7.m, o7.ml, o7.mb, o7.nd⟩, fun k hk => (hall k hk).2, by omega⟩
 have K47 : Kp w4 w7 n_ := zan (k5.trans0 k_w6) k7 (by omega)
 have K7 := K4.trans0 K47
 have a27 := zaf a2 K47
 have a47 := zaf a_b4 K47
 have kr7 := Kp.refl w7 n_
 refine KGO ?_
 refine Load.one (by rfl) (v := fv fn) (by rw [hki]; exact a47 _ _ hdo) ?_
 refine KGO ?_
 have kd7 : Kp w7 w7.drew n_ := (Kp.refl w7 n_).drew
 have K7d := K7.trans0 kd7
 refine CallS.of (hg _ _) (hcall (w := w7.drew) (v := v) (hd7.keep kd7) (hf.next hs) ha (ho.keep K7d) fo (hE.keep K7d)) ?_
 rintro e w8 ⟨hD, k8⟩
 have hz4 := K4.size
 have K8 : Kp w w8 n_ := ⟨k8.os.trans K7d.os, k8.tape.trans K7d.tape, k8.output.trans K7d.output, Nat.le_trans K7d.size k8.size, fun q hq _ => (k8.block q (Nat.lt_of_lt_of_le hq K7d.size) fun e => by have e : w4.heap.size ≤ q := e; omega).trans (K7d.block q hq id)⟩
 have K48 : Kp w4 w8 n_ := by
  have K7d := K47.trans0 kd7
  exact ⟨k8.os.trans K7d.os, k8.tape.trans K7d.tape, k8.output.trans K7d.output, Nat.le_trans K7d.size k8.size, fun q hq _ => (k8.block q (Nat.lt_of_lt_of_le hq K7d.size) fun e => by have e : w4.heap.size ≤ q := e; omega).trans (K7d.block q hq id)⟩
 have a28 := zaf a2 K48
 have a18 := zaf a1 K48
 have vr := v_b3.keep0 (k_w4.trans0 K48)
 have kr8 := Kp.refl w8 n_
 cases hone : oneA (nextA A) o with
 | error c =>
  rw [hone] at hD
  have hD : e = .returned (.tuple #[.int .i64 0, .int .i64 (c : Nat)]) := hD
  subst hD
  have hres : applyA A o = (A, 0, c) := by unfold applyA; rw [hone]
  have hc0 : c ≠ 0 := zmr hone
  refine RT ?_
  refine KGO ?_
  refine CallS.of (Tryz.call63 _ _) (zeJ (w := w8) (hr.keep K8) hf) ?_
  rintro e w9 ⟨h9, lx9, rfl, o9, k9⟩
  have vr := vr.keep0 k9
  refine RT ?_
  refine KGO ?_
  refine SVK (accC h9 A) vr fun w10 vr k10 => ?_
  have hat := vr.at
  refine KGO ?_
  refine GW ?_
  refine KGO ?_
  refine GW ?_
  rw [hres]
  exact ⟨h9, rfl, (o9.p.keep k10 fun q hq e => by have e : q = b3 := e; have := (o9.lo q hq).1; have := k_w4.size; have := K48.size; omega).stab, zan (K8.trans0 k9) k10 (by omega)⟩
 | ok r =>
  obtain ⟨A', n⟩ := r
  rw [hone] at hD
  obtain ⟨rfl, h8, v8, r8, st8⟩ := hD
  dsimp only at v8 r8 st8 ⊢
  have hd8 := v8.at
  refine RT ?_
  have hst8 : A'.st = A'.st := rfl
  by_cases h2 : 1099511627776 < A'.st
  ·have hres : applyA A o = (A, 0, 3) := by unfold applyA; rw [hone]; exact if_pos h2
   refine KGO ?_
   refine CallS.of (Tryz.call63 _ _) (zeJ (w := w8) (hr.keep K8) hf) ?_
   rintro e w9 ⟨h9, lx9, rfl, o9, k9⟩
   have vr := vr.keep0 k9
   refine RT ?_
   refine KGO ?_
   refine SVK (accC h9 A) vr fun w10 vr k10 => ?_
   have hat := vr.at
   refine KGO ?_
   refine GW ?_
   refine KGO ?_
   refine GW ?_
   rw [hres]
   exact ⟨h9, rfl, (o9.p.keep k10 fun q hq e => by have e : q = b3 := e; have := (o9.lo q hq).1; have := k_w4.size; have := K48.size; omega).stab, zan (K8.trans0 k9) k10 (by omega)⟩
  ·have hres : applyA A o = (A', n, 0) := by unfold applyA; rw [hone]; exact if_neg h2
   refine KGO ?_
   refine SVK (accC h8 A') vr fun w10 vr10 k10 => ?_
   have hat := vr10.at
   refine KGO ?_
   refine GW ?_
   refine KGO ?_
   refine GW ?_
   rw [hres]
   exact ⟨h8, rfl, st8.step vr k10, zan K8 k10 (by omega)⟩
end
def inboxN : List UInt8 := [73, 110, 98, 111, 120]
def newB : List Bx := (addL [] 0 inboxN inB 1).1
def newA : Acc := ⟨newB, [], [], [], [], 1, 2, 0⟩
theorem zkB (s : Sl) (w : World) : (Instr.build 36 [(0, .slice s.a s.n s.c), (5, .int .i64 1), (6, .int .i64 2)].toArray).run Tryz.prog w = .ok (.agg #[.slice s.a s.n s.c, .slice none 0 0, .slice none 0 0, .string ⟨#[]⟩, .slice none 0 0, .int .i64 1, .int .i64 2, .int .i64 0]) w := by
 simp [Instr.build, Instr.fill, go_sem, Tryz.runUnderlying36]
section
variable {w : World}
theorem znE {α : Type} (c : α → List Value) : RowO w (.slice none 0 0) c [] := ⟨none, 0, rfl, fun h => by simp at h⟩
theorem zqK (hE : BEnv w) : Calls Tryz.prog 22 #[] w fun e w' => ∃ h', e = .returned (.agg (accC h' newA).toArray) ∧ StabA w' h' newA ∧ Kp w w' n_ := by
 refine zaa (args := []) Tryz.func22 rfl NL ?_; refine GW ?_
 obtain ⟨a_b1, v_b1, k_w1, z_w1, r_w1⟩ := new5 w 36 (zAcc')
 generalize w.alloc (.cells (List.toArray (zAcc')) 36) = w1 at *
 generalize hs_b1 : w.heap.size = b1 at *
 refine KGO ?_
 refine CallS.of (Tryz.call49 _ _) (zoG (w := w1) [] 0 inboxN inB 1 (znE _) (by simp) (by intro b hb; simp at hb) (by decide) (hE.keep k_w1)) ?_
 rintro e w2 ⟨v2, rfl, o2, k2⟩
 obtain ⟨a2, c2, rfl⟩ := zac o2
 have K2 := k_w1.trans0 k2
 have vr := v_b1.keep0 k2
 refine RT ?_
 refine KGO ?_
 refine RunV.of (zkB ⟨a2, _, c2⟩ _) ?_
 refine KGO ?_
 refine SVK (accC ⟨⟨a2, (addL [] 0 inboxN inB 1).1.length, c2⟩, ⟨none, 0, 0⟩, ⟨none, 0, 0⟩, ⟨none, 0, 0⟩⟩ newA) vr fun w3 vr k3 => ?_
 have hat := vr.at
 refine KGO ?_
 refine GW ?_
 refine KGO ?_
 refine GW ?_
 refine ⟨_, rfl, AccP.stab (lx := []) ⟨zaj (zax o2 k3 (by omega)) (Nat.zero_le _), World.ownsRow_nil _ _ _ _, World.ownsRow_nil _ _ _ _, World.ownsRow_nil _ _ _ _, rfl, fun x hx => by simp at hx⟩, zan K2 k3 (by omega)⟩
end
theorem zcQ : ∀ (l m : List Int), l.Nodup → (∀ x ∈ l, x ∈ m) → l.length ≤ m.length
 | [], m, _, _ => Nat.zero_le _
 | a :: r, m, h, hs => by
  rw [List.nodup_cons] at h
  have := zcQ r (m.erase a) h.2 fun x hx => (List.mem_erase_of_ne (fun (e : x = a) => h.1 (e ▸ hx))).2 (hs x (List.mem_cons_of_mem _ hx))
  rw [List.length_erase_of_mem (hs a (by simp))] at this
  have := List.length_pos_of_mem (hs a (by simp))
  rw [List.length_cons]; omega
theorem zoa {A : Acc} (g : GoodQ A) (hs : A.st ≤ 1099511627777) : Fit A := by
 have h1 := g.bx.len
 refine ⟨by omega, fun b hb => ⟨?_, ?_⟩, by have := g.ml; omega, fun m hm => ⟨?_, by have := (g.fit m hm).fl; omega⟩, fun m hm f hf => ?_, by have := g.sl; omega, fun s hs => ?_, by have := g.nl; omega, ⟨g.st, by omega⟩, by have := g.nm; unfold M40 at this; omega, by have := g.nb; unfold M40 at this; omega⟩
 ·have := ((zcr _).1 (g.bx.named b hb)).2.1; omega
 ·have h : ∀ r ∈ rolesL, r.length ≤ 1000000 := by decide
  exact h _ (g.bx.roles b hb)
 ·have f := g.fit m hm
  have := zcQ m.boxes (A.boxes.map (·.id)) (zhF f.asc) fun x hx => by
   obtain ⟨b, hb, e⟩ := (zaw _ _).1 (f.there x hx)
   exact e ▸ List.mem_map_of_mem hb
  rw [List.length_map] at this
  omega
 ·have := (g.fit m hm).fok f hf
  unfold flagB at this
  rw [Bool.and_eq_true, decide_eq_true_eq] at this
  omega
 ·have := g.src s hs
  unfold srcB scB at this
  rw [Bool.and_eq_true, Bool.and_eq_true, decide_eq_true_eq, decide_eq_true_eq] at this
  omega
theorem zmO : addL [] 0 inboxN inB 1 = ([⟨1, 0, inboxN, inB⟩], 0) := by decide +kernel
theorem zgB : GoodP newA := by
 have h := (zmt (l := []) 0 inboxN inB 1).1 (by rw [zmO])
 have hb := (zjN h.1 h.2).1
 have he : newA.boxes = [⟨1, 0, inboxN, inB⟩] := by unfold newA newB; rw [zmO]
 have hi : insL [] ⟨1, 0, inboxN, inB⟩ = [⟨1, 0, inboxN, inB⟩] := rfl
 rw [hi] at hb
 exact ⟨⟨by decide, by decide, by decide, by rw [he]; exact hb, fun b hb => by rw [he] at hb; rw [List.mem_singleton.1 hb]; decide, by decide, .nil, fun m hm => (by simp [newA] at hm), by decide, .nil, fun s hs => (by simp [newA] at hs), by decide, fun s hs => (by simp [newA] at hs), by simp [newA], .inl rfl⟩, by decide⟩
def opC' (p : Ov × Opr) : List Value := opC p.1 p.2
def RowOp (w : World) (v : Value) (l : List Opr) : Prop := ∃ lv : List (Ov × Opr), lv.map (·.2) = l ∧ RowO w v opC' lv ∧ ∀ p ∈ lv, OpR w p.1 p.2
section
end
end Go.Proofs.YtcplagfblmemhaaGreatDoor
