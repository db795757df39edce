/- Helper lemmas; no conditions of their own. -/
import Derived.Test.YtennokckmjcefaaGreatDoorRows
import Derived.Lib.LaidU8
import Derived.Test.YtennokckmjcefaaGreatDoorGNe1
set_option linter.unusedVariables false
set_option maxHeartbeats 8000000
set_option maxRecDepth 100000
namespace Go.Proofs.YtennokckmjcefaaGreatDoor
open Go.Shelf Go.RowKit Go.Pw Go.Vc Go.Cs Go.Lib Go.Cd Go.Mg
structure RxM (w : World) (b : Nat) (sv dv : Sl) (l : List (Sv × Sgm)) (x : Ix) : Prop where
 var : VarK w b 58 [.slice sv.a sv.n sv.c, .slice dv.a dv.n dv.c]
 rd : ∀ u, Kp w u (one_ b) → RowO u sv.v sgP l ∧ (∀ p ∈ l, RdS u p.1 p.2) ∧ RowI u dv.v x.dead
 eq : l.map (·.2) = x.segs
section
variable {w w' : World} {b : Nat} {sv dv : Sl} {l : List (Sv × Sgm)} {x : Ix}
theorem RxM.keep (h : RxM w b sv dv l x) (k : Kp w w' n_) : RxM w' b sv dv l x := ⟨h.var.keep0 k, fun u hu => h.rd u (k.of_none.trans' hu), h.eq⟩
theorem RxM.sg (h : RxM w b sv dv l x) : RowO w sv.v sgP l := (h.rd w (Yb _ _)).1
theorem RxM.el (h : RxM w b sv dv l x) : ∀ p ∈ l, RdS w p.1 p.2 := (h.rd w (Yb _ _)).2.1
theorem RxM.dd (h : RxM w b sv dv l x) : RowI w dv.v x.dead := (h.rd w (Yb _ _)).2.2
end
section
variable {w w' : World} {b : Nat} {sv dv : Sl} {l : List (Sv × Sgm)} {x : Ix}
theorem zlV (h : RxM w b sv dv l x) (hb : SerB x) (hsd : ∀ s ∈ x.segs, s.docs.length ≤ 1000000) (hdd : x.dead.length ≤ 1000000) : Calls Tryz.prog 15 #[.pointer (some ⟨b, 0, none⟩)] w fun e w' => e = .returned (.string (str (serX x))) ∧ Kp w w' n_ := by
 have hll : l.length = x.segs.length := by rw [← h.eq, yaf]
 have hn := hb.n
 have hl := hb.l
 have hv := h.var
 have hd0 := h.dd
 obtain ⟨a, c, es, hrs⟩ := h.sg
 obtain ⟨ad, cd, ed, hrd⟩ := h.dd
 have hel := h.el
 have heq := h.eq
 obtain ⟨sa, sn, sc⟩ := sv
 obtain ⟨da, dn, dc⟩ := dv
 injection es with e1 e2 e3
 injection ed with f1 f2 f3
 dsimp only at e1 e2 e3 f1 f2 f3 hv hd0
 subst e1 e2 e3 f1 f2 f3
 have hdn : iL (toN x.dead) = x.dead := iL_toN fun n hn => (hb.p n hn).1
 have hNl : (toN x.dead).length = x.dead.length := by unfold toN; exact List.length_map _
 have hNb : ∀ n ∈ toN x.dead, n < 2 ^ 63 := fun n hn => by
  obtain ⟨d, hd, rfl⟩ := yay.1 hn
  have := hb.p d hd
  omega
 unfold serX at hl ⊢
 rw [yaa, yaa] at hl
 have a0 := hv.at
 have q0 := Yb w n_
 refine zaa (args := [.pointer (some ⟨b, 0, none⟩)]) Tryz.func15 rfl NL ?_; refine GW ?_
 refine KGO ?_
 refine Ya (Tryz.call72 _ _) (zbR (w := w) l.length OM) ?_
 rintro e w1 ⟨rfl, k1⟩
 have hPl := zap (n := l.length) OM
 rw [← hll] at hl ⊢
 generalize hPRE : numE l.length = PRE at *
 refine RT ?_
 refine KGO ?_
 refine Yc (ι := Nat) (fun i => [(0, .pointer (some ⟨b, 0, none⟩)), (3, .string (str (PRE ++ (x.segs.take i).flatMap segE))), (4, .int .i64 (i : Nat))])
  (fun i wr => Kp w wr n_ ∧ i ≤ l.length) (fun i => l.length - i) 0 ⟨rfl, by rw [ybG, ybQ, yaA]; rfl, rfl, trivial⟩ ⟨k1, yal _⟩ ?_
 clear a0 q0 k1
 rintro i gi wr ⟨hK, hi⟩
 have a0 := (hv.keep0 hK).at
 have qr := Yb wr n_
 refine GW ?_
 by_cases hlt : i < l.length
 ·obtain ⟨gb, o, rfl, hgb, hat⟩ := hrs OM
  have hat := at_mono hat hK
  have hst : (x.segs.take (i + 1)).flatMap segE = (x.segs.take i).flatMap segE ++ segE l[i].2 := by
   rw [yad OM, yaC]
   simp only [← heq, ybi, ybN]
  have hft := zcb segE x.segs (i + 1)
  rw [hst, yaa] at hft
  have hm : l[i].2 ∈ x.segs := by rw [← heq]; exact yax (yak hlt)
  have hsm := (hb.sm _ hm).1
  have hrr := (hel l[i] (yak hlt)).keep hK
  have hse : (segE l[i].2).length = (numE (serS l[i].2).length).length + (serS l[i].2).length := yaa
  generalize (x.segs.take i).flatMap segE = PT at *
  refine KGO ?_
  refine Ya (Tryz.call74 _ _) (zgF (w := wr) l[i].1 l[i].2 hrr hsm (hsd _ hm) OM) ?_
  rintro e w7 ⟨rfl, k7⟩
  refine RT ?_
  refine KGO ?_
  refine Ya (Tryz.call73 _ _) (zfL (w := w7) (serS l[i].2) OM) ?_
  rintro e w8 ⟨rfl, k8⟩
  have hsg : textE (serS l[i].2) = segE l[i].2 := rfl
  rw [hsg]
  refine RT ?_
  refine KGO ?_
  refine Ym (by show (PRE ++ PT).length + (segE l[i].2).length ≤ _; rw [yaa]; omega) ?_
  rw [zcm, yap]
  refine KGO ?_
  exact ⟨i + 1, ⟨rfl, by rw [hst]; rfl, VS, trivial⟩, ⟨(hK.trans0 k7).trans0 k8, OM⟩, DO⟩
 obtain rfl : i = l.length := OM
 rw [yaz OM]
 have hn2 : (numsE (toN x.dead)).length ≤ 9 + 9 * x.dead.length := by
  unfold numsE
  have h2 := zap (n := (toN x.dead).length) OM
  have h3 := zbC (toN x.dead) hNb
  rw [yaa]; omega
 have hrow : RowI wr (.slice da x.dead.length dc) (iL (toN x.dead)) := by rw [hdn]; exact hd0.keep hK
 generalize x.segs.flatMap segE = PT at *
 refine KGO ?_
 refine Ya (Tryz.call75 _ _) (ziW (w := wr) (toN x.dead) hrow hNb OM) ?_
 rintro e w4 ⟨rfl, k4⟩
 refine RT ?_
 generalize numsE (toN x.dead) = X at *
 refine KGO ?_
 refine Ym (by show (PRE ++ PT).length + X.length ≤ _; rw [yaa]; omega) ?_
 rw [zcm, yap]
 refine KGO ?_
 exact ⟨rfl, hK.trans0 k4⟩
end
section
variable {w w' : World} {b : Nat} {sv dv : Sl} {l : List (Sv × Sgm)} {x : Ix}
theorem zqT (h : RxM w b sv dv l x) (hri : ∀ s ∈ x.segs, rightS s = true) (hsd : ∀ s ∈ x.segs, SmS s ∧ s.docs.length ≤ 1000000) (hfl : (flD x.segs).length ≤ 10000000) (hdl : x.dead.length ≤ 10000000) (hsl : x.segs.length ≤ 10000000) :
  Calls Tryz.prog 65 #[.pointer (some ⟨b, 0, none⟩)] w fun e w' => e = .returned (.bool (zaS x)) ∧ Kp w w' n_ := by
 have hll : l.length = x.segs.length := by rw [← h.eq, yaf]
 have hv := h.var
 obtain ⟨a, c, es, hrs⟩ := h.sg
 obtain ⟨ad, cd, ed, hrd⟩ := h.dd
 have hel := h.el
 have heq := h.eq
 obtain ⟨sa, sn, sc⟩ := sv
 obtain ⟨da, dn, dc⟩ := dv
 injection es with e1 e2 e3
 injection ed with f1 f2 f3
 dsimp only at e1 e2 e3 f1 f2 f3 hv
 subst e1 e2 e3 f1 f2 f3
 refine zaa (args := [.pointer (some ⟨b, 0, none⟩)]) Tryz.func65 rfl NL ?_; refine GW ?_
 refine KGO ?_
 refine Yc (ι := Nat × Sl) (fun q => [(0, .pointer (some ⟨b, 0, none⟩)), (3, .slice q.2.a q.2.n q.2.c), (4, .int .i64 (q.1 : Nat))])
  (fun q wr => Kp w wr n_ ∧ q.1 ≤ l.length ∧ OwnI wr w.heap.size q.2.v (flD (x.segs.take q.1)) ∧ (flD (x.segs.take q.1)).Nodup ∧ ∀ s ∈ x.segs.take q.1, s.docs ≠ []) (fun q => l.length - q.1) (0, ⟨none, 0, 0⟩) FR ⟨Yb _ _, yal _, World.ownsRow_nil _ _ _ _, List.nodup_nil, fun s h => by rw [ybG] at h; cases h⟩ ?_
 rintro ⟨i, so⟩ gi wr ⟨hK, hi, ho, hnd, hne⟩
 dsimp only at hi ho hnd hne ⊢
 have a0 := (hv.keep0 hK).at
 have qr := Yb wr n_
 refine GW ?_
 by_cases hlt : i < l.length
 ·obtain ⟨gb, o, rfl, hgb, hat⟩ := hrs OM
  have hat := at_mono hat hK
  have hlx : i < x.segs.length := OM
  have e1 : x.segs[i] = l[i].2 := by simp only [← heq, ybi]
  have hft := zkP hlx
  rw [e1] at hft
  have hm : l[i].2 ∈ x.segs := by rw [← e1]; exact yak _
  have hsub := znL x.segs (i + 1)
  have htk : x.segs.take (i + 1) = x.segs.take i ++ [l[i].2] := by rw [yad hlx, e1]
  obtain ⟨hsm, hdb⟩ := hsd _ hm
  have hrg := hri _ hm
  have hrr := (hel l[i] (yak hlt)).keep hK
  have hln : l[i].1.d.n = l[i].2.docs.length := Yl hrr.d
  refine KGO ?_
  refine Ya (Tryz.call120 _ _) (zeB (w := wr) l[i].1 l[i].2 hrr hsm OM) ?_
  rintro e w2 ⟨rfl, k2⟩
  have K2 := hK.trans0 k2
  have a2 := (hv.keep0 K2).at
  have q2 := Yb w2 n_
  have ho2 := own_keep0 ho k2
  have hat2 := at_mono hat k2
  have hrr2 := hrr.keep k2
  rw [hrg]
  clear a0 qr hat ho hrr
  refine RT ?_
  by_cases h0 : l[i].2.docs.length = 0
  ·have hvf : zaS x = false := zlo hm (yan h0)
   refine KGO ?_
   exact ⟨by rw [hvf], K2⟩
  refine KGO ?_
  generalize flD (x.segs.take i) = F at *
  refine Yc (ι := Nat × Sl) (fun q => [(0, .pointer (some ⟨b, 0, none⟩)), (3, .slice q.2.a q.2.n q.2.c), (4, .int .i64 (i : Nat)), (6, .int .i64 (q.1 : Nat))])
   (fun q wk => Kp w wk n_ ∧ q.1 ≤ l[i].2.docs.length ∧ OwnI wk w.heap.size q.2.v (F ++ l[i].2.docs.take q.1) ∧ (F ++ l[i].2.docs.take q.1).Nodup) (fun q => l[i].2.docs.length - q.1) (0, so) FR ⟨K2, yal _, by simpa using ho2, by simpa using hnd⟩ ?_
  clear a2 q2
  rintro ⟨j, sj⟩ gj wk ⟨hKk, hj, hoj, hndj⟩
  dsimp only at hj hoj hndj ⊢
  have ak := (hv.keep0 hKk).at
  have qk := Yb wk n_
  obtain ⟨gx, ox, ex, _, hatx⟩ := hrs OM
  injection ex with ex
  injection ex with ex1 ex2
  subst ex1 ex2
  have hatk := at_mono hatx hKk
  have hrrk := (hel l[i] (yak hlt)).keep hKk
  obtain ⟨oj, cj, ej⟩ := zab hoj
  obtain ⟨ja, jn, jc⟩ := sj
  injection ej with j1 j2 j3
  dsimp only at j1 j2 j3
  subst j1 j2 j3
  have hFl : (F ++ l[i].2.docs.take j).length ≤ 10000000 := by
   have h1 := hsub.length_le
   rw [hft, yaa] at h1
   rw [yaa, yar]; omega
  refine GW ?_
  by_cases hjt : j < l[i].2.docs.length
  ·obtain ⟨ra, rc, re, rh⟩ := hrrk.d
   obtain ⟨g2, o2, rfl, hg2, hat2⟩ := rh OM
   have ck := zaJ hat2 hjt
   have hts : l[i].2.docs.take (j + 1) = l[i].2.docs.take j ++ [l[i].2.docs[j]] := yad hjt
   have hss : (F ++ l[i].2.docs.take (j + 1)).Sublist (F ++ l[i].2.docs) := List.Sublist.append (List.Sublist.refl _) (List.take_sublist _ _)
   rw [hts] at hss
   injection re with re _ _
   refine KGO ?_
   rw [re]
   refine KGO ?_
   refine Ya (Tryz.call20 _ _) (zlx (w := wk) (F ++ l[i].2.docs.take j) l[i].2.docs[j] (own_rowO hoj) OM) ?_
   rintro e w5 ⟨rfl, k5⟩
   have K5 := hKk.trans0 k5
   have ho5 := own_keep0 hoj k5
   have a5 := (hv.keep0 K5).at
   have hat5 := at_mono hatx K5
   have ck5 := zao ck k5
   have q5 := Yb w5 n_
   clear ak hatk ck qk hoj
   refine RT ?_
   by_cases hin : l[i].2.docs[j] ∈ F ++ l[i].2.docs.take j
   ·rw [decide_eq_true hin]
    have hvf : zaS x = false := zld fun hh => by
     have h2 := (hh.sublist hsub)
     rw [hft] at h2
     have h3 := h2.sublist hss
     rw [← yap] at h3
     exact (ybr.1 h3).2.2 _ hin _ (yac.2 rfl) rfl
    refine KGO ?_
    exact ⟨by rw [hvf], K5⟩
   rw [decide_eq_false hin]
   refine KGO ?_
   rw [re]
   refine KGO ?_
   refine Ye (bs1I l[i].2.docs[j] _) ?_
   obtain ⟨a_b6, v_b6, k_w6, z_w6, r_w6⟩ := new5 w5 3 (inC l[i].2.docs[j])
   generalize w5.alloc (.cells (List.toArray (inC l[i].2.docs[j])) 3) = w6 at *
   generalize hs_b6 : w5.heap.size = b6 at *
   have ho6 := own_keep0 ho5 k_w6
   have K6 := K5.trans0 k_w6
   have z6 := K6.size
   refine KGO ?_
   refine tyI.app1 l[i].2.docs[j] ho6 OM a_b6 OM OM fun v7 w7 o7 k7 => ?_
   have K7 := zav ho6 k7 K6 (yag _)
   obtain ⟨a7, c7, rfl⟩ := zab o7
   rw [yap, ← hts] at o7
   refine KGO ?_
   refine ⟨(j + 1, ⟨a7, _, c7⟩), FR, ⟨K7, DO, ?_, ?_⟩, DO⟩
   ·rw [yap, ← hts]
    exact o7
   dsimp only
   rw [hts, ← yap, ybr]
   exact ⟨hndj, by simp, fun a ha b hb e => hin (by rw [← yac.1 hb, ← e]; exact ha)⟩
  obtain rfl : j = l[i].2.docs.length := OM
  have hFe : F ++ l[i].2.docs.take l[i].2.docs.length = F ++ l[i].2.docs := by rw [yaD]
  refine KGO ?_
  refine ⟨(i + 1, ⟨ja, _, jc⟩), FR, ⟨hKk, DO, ?_, ?_, fun s' hs' => ?_⟩, DO⟩
  ·dsimp only; rw [hft, ← hFe]; exact hoj
  ·dsimp only; rw [hft, ← hFe]; exact hndj
  dsimp only at hs'
  rw [htk] at hs'
  rcases yaj.1 hs' with hs' | hs'
  ·exact hne s' hs'
  rw [yac.1 hs']
  exact fun e => h0 (by rw [e]; rfl)
 obtain rfl : i = l.length := OM
 rw [yaz OM] at ho hnd hne
 generalize hF : flD x.segs = F at *
 obtain ⟨oj, cj, ej⟩ := zab ho
 obtain ⟨ja, jn, jc⟩ := so
 injection ej with j1 j2 j3
 dsimp only at j1 j2 j3
 subst j1 j2 j3
 refine KGO ?_
 refine Yc (ι := Nat) (fun i => [(0, .pointer (some ⟨b, 0, none⟩)), (3, .slice ja F.length jc), (8, .int .i64 (i : Nat))])
  (fun i wk => Kp wr wk n_ ∧ i ≤ x.dead.length ∧ (∀ j (hj : j < x.dead.length), j < i → x.dead[j] ∈ F) ∧ ∀ j (hj : j + 1 < x.dead.length), j + 1 < i → ltI (x.dead[j]'OM) x.dead[j + 1] = true) (fun i => x.dead.length - i) 0 FR ⟨Yb _ _, yal _, fun j hj h => OM, fun j hj h => OM⟩ ?_
 clear a0 qr
 rintro i gi wk ⟨hKk, hi, hin, has⟩
 have hKw := hK.trans0 hKk
 have a0 := (hv.keep0 hKw).at
 have qk := Yb wk n_
 refine GW ?_
 by_cases hit : i < x.dead.length
 ·obtain ⟨gd, od, rfl, hgd, hatd⟩ := hrd OM
  have ci := zao (zaJ hatd hit) hKw
  refine KGO ?_
  refine Ya (Tryz.call20 _ _) (zlx (w := wk) F x.dead[i] (own_rowO (own_keep0 ho hKk)) OM) ?_
  rintro e w5 ⟨rfl, k5⟩
  have K5 := hKk.trans0 k5
  have K5w := hK.trans0 K5
  have a5 := (hv.keep0 K5w).at
  have q5 := Yb w5 n_
  clear a0 qk ci
  refine RT ?_
  by_cases hd : x.dead[i] ∈ F
  rotate_left
  ·rw [decide_eq_false hd]
   have hvf : zaS x = false := zks (yak hit) (by rw [hF]; exact hd)
   refine KGO ?_
   exact ⟨by rw [hvf], K5w.trans0 q5.drew⟩
  rw [decide_eq_true hd]
  have hin2 : ∀ j (hj : j < x.dead.length), j < i + 1 → x.dead[j] ∈ F := fun j hj h => by
   by_cases hj2 : j < i
   ·exact hin j hj hj2
   obtain rfl : j = i := OM
   exact hd
  cases i with
  | zero =>
   refine KGO ?_
   exact ⟨1, FR, ⟨K5.trans0 q5.drew, OM, hin2, fun j hj h => OM⟩, DO⟩
  | succ k =>
   have e1 : (((k + 1 : Nat) : Int) - 1).toNat = k := OM
   have c0 : w5.cell? ⟨gd, od + k, none⟩ = some (.int .i64 x.dead[k]) := zao (zaJ hatd OM) K5w
   have c1 : w5.cell? ⟨gd, od + (k + 1), none⟩ = some (.int .i64 x.dead[k + 1]) := zao (zaJ hatd hit) K5w
   refine KGO ?_
   rw [e1]
   refine KGO ?_
   by_cases h3 : x.dead[k + 1] ≤ x.dead[k]
   ·have hvf : zaS x = false := zlD fun hh => by
     have := (yaH.1 hh) k (k + 1) OM hit OM
     omega
    refine KGO ?_
    exact ⟨by rw [hvf], K5w.trans0 q5.drew⟩
   refine KGO ?_
   refine ⟨k + 1 + 1, FR, ⟨K5.trans0 q5.drew, OM, hin2, fun j hj h => ?_⟩, DO⟩
   by_cases hj2 : j + 1 < k + 1
   ·exact has j hj hj2
   obtain rfl : j = k := OM
   exact decide_eq_true OM
 have hvt : zaS x = true := ziI (by rw [hF]; exact hnd) hne (fun d hd => by
  obtain ⟨j, hj, rfl⟩ := ybh hd
  rw [hF]
  exact hin j hj OM) ((pw_consec stoI.tr _ fun j hj => has j hj OM).imp fun h => of_decide_eq_true h)
 refine KGO ?_
 exact ⟨by rw [hvt], hKw⟩
end
theorem zhm {s : Sgm} (h : rightS s = true) : s.docs.length ≤ (serS s).length := by
 have h2 := zcO (toN s.docs)
 have h3 : (toN s.docs).length = s.docs.length := by unfold toN; exact List.length_map _
 unfold serS
 rw [if_pos h, yaa]
 unfold numsE
 rw [yaa]; omega
theorem zrC : ∀ l : List Sgm, (∀ s ∈ l, rightS s = true) → (flD l).length ≤ wtG l
 | [], _ => yag _
 | s :: l, h => by
  have h1 := zrC l fun t ht => h t (yai _ ht)
  have h2 := zhm (h s yae)
  unfold flD wtG at *
  rw [yao, yaa, yas, yaY]; omega
theorem zpY (w : World) : (Instr.build 58 #[]).run Tryz.prog w = .ok (.agg #[.slice none 0 0, .slice none 0 0]) w := by
 simp [Instr.build, go_sem, Tryz.runUnderlying58]
section
variable {w : World}
theorem zsR (u : List UInt8) (hu : u.length ≤ 100000) : Calls Tryz.prog 13 #[.string (str u)] w fun e w' =>
  (match zbA u with
  | none => e = .returned (.tuple #[.pointer none, .bool false])
  | some x => ∃ b sv dv l, e = .returned (.tuple #[.pointer (some ⟨b, 0, none⟩), .bool true]) ∧ RxM w' b sv dv l x) ∧ Kp w w' n_ := by
 refine zaa (args := [.string (str u)]) Tryz.func13 rfl NL ?_; refine GW ?_
 refine Ya (Tryz.call58 _ _) (zfy (w := w) (str u)) ?_
 rintro e w1 ⟨rfl, h1, k1⟩
 have hstr : L (str u) = u := rfl
 rw [hstr] at h1
 obtain ⟨rb, hrb⟩ : ∃ rb, w.heap.size = rb := ⟨_, rfl⟩
 rw [hrb] at h1 ⊢
 refine RT ?_
 refine KGO ?_
 refine Ye (zpY _) ?_
 refine KGO ?_
 obtain ⟨a_b5, v_b5, k_w2, z_w2, r_w2⟩ := new5 w1 58 ([.slice none 0 0, .slice none 0 0])
 generalize w1.alloc (.cells (List.toArray ([.slice none 0 0, .slice none 0 0])) 58) = w2 at *
 generalize hs_b5 : w1.heap.size = b5 at *
 have h2 := h1.keep0 k_w2
 have K2 := k1.trans0 k_w2
 have hrb5 : rb < b5 := by have := h1.lt; omega
 refine KGO ?_
 refine Ya (Tryz.call59 _ _) (zbo (w := w2) (some u) h2 (fun x e => by injection e with e; subst e; omega)) ?_
 rintro e w3 ⟨rfl, h3, k3⟩
 have hlt := zaW (some u)
 have hnl := zbs (some u)
 rw [show stL (some u) = u.length from rfl] at hnl
 have hpar : parX u = match (segsR (numR (some u)).1 (numR (some u)).2).1 with | none => none | some l => if (numsR (segsR (numR (some u)).1 (numR (some u)).2).2).2 = some [] then some ⟨l, iL (numsR (segsR (numR (some u)).1 (numR (some u)).2).2).1⟩ else none := rfl
 have x3 := v_b5.keep k3 (show ¬ b5 = rb by omega)
 have K3 : Kp w w3 n_ := keeps_new K2 k3 OM
 generalize numR (some u) = q at *
 obtain ⟨n0, s0⟩ := q
 dsimp only at h3 hlt hnl hpar ⊢
 clear h1 h2 k1 k3 v_b5 a_b5 K2
 refine RT ?_
 refine KGO ?_
 refine Yc (ι := St × Sl × List (Sv × Sgm)) (fun q => [(0, .string (str u)), (4, .pointer (some ⟨rb, 0, none⟩)), (5, .pointer (some ⟨b5, 0, none⟩)), (6, .int .i64 (n0 : Nat)), (7, .int .i64 (q.2.2.length : Nat))])
  (fun q wr => Kp w wr n_ ∧ VarK wr rb 145 (rdC q.1) ∧ (VarK wr b5 58 [.slice q.2.1.a q.2.1.n q.2.1.c, .slice none 0 0] ∧ OwnSg wr (b5 + 1) q.2.1.v q.2.2 ∧ ∀ p ∈ q.2.2, OwS wr (b5 + 1) p.1 p.2) ∧ q.2.2.length ≤ n0 ∧ (segsR n0 s0).1 = (segsR (n0 - q.2.2.length) q.1).1.map (q.2.2.map (·.2) ++ ·) ∧ (segsR n0 s0).2 = (segsR (n0 - q.2.2.length) q.1).2 ∧ wtG (q.2.2.map (·.2)) + stL q.1 ≤ u.length ∧ ∀ p ∈ q.2.2, rightS p.2 = true)
  (fun q => n0 - q.2.2.length) (s0, ⟨none, 0, 0⟩, []) FR ⟨K3, h3, ⟨x3, World.ownsRow_nil _ _ _ _, fun p h => by cases h⟩, yal _, by show (segsR n0 s0).1 = (segsR n0 s0).1.map _; cases (segsR n0 s0).1 <;> rfl, rfl, by show 0 + stL s0 ≤ _; omega, fun p h => by cases h⟩ ?_
 clear h3 x3 K3
 rintro ⟨st, sv, l⟩ gg wr ⟨hK, hv, ⟨hxv, hxs, hxe⟩, hkn, hs1, hs2, hwt, hri⟩
 dsimp only at hv hxv hxs hxe hkn hs1 hs2 hwt hri ⊢
 have hll := zjM (l.map (·.2))
 rw [yaf] at hll
 have zr := hK.size
 obtain ⟨aS, cS, es⟩ := zab hxs
 obtain ⟨sa, sn, sc⟩ := sv
 injection es with e1 e2 e3
 dsimp only at e1 e2 e3
 subst e1 e2 e3
 dsimp only at hxv hxs
 refine GW ?_
 by_cases hx : l.length < n0 ∧ stL st ≠ 0
 ·obtain ⟨hk0, hs0⟩ := hx
  obtain ⟨k, hk⟩ : ∃ k, n0 - l.length = k + 1 := ⟨n0 - l.length - 1, OM⟩
  rw [hk, segsR, if_neg hs0] at hs1 hs2
  have hwr := zjo hs0
  have hsu : ∀ x, st = some x → x.length ≤ 140737488355328 := fun x e => by subst e; simp only [stL] at hwt; omega
  refine KGO ?_
  refine Ya (Tryz.call60 _ _) (zcC (w := wr) st hv) ?_
  rintro e w4 ⟨rfl, k4⟩
  have hv4 := hv.keep0 k4
  have K4 := hK.trans0 k4
  refine RT ?_
  refine KGO ?_
  refine Ya (Tryz.call62 _ _) (zeD (w := w4) st hv4 hsu) ?_
  rintro e w5 ⟨rfl, h5, k5⟩
  have k45 : Kp wr w5 (one_ rb) := k4.of_none.trans' k5
  have hnr : ∀ q, one_ rb q → ¬ b5 + 1 ≤ q := fun q e h => by have e : q = rb := e; omega
  have hxv5 := hxv.keep k45 (show ¬ b5 = rb by omega)
  have hxs5 := own_keep hxs k45 fun q hq e => hnr q e (hxs.lt q hq).1
  have hxe5 : ∀ p ∈ l, OwS w5 (b5 + 1) p.1 p.2 := fun p hp => ⟨own_keep (hxe p hp).t k45 fun q hq e => hnr q e ((hxe p hp).t.lt q hq).1, own_keep (hxe p hp).d k45 fun q hq e => hnr q e ((hxe p hp).d.lt q hq).1⟩
  have K5 : Kp w w5 n_ := keeps_new K4 k5 OM
  clear hv hxv hxs hxe hv4 k4 k5 hsu k45
  generalize (textR st).1 = T at *
  generalize (textR st).2 = st' at *
  refine RT ?_
  refine KGO ?_
  refine Ya (Tryz.call61 _ _) (zpg (w := w5) T OM) ?_
  rintro e w6 ⟨⟨hg, rfl, hog⟩, k6⟩
  have hxv6 := hxv5.keep0 k6
  have hxs6 := own_keep0 hxs5 k6
  have hxe6 : ∀ p ∈ l, OwS w6 (b5 + 1) p.1 p.2 := fun p hp => (hxe5 p hp).keep k6
  have h6 := h5.keep0 k6
  have K6 := K5.trans0 k6
  have z5 := K5.size
  have hb5 := hxv5.lt
  refine RT ?_
  cases hrs : readS T with
  | none =>
   rw [hrs] at hs1
   have hno : zbA u = none := by unfold zbA; rw [hpar, hs1]; rfl
   refine KGO ?_
   refine Yg (vs := sgC hg) (by rfl) rfl (zak (by rfl)) ?_
   obtain ⟨a_b7, k_w7, z_w7⟩ := new3 w6 65 (sgC hg)
   generalize w6.alloc (.cells (List.toArray (sgC hg)) 65) = w7 at *
   generalize hs_b7 : w6.heap.size = b7 at *
   refine KGO ?_
   rw [hno]
   exact ⟨rfl, K6.trans0 k_w7⟩
  | some g =>
   have og := hog g hrs
   obtain ⟨hgr, hgs⟩ := (zfo OM).1 hrs
   rw [hrs] at hs1 hs2
   dsimp only at hs1 hs2
   refine KGO ?_
   refine Yg (vs := sgC hg) (by rfl) rfl (zak (by rfl)) ?_
   obtain ⟨a_b7, k_w7, z_w7⟩ := new3 w6 65 (sgC hg)
   generalize w6.alloc (.cells (List.toArray (sgC hg)) 65) = w7 at *
   generalize hs_b7 : w6.heap.size = b7 at *
   have hxv7 := hxv6.keep0 k_w7
   have hxs7 := own_keep0 hxs6 k_w7
   have hxe7 : ∀ p ∈ l, OwS w7 (b5 + 1) p.1 p.2 := fun p hp => (hxe6 p hp).keep k_w7
   have X6s : ∀ q, own_ (.slice sa l.length sc) q → q < b7 := fun q e => by have := (hxs6.lt q e).2; omega
   have h7 := h6.keep0 k_w7
   have og7 := og.keep k_w7
   have K7 := K6.trans0 k_w7
   have q7 := Yb w7 n_
   have a57 := hxv7.at
   have a7 : At w7 b7 0 [.slice hg.t.a hg.t.n hg.t.c, .slice hg.d.a hg.d.n hg.d.c] := a_b7
   clear hrs hs0 hog hxv5 hxs5 hxe5 hxv6 hxs6 hxe6 h5 h6 K5 K6 k6 k_w7 K4
   refine KGO ?_
   have hown : ∀ q, own_ (.slice sa l.length sc) q → q < w7.heap.size ∧ b5 + 1 ≤ q := fun q e => ⟨(hxs7.lt q e).2, (hxs7.lt q e).1⟩
   have hn5 : ¬ own_ (.slice sa l.length sc) b5 := fun e => by have := hown b5 e; omega
   have hn7 : ¬ own_ (.slice sa l.length sc) b7 := fun e => by have := (X6s b7 e); omega
   refine Yh (fun v => Kp w7 v (own_ (.slice sa l.length sc))) (fun _ => true) (by simp) (by decide +kernel) (by decide +kernel) (Yb _ _).drew ?_
   refine KGO ?_
   refine Yf (by rfl) (fun v hv => zaI a57 hv hn5 0 _ rfl) ?_
   refine KGO ?_
   refine HeldG (sgC hg) (by rfl) (by rfl) (fun v hv => zaI a7 hv hn7) (by rfl) ?_
   refine KGO ?_
   refine Ye (bs1Sg hg _) ?_
   have kd := (Yb w7 n_).drew
   obtain ⟨a_b8, v_b8, k_w8, z_w8, r_w8⟩ := new5 w7.drew 65 (sgC hg)
   generalize w7.drew.alloc (.cells (List.toArray (sgC hg)) 65) = w8 at *
   generalize hs_b8 : w7.drew.heap.size = b8 at *
   have k78 := kd.trans0 k_w8
   refine ⟨k78.of_none, ?_⟩
   have hxv8 := hxv7.keep0 k78
   have hxs8 := own_keep0 hxs7 k78
   have hxe8 : ∀ p ∈ l, OwS w8 (b5 + 1) p.1 p.2 := fun p hp => (hxe7 p hp).keep k78
   have h8 := h7.keep0 k78
   have K8 := K7.trans0 k78
   have z8 := k78.size
   have hb8 := hxv8.lt
   refine KGO ?_
   refine tySg.app1W (hg, g) hxs8 OM a_b8 OM OM fun v9 w9 o9 k9 f9 => ?_
   obtain ⟨a9, c9, rfl⟩ := zab o9
   refine ⟨k78.of_none.trans' k9, ?_⟩
   have vv9 := hxv8.keep k9 hn5
   refine KGO ?_
   refine Yd (i := 0) vv9 (by simp) (by rfl) ⟨rfl, by simp, by simp⟩ fun w10 v10 k10 => ?_
   refine KGO ?_
   have og8 := og7.keep k78
   refine ⟨(st', ⟨a9, _, c9⟩, l ++ [(hg, g)]), FR, ⟨?_, ?_, ⟨v10, zal o9 k10 OM, fun p hp => ?_⟩, ?_, ?_, ?_, ?_, fun p hp => ?_⟩, ?_⟩
   ·exact (K8.trans k9 fun q hq e => by have := hown q e; omega).trans k10 fun q hq e => by have e : q = b5 := e; omega
   ·have hnr : ¬ own_ (.slice sa l.length sc) rb := fun e => by have := hown rb e; omega
    exact (h8.keep k9 hnr).keep k10 (show ¬ rb = b5 by omega)
   ·have ep : OwS w8 (b5 + 1) p.1 p.2 := by
     rcases yaj.1 hp with hp | hp
     ·exact hxe8 p hp
     rw [yac.1 hp]
     exact ⟨own_base og8.t OM, own_base og8.d OM⟩
    exact ⟨zal (own_keep ep.t k9 (zas ep.t hxs8 (by decide))) k10 OM, zal (own_keep ep.d k9 (zas ep.d hxs8 (by decide))) k10 OM⟩
   ·dsimp only; rw [List.length_append, List.length_singleton]; omega
   ·dsimp only
    rw [yaa, ybu, show n0 - (l.length + 1) = k by omega, hs1, Option.map_map]
    congr 1
    funext z
    simp
   ·dsimp only
    rw [yaa, ybu, show n0 - (l.length + 1) = k by omega, hs2]
   ·dsimp only
    rw [yaL, List.map_singleton, wtG_snoc, hgs]
    omega
   ·rcases yaj.1 hp with hp | hp
    ·exact hri p hp
    rw [yac.1 hp]; exact hgr
   dsimp only; rw [List.length_append, List.length_singleton]; omega
 have hfin : (segsR n0 s0).1 = some (l.map (·.2)) ∧ (segsR n0 s0).2 = st := by
  have hz : segsR (n0 - l.length) st = (some [], st) := by
   by_cases hk0 : l.length < n0
   ·have hs0 : stL st = 0 := Decidable.byContradiction fun h => hx ⟨hk0, h⟩
    obtain ⟨k, hk⟩ : ∃ k, n0 - l.length = k + 1 := ⟨n0 - l.length - 1, OM⟩
    rw [hk, segsR, if_pos hs0]
   rw [show n0 - l.length = 0 by omega]; rfl
  rw [hz] at hs1 hs2
  exact ⟨by rw [hs1]; simp, hs2⟩
 rw [hfin.1, hfin.2] at hpar
 dsimp only at hpar
 clear hfin hs1 hs2
 have hnw := zff st
 have hn63 := zlz st
 have hris : ∀ s ∈ l.map (·.2), rightS s = true := fun s hs => by
  obtain ⟨p, hp, rfl⟩ := yay.1 hs
  exact hri p hp
 have hsm : ∀ s ∈ l.map (·.2), SmS s ∧ s.docs.length ≤ 100000 := fun s hs => by
  have h1 := zpj s hs
  have h2 := zhm (hris s hs)
  exact ⟨(zno (hris s hs) OM).1, OM⟩
 have hfw := zrC _ hris
 have hsu : stL st ≤ 140737488355328 / 16 := OM
 have hrd : zbA u = match parX u with | none => none | some x => if zaS x = true ∧ serX x = u then some x else none := rfl
 by_cases hk0 : l.length < n0
 rotate_left
 refine KGO ?_
 generalize wr = wz at *
 rotate_left
 have hs0 : stL st = 0 := Decidable.byContradiction fun h => hx ⟨hk0, h⟩
 refine KGO ?_
 refine Ya (Tryz.call60 _ _) (zcC (w := wr) st hv) ?_
 rintro e wz ⟨rfl, kz⟩
 replace hv := hv.keep0 kz
 replace hxv := hxv.keep0 kz
 replace hxs := own_keep0 hxs kz
 replace hxe : ∀ p ∈ l, OwS wz (b5 + 1) p.1 p.2 := fun p hp => (hxe p hp).keep kz
 replace hK := hK.trans0 kz
 clear kz zr
 refine RT ?_
 refine KGO ?_
 all_goals
  clear hx hk0
  have zz := hK.size
  have hb5z := hxv.lt
  refine Ya (Tryz.call63 _ _) (zgL (w := wz) st hv (by unfold stLen; exact hsu)) ?_
  rintro e w6 ⟨v6, rfl, o6, h6, k6⟩
  have hnr : ∀ q, one_ rb q → ¬ b5 + 1 ≤ q := fun q e h => by have e : q = rb := e; omega
  have hxv6 := hxv.keep k6 (show ¬ b5 = rb by omega)
  have hxs6 := own_keep hxs k6 fun q hq e => hnr q e (hxs.lt q hq).1
  have hxe6 : ∀ p ∈ l, OwS w6 (b5 + 1) p.1 p.2 := fun p hp => ⟨own_keep (hxe p hp).t k6 fun q hq e => hnr q e ((hxe p hp).t.lt q hq).1, own_keep (hxe p hp).d k6 fun q hq e => hnr q e ((hxe p hp).d.lt q hq).1⟩
  have K6 : Kp w w6 n_ := keeps_new hK k6 OM
  generalize hq : numsR st = q at *
  obtain ⟨D, st2⟩ := q
  dsimp only at o6 h6 hpar hnw hn63
  obtain ⟨aD, cD, rfl⟩ := zab o6
  rw [zbl] at *
  refine RT ?_
  refine KGO ?_
  refine Yd (i := 1) hxv6 (by simp) (by rfl) ⟨rfl, by simp, by simp⟩ fun w7 v7 k7 => ?_
  have o6b : OwnI w6 (b5 + 1) (.slice aD D.length cD) (iL D) := own_base o6 (show b5 + 1 ≤ wz.heap.size by omega)
  have X7 : RxM w7 b5 ⟨sa, l.length, sc⟩ ⟨aD, D.length, cD⟩ l ⟨l.map (·.2), iL D⟩ := ⟨v7, fun y ky => by
   have kk := k7.trans' ky
   have hn : ∀ q, b5 + 1 ≤ q → ¬ one_ b5 q := fun q h e => by have e : q = b5 := e; omega
   exact ⟨own_rowO (own_keep hxs6 kk fun q hq => hn q (hxs6.lt q hq).1), fun p hp => OwS.rd ⟨own_keep (hxe6 p hp).t kk fun q hq => hn q ((hxe6 p hp).t.lt q hq).1, own_keep (hxe6 p hp).d kk fun q hq => hn q ((hxe6 p hp).d.lt q hq).1⟩, own_rowO (own_keep o6b kk fun q hq => hn q (o6b.lt q hq).1)⟩, rfl⟩
  have h7 := h6.keep k7 (show ¬ rb = b5 by omega)
  have K7 : Kp w w7 n_ := keeps_new K6 k7 OM
  clear hxv6 hxs6 hxe6 h6 hxv hxs hxe hv hK K6 o6 o6b v7
  refine KGO ?_
  have hdu : ∀ x, st2 = some x → x.length ≤ 140737488355328 := fun x e => by subst e; have : x.length = stL (some x) := rfl; omega
  refine Ya (Tryz.call64 _ _) (zdK (w := w7) st2 h7 hdu) ?_
  rintro e w8 ⟨rfl, k8⟩
  have X8 := X7.keep k8
  have K8 := K7.trans0 k8
  refine RT ?_
  refine KGO ?_
  have hil : (iL D).length = D.length := zbl D
  have hlm : (l.map (·.2)).length = l.length := yaf _
  have hpx : parX u = if st2 = some [] then some ⟨l.map (·.2), iL D⟩ else none := hpar
  generalize hXX : (⟨l.map (·.2), iL D⟩ : Ix) = XX at *
  have hsg : XX.segs = l.map (·.2) := by rw [← hXX]
  have hdd : XX.dead = iL D := by rw [← hXX]
  refine Ya (Tryz.call65 _ _) (zqT (w := w8) (x := XX) X8 (by rw [hsg]; exact hris) (fun s hs => by rw [hsg] at hs; have := hsm s hs; exact ⟨this.1, OM⟩) (by rw [hsg]; omega) (by rw [hdd, hil]; omega) (by rw [hsg, hlm]; omega)) ?_
  rintro e w9 ⟨rfl, k9⟩
  have X9 := X8.keep k9
  have K9 := K8.trans0 k9
  refine RT ?_
  by_cases hdone : st2 = some []
  rotate_left
  ·rw [decide_eq_false hdone]
   rw [if_neg hdone] at hpx
   have hno : zbA u = none := by rw [hrd, hpx]
   refine KGO ?_
   rw [hno]
   exact ⟨rfl, K9⟩
  rw [decide_eq_true hdone]
  rw [if_pos hdone] at hpx
  rw [hpx] at hrd
  dsimp only at hrd
  cases hva : zaS XX with
  | false =>
   have hno : zbA u = none := by rw [hrd, hva]; rfl
   refine KGO ?_
   rw [hno]
   exact ⟨rfl, K9⟩
  | true =>
  have hsb : SerB XX := ⟨fun s hs => by rw [hsg] at hs; have := hsm s hs; exact ⟨this.1, OM⟩, by rw [hsg, hlm]; omega, by rw [hdd, hil]; omega, fun d hd => by
   rw [hdd] at hd
   obtain ⟨n, hn, rfl⟩ := yay.1 hd
   have := hn63 n hn
   omega, by rw [← hXX]; exact yaw (znG (c := u.length) OM OM hn63 OM) OM⟩
  refine KGO ?_
  refine Ya (Tryz.call15 _ _) (zlV (w := w9) (x := XX) X9 hsb (fun s hs => by rw [hsg] at hs; have := (hsm s hs).2; omega) (by rw [hdd, hil]; omega)) ?_
  rintro e w10 ⟨rfl, k10⟩
  have X10 := X9.keep k10
  have K10 := K9.trans0 k10
  refine RT ?_
  by_cases heq : serX XX = u
  rotate_left
  ·have hno : zbA u = none := by rw [hrd]; exact if_neg fun h => heq h.2
   refine KGO ?_
   refine Br.dec_no (fun h => heq (zbB.1 h)) ?_
   refine GW ?_
   refine KGO ?_
   rw [hno]
   exact ⟨rfl, K10⟩
  have hyes : zbA u = some XX := by rw [hrd]; exact if_pos ⟨hva, heq⟩
  rw [heq]
  refine KGO ?_
  rw [hyes]
  exact ⟨⟨b5, ⟨sa, l.length, sc⟩, ⟨aD, D.length, cD⟩, l, rfl, X10⟩, K10⟩
end
section
variable {w : World}
theorem zmJ (t : List UInt8) (hE : CEnv w) : Calls Tryz.prog 3 #[.string (str t)] w fun e w' => e = .returned (.bool true) ∧ Kp w w' n_ := by
 have hz : (str t).size = t.length := rfl
 refine zaa (args := [.string (str t)]) Tryz.func3 rfl NL ?_; refine GW ?_
 refine KGO ?_
 refine Ya (Tryz.call11 _ _) (zmL (w := w) hE) ?_
 rintro e w1 ⟨rfl, k1⟩
 refine RT ?_
 by_cases hl : 2000 < t.length
 ·refine KGO ?_
  exact ⟨rfl, k1⟩
 refine KGO ?_
 refine Ya (Tryz.call12 _ _) (zpf (w := w1) t OM (hE.keep k1)) ?_
 rintro e w2 ⟨hx, k2⟩
 have K2 := k1.trans0 k2
 have hcall := zsR (w := w2) t OM
 cases hr : zbA t with
 | none =>
  rw [hr] at hx hcall
  obtain rfl := hx
  refine RT ?_
  refine KGO ?_
  refine Ya (Tryz.call13 _ _) hcall ?_
  rintro e w3 ⟨rfl, k3⟩
  refine RT ?_
  refine KGO ?_
  exact ⟨rfl, K2.trans0 k3⟩
 | some x =>
  rw [hr] at hx hcall
  obtain ⟨b, sv, dv, l, rfl, hb, X2⟩ := hx
  refine RT ?_
  refine KGO ?_
  refine Ya (Tryz.call13 _ _) hcall ?_
  rintro e w3 ⟨⟨b', sv', dv', l', rfl, Y3⟩, k3⟩
  have X3 := X2.keep0 k3
  have K3 := K2.trans0 k3
  obtain ⟨hok, hser⟩ := (zgZ OM).1 hr
  have hsl : (serX x).length = t.length := by rw [hser]
  have hw : (numE x.segs.length).length + ((x.segs.flatMap segE).length + (numsE (toN x.dead)).length) ≤ 2000 := by
   unfold serX at hsl
   rw [yaa, yaa] at hsl
   omega
  have hsn := zdT segE (fun s => zia s) x.segs
  have hsm : ∀ s ∈ x.segs, SmS s ∧ s.docs.length ≤ 2000 := fun s hs => by
   have h1 := zbU segE x.segs s hs
   have h2 : (segE s).length = (numE (serS s).length).length + (serS s).length := yaa
   have h3 := zhm (hok.rt s hs)
   exact ⟨(zno (hok.rt s hs) OM).1, OM⟩
  have hdn : x.dead.length ≤ 2000 := by
   have h1 := zcO (toN x.dead)
   have h2 : (toN x.dead).length = x.dead.length := by unfold toN; exact List.length_map _
   have h3 : (numsE (toN x.dead)).length = (numE (toN x.dead).length).length + ((toN x.dead).flatMap numE).length := by unfold numsE; exact List.length_append
   omega
  have hsb : SerB x := ⟨fun s hs => ⟨(hsm s hs).1, by have := (hsm s hs).2; omega⟩, OM, OM, fun d hd => by have := zeX hok d hd; omega, OM⟩
  refine RT ?_
  refine KGO ?_
  refine Ya (Tryz.call14 _ _) (zhC (w := w3) (x := x) X3.v (own_rowO X3.dd) X3.eq hsb (hE.keep K3)) ?_
  rintro e w4 ⟨rfl, k4⟩
  have K4 := K3.trans0 k4
  have Y4 := Y3.keep k4
  rw [hser]
  refine RT ?_
  refine KGO ?_
  refine Ya (Tryz.call15 _ _) (zlV (w := w4) (x := x) Y4 hsb (fun s hs => by have := (hsm s hs).2; omega) OM) ?_
  rintro e w5 ⟨rfl, k5⟩
  have K5 := K4.trans0 k5
  rw [hser]
  refine RT ?_
  refine KGO ?_
  exact ⟨ret_bool (decide_eq_true rfl), K5⟩
end
end Go.Proofs.YtennokckmjcefaaGreatDoor
namespace Go.Proofs.YtennokckmjcefaaGreatDoor
open Go.Shelf Go.RowKit Go.Pw Go.Vc Go.Cs Go.Lib
theorem zlc {P : Program} {w : World} {name : String} {g : Nat} {tS tE : TypeId} {fs : Array Field} {k : IntKind} {zs : List (List Int)} {rest : List (DataW Unit)}
  (h : VarReads P w name (.slice (zs.map fun r => .agg (r.map fun z => .lit (.int k z))) rest)) (hn : P.globalNamed name = some g) (hy : (P.globals[g]?).map (·.type) = some tS)
  (hS : P.underlying tS = some (.slice tE)) (hE : P.underlying tE = some (.struct fs)) (hf : ∀ (i : Nat) (f : Field), fs[i]? = some f → P.underlying f.type = some (.int k) ∧ f.offset = i ∧ P.cellsOf f.type = 1)
  (hc : P.cellsOf tE = fs.size) (h0 : 0 < fs.size) (hz : 0 < zs.length) : ∃ b o c, w.cell? ⟨g, 0, none⟩ = some (.slice (some ⟨b, o, none⟩) zs.length c) ∧ ∀ i, i < zs.length → At w b (o + i * fs.size) ((zs.getD i []).map fun z => Value.int k z) := by
 obtain ⟨g', t, cs, fuel, p, hg, hty, hvar, hd⟩ := h
 obtain rfl := Option.some.inj (hn.symm.trans hg)
 obtain rfl := Option.some.inj (hy.symm.trans hty)
 rcases DataW.trod_slice hS hd with ⟨_, hx⟩ | ⟨a, len, cap, el, rs, m, rfl, hcs, hx, _, hlc, _, hel, helem, hsp, _⟩
 ·cases hx
 have hx1 := congrArg Prod.fst hx
 simp only [DataW.slice.injEq] at hx1
 obtain ⟨eE, eR⟩ := hx1
 have hlen : len = zs.length := by
  have := congrArg List.length eE
  simp at this
  omega
 subst hlen
 have hrange : ∀ i (hi : i < zs.length) j v, (zs[i].map fun z => Value.int k z)[j]? = some v → w.cell? ((a.add (i * fs.size)).add j) = some v := by
  intro i hi j v hv
  have h1 := helem i hi
  rw [hc] at h1
  obtain ⟨b, hb⟩ : ∃ b, el[i]? = some b := ⟨el[i]'OM, List.getElem?_eq_getElem OM⟩
  rw [hb] at h1
  obtain ⟨ce, hce, hte⟩ := Option.bind_eq_some_iff.1 h1
  have hb1 : b.1 = .agg (zs[i].map fun z => .lit (.int k z)) := by
   have := congrArg (·[i]?) eE
   simpa [hb, hi] using this.symm
  have hcs := ints_of_struct (p := b.2) hE hf hc (by rw [← hb1]; exact hte)
  obtain ⟨_, hl, hcc⟩ := World.cells?_some hce
  have hj : j < fs.size := by
   have := (List.getElem?_eq_some_iff.1 hv).1
   rw [← hcs, hl] at this
   exact this
  rw [hcc j hj, hcs, hv]
 obtain ⟨R, oR, sR⟩ := a
 obtain rfl : sR = none := by
  have hl0 : 0 < (zs[0].map fun z => Value.int k z).length := by
   have h1 := helem 0 hz
   rw [hc] at h1
   obtain ⟨b, hb⟩ : ∃ b, el[0]? = some b := ⟨el[0]'OM, List.getElem?_eq_getElem OM⟩
   rw [hb] at h1
   obtain ⟨ce, hce, hte⟩ := Option.bind_eq_some_iff.1 h1
   have hb1 : b.1 = .agg (zs[0].map fun z => .lit (.int k z)) := by
    have := congrArg (·[0]?) eE
    simpa [hb, hz] using this.symm
   have hcs := ints_of_struct (p := b.2) hE hf hc (by rw [← hb1]; exact hte)
   obtain ⟨_, hl, _⟩ := World.cells?_some hce
   rw [← hcs, hl]; exact h0
  have h00 := hrange 0 hz 0 _ (List.getElem?_eq_getElem hl0)
  have : (Addr.add (Addr.add ⟨R, oR, sR⟩ (0 * fs.size)) 0) = ⟨R, oR, sR⟩ := by simp [Addr.add]
  rw [this] at h00
  exact cell_spot h00
 refine ⟨R, oR, cap, ?_, fun i hi j v hj => ?_⟩
 ·rw [World.var?_cell hg hvar 0, ← Array.getElem?_toList, hcs]
  rfl
 rw [List.getD_eq_getElem?_getD, List.getElem?_eq_getElem hi, Option.getD_some] at hj
 have := hrange i hi j v hj
 rw [Addr.add_lit, Addr.add_lit] at this
 exact this
def foldZ : List (List Int) := foldT.map fun x => [x.1, x.2.1, x.2.2.1, x.2.2.2]
theorem znN : (Rows.laid_pouch_fold_spans : DataW Unit) = .slice (foldZ.map fun r => .agg (r.map fun z => .lit (.int .i32 z))) [] := by kernel_rfl
theorem zmI {W : World} (h : VarReads Tryz.prog W "pouch/fold.spans" Rows.laid_pouch_fold_spans) : zcv W := by
 rw [znN] at h
 obtain ⟨b, o, c, h1, h2⟩ := zlc h (by kernel_rfl) (by kernel_rfl) Tryz.underlying254 Tryz.underlying256 (fun j f hj => by
   match j, hj with
   | 0, hj => simp at hj; subst hj; exact ⟨Tryz.underlying21, rfl, by kernel_rfl⟩
   | 1, hj => simp at hj; subst hj; exact ⟨Tryz.underlying21, rfl, by kernel_rfl⟩
   | 2, hj => simp at hj; subst hj; exact ⟨Tryz.underlying21, rfl, by kernel_rfl⟩
   | 3, hj => simp at hj; subst hj; exact ⟨Tryz.underlying21, rfl, by kernel_rfl⟩
   | j + 4, hj => simp at hj) (by kernel_rfl) (by decide) (by decide)
 refine ⟨b, o, c, h1, fun i hi => ?_⟩
 have := h2 i hi
 have e : (foldZ.getD i []).map (fun z => Value.int .i32 z) = spF (foldSp i) := by
  have : ∀ i : Fin 17, (foldZ.getD i.val []) = [(foldSp i.val).1, (foldSp i.val).2.1, (foldSp i.val).2.2.1, (foldSp i.val).2.2.2] := by decide
  have := this ⟨i, hi⟩
  rw [show foldZ.getD i [] = _ from this]; rfl
 rw [e] at this
 exact this
def cutZ : List (List Int) := cutT.map fun x => [x.1, x.2.1, x.2.2]
theorem zqp : (Rows.laid_pouch_cut_spans : DataW Unit) = .slice (cutZ.map fun r => .agg (r.map fun z => .lit (.int .i64 z))) [] := by kernel_rfl
theorem znr {W : World} (h : VarReads Tryz.prog W "pouch/cut.spans" Rows.laid_pouch_cut_spans) : zeV W := by
 rw [zqp] at h
 obtain ⟨b, o, c, h1, h2⟩ := zlc h (by kernel_rfl) (by kernel_rfl) Tryz.underlying227 Tryz.underlying229 (fun j f hj => by
   match j, hj with
   | 0, hj => simp at hj; subst hj; exact ⟨Tryz.underlying3, rfl, by kernel_rfl⟩
   | 1, hj => simp at hj; subst hj; exact ⟨Tryz.underlying3, rfl, by kernel_rfl⟩
   | 2, hj => simp at hj; subst hj; exact ⟨Tryz.underlying3, rfl, by kernel_rfl⟩
   | j + 3, hj => simp at hj) (by kernel_rfl) (by decide) (by decide)
 refine ⟨b, o, c, h1, fun i hi => ?_⟩
 have := h2 i hi
 have e : (cutZ.getD i []).map (fun z => Value.int .i64 z) = spV (cutSp i) := by
  have : ∀ i : Fin 19, (cutZ.getD i.val []) = [(cutSp i.val).1, (cutSp i.val).2.1, (cutSp i.val).2.2] := by decide
  have := this ⟨i, hi⟩
  rw [show cutZ.getD i [] = _ from this]; rfl
 rw [e] at this
 exact this
end Go.Proofs.YtennokckmjcefaaGreatDoor
