/- Helper text of this claim: lemmas and contracts that the proved statement rests on; no conditions of its own. -/
import Derived.Test.YtohhkegmbgancaaGreatDoorGAe0
namespace Go.Proofs.YtohhkegmbgancaaGreatDoor
set_option maxHeartbeats 16000000
open Go.Shelf Go.RowKit Go.Pw Go.Vc Go.Cs Go.Lib
set_option linter.unusedVariables false
set_option maxRecDepth 100000
theorem zoU {l : List Ml} (p : Ml → Bool) : l.any (fun x => !p x) = !l.all p := by
 induction l with
 | nil => rfl
 | cons a r ih => rw [List.any_cons, List.all_cons, ih]; cases p a <;> rfl
def KeyM (m : GM (List UInt8)) (ks : List (List UInt8)) : Prop := ∀ k, m.get k = if k ∈ ks then some (.bool true) else none
theorem KeyM.put {m : GM (List UInt8)} {ks : List (List UInt8)} (h : KeyM m ks) (k : List UInt8) : KeyM (m.put k (.bool true)) (ks ++ [k]) := fun k' => by
 rw [GM.get_put, h k']
 by_cases e : k' = k
 ·subst e; simp
 ·simp [e]
section
variable {w : World}
theorem zmx {h : Hd} {A : Acc} (hr : AccR w h A) (hf : Fit A) (hE : BEnv w) : Calls Tryz.prog 24 #[.agg (accC h A).toArray] w fun e w' => e = .returned (.bool (rightA A)) ∧ Kp w w' n_ := by
 have f1 := hf.bl
 have f2 := hf.bs
 have f3 := hf.ml
 have f4 := hf.mb
 have f5 := hf.mf
 have f6 := hf.sl
 have f7 := hf.ss
 have f8 := hf.nl
 have f9 := hf.nm
 have f10 := hf.nb
 clear hf
 have nB : h.B.n = A.boxes.length := RowO.len hr.b
 have nS : h.S.n = A.scripts.length := RowO.len hr.s
 have nN : h.N.n = A.seen.length := RowO.len hr.n
 obtain ⟨lx, hml, rM, hmo⟩ := hr.m
 have hlx : lx.length = A.mails.length := by rw [← hml, List.length_map]
 have nM : h.M.n = lx.length := RowO.len rM
 have rB : RowB w (.slice h.B.a A.boxes.length h.B.c) A.boxes := by rw [← nB]; exact hr.b
 have rS : RowS w (.slice h.S.a A.scripts.length h.S.c) A.scripts := by rw [← nS]; exact hr.s
 have rN : RowN w (.slice h.N.a A.seen.length h.N.c) A.seen := by rw [← nN]; exact hr.n
 have rM : RowMr w (.slice h.M.a lx.length h.M.c) lx := by rw [← nM]; exact rM
 refine zaa (args := [.agg (accC h A).toArray]) Tryz.func24 rfl NL ?_; refine GW ?_
 obtain ⟨a_b1, v_b1, k_w1, z_w1, r_w1⟩ := new5 w 36 (accC h A)
 generalize w.alloc (.cells (List.toArray (accC h A)) 36) = w1 at *
 generalize hs_b1 : w.heap.size = b1 at *
 have aa : At w1 b1 0 [.slice h.B.a A.boxes.length h.B.c, .slice h.M.a lx.length h.M.c, .slice h.S.a A.scripts.length h.S.c, .string (str A.active), .slice h.N.a A.seen.length h.N.c, .int .i64 A.nm, .int .i64 A.nb, .int .i64 A.st] := by
  rw [← nB, ← nM, ← nS, ← nN]; exact a_b1
 clear a_b1
 have hbad : headB A = false → rightA A = false := fun e => by unfold rightA; rw [e]; rfl
 refine KGO ?_
 refine CallS.of (Tryz.call38 _ _) (ac_in (w := w1) A.nm 1 1099511627776) ?_
 rintro e w1' ⟨rfl, rfl⟩
 refine RT ?_
 by_cases c1 : inR A.nm 1 1099511627776 = true
 rotate_left
 ·have c1 : inR A.nm 1 1099511627776 = false := by simpa using c1
  rw [c1]
  refine KGO ?_
  exact ⟨zad (hbad (by unfold headB; rw [c1]; rfl)).symm, k_w1⟩
 rw [c1]
 refine KGO ?_
 refine CallS.of (Tryz.call38 _ _) (ac_in (w := w1) A.nb 1 1099511627776) ?_
 rintro e w1' ⟨rfl, rfl⟩
 refine RT ?_
 by_cases c2 : inR A.nb 1 1099511627776 = true
 rotate_left
 ·have c2 : inR A.nb 1 1099511627776 = false := by simpa using c2
  rw [c2]
  refine KGO ?_
  exact ⟨zad (hbad (by unfold headB; rw [c2]; simp)).symm, k_w1⟩
 rw [c2]
 refine KGO ?_
 refine CallS.of (Tryz.call38 _ _) (ac_in (w := w1) A.st 0 1099511627776) ?_
 rintro e w1' ⟨rfl, rfl⟩
 refine RT ?_
 by_cases c3 : inR A.st 0 1099511627776 = true
 rotate_left
 ·have c3 : inR A.st 0 1099511627776 = false := by simpa using c3
  rw [c3]
  refine KGO ?_
  exact ⟨zad (hbad (by unfold headB; rw [c3]; simp)).symm, k_w1⟩
 rw [c3]
 refine KGO ?_
 refine CallS.of (Tryz.call44 _ _) (zdJ (w := w1) A.boxes (rB.keep k_w1) f1 f2 (hE.keep k_w1).F (hE.keep k_w1).T (hE.keep k_w1).R) ?_
 rintro e w2 ⟨rfl, k2⟩
 have K2 := k_w1.trans0 k2
 have aa := zac aa k2
 have kr2 := Kp.refl w2 n_
 refine RT ?_
 by_cases c4 : rightL A.boxes = true
 rotate_left
 ·have c4 : rightL A.boxes = false := by simpa using c4
  rw [c4]
  refine KGO ?_
  exact ⟨zad (hbad (by unfold headB; rw [c4]; simp)).symm, K2⟩
 rw [c4]
 by_cases c5 : A.mails.length ≤ 4096
 rotate_left
 ·have c5' : 4096 < lx.length := by omega
  refine KGO ?_
  exact ⟨zad (hbad (by unfold headB; rw [decide_eq_false c5]; simp)).symm, K2⟩
 by_cases c6 : A.scripts.length ≤ 16
 rotate_left
 ·have c5' : ¬ 4096 < lx.length := by omega
  refine KGO ?_
  exact ⟨zad (hbad (by unfold headB; rw [decide_eq_false c6]; simp)).symm, K2⟩
 by_cases c7 : A.seen.length ≤ 256
 rotate_left
 ·have c5' : ¬ 4096 < lx.length := by omega
  refine KGO ?_
  exact ⟨zad (hbad (by unfold headB; rw [decide_eq_false c7]; simp)).symm, K2⟩
 have hgood : headB A = true := by unfold headB; rw [c1, c2, c3, c4, decide_eq_true c5, decide_eq_true c6, decide_eq_true c7]; rfl
 have c5' : ¬ 4096 < lx.length := by omega
 have hbad : Cs.lastB A = false → rightA A = false := fun e => by unfold rightA; rw [e]; simp
 have hlast : ∀ q0 : 0 < A.boxes.length, Cs.lastB A = decide ((A.boxes[((A.boxes.length : Nat) - 1 : Int).toNat]'(by omega)).id < A.nb) := fun q0 => by
  have hl : A.boxes.getLast? = some (A.boxes[((A.boxes.length : Nat) - 1 : Int).toNat]'(by omega)) := by
   rw [List.getLast?_eq_getElem?, show A.boxes.length - 1 = ((A.boxes.length : Nat) - 1 : Int).toNat by omega, List.getElem?_eq_getElem (by omega)]
  unfold Cs.lastB
  rw [hl]
 have K3 := K2.drew
 have aa3 : At w2.drew b1 0 [.slice h.B.a A.boxes.length h.B.c, .slice h.M.a lx.length h.M.c, .slice h.S.a A.scripts.length h.S.c, .string (str A.active), .slice h.N.a A.seen.length h.N.c, .int .i64 A.nm, .int .i64 A.nb, .int .i64 A.st] := aa
 have hacc : ∀ u, At u b1 0 [.slice h.B.a A.boxes.length h.B.c, .slice h.M.a lx.length h.M.c, .slice h.S.a A.scripts.length h.S.c, .string (str A.active), .slice h.N.a A.seen.length h.N.c, .int .i64 A.nm, .int .i64 A.nb, .int .i64 A.st] → At u b1 0 (accC h A) := fun u hu => by unfold accC; rw [nB, nM, nS, nN]; exact hu
 have hmm : ∀ x ∈ lx, x.m ∈ A.mails := fun x hx => by rw [← hml]; exact List.mem_map_of_mem hx
 have hany : (lx.any fun x => !fitM A x.m) = !A.mails.all (fitM A) := by
  rw [← zoU, ← hml, List.any_map]; rfl
 have hemp : decide (str A.active = (⟨#[]⟩ : ByteArray)) = decide (A.active = []) := decide_eq_decide.2 (zbm (b := []))
 by_cases q0 : 0 < A.boxes.length
 ·have hl := hlast q0
  obtain ⟨aB, cB, eB, hB⟩ := rB
  obtain ⟨gB, oB, rfl, hgB, atB⟩ := hB q0
  injection eB with eB _ _
  rw [eB] at aa
  have atB := zac atB K2
  by_cases c8 : (A.boxes[((A.boxes.length : Nat) - 1 : Int).toNat]'(by omega)).id < A.nb
  ·have hgl : Cs.lastB A = true := by rw [hl]; exact decide_eq_true c8
   refine KGO ?_
   clear aa hbad
   have kr3 : Kp w2.drew w2.drew n_ := Kp.refl _ _
   generalize w2.drew = w3 at *
   refine CallS.of (Tryz.call54 _ _) (rs_Ml (w := w3) lx 55 (fun x y => idB x.m y.m) (rM.keep K3) (by omega) Tryz.call55 (fun x y w' => zgY x y)) ?_
   rintro e w4 ⟨rfl, k4⟩
   have K4 := K3.trans0 k4
   have aa4 := zac aa3 k4
   have kr4 := Kp.refl w4 n_
   refine RT ?_
   rw [zge idB (·.m) lx, hml]
   by_cases c8 : risesB idB A.mails = true
   rotate_left
   ·have c8 : risesB idB A.mails = false := by simpa using c8
    rw [c8]
    refine KGO ?_
    exact ⟨zad (by unfold rightA; rw [c8]; simp), K4⟩
   rw [c8]
   refine KGO ?_
   refine CallS.of (Tryz.call56 _ _) (znG (w := w4) A.scripts 57 nameB (rS.keep K4) (by omega) Tryz.call57 (fun x y w' => zgW x y)) ?_
   rintro e w5 ⟨rfl, k5⟩
   have K5 := K4.trans0 k5
   have aa5 := zac aa4 k5
   have kr5 := Kp.refl w5 n_
   refine RT ?_
   by_cases c9 : risesB nameB A.scripts = true
   rotate_left
   ·have c9 : risesB nameB A.scripts = false := by simpa using c9
    rw [c9]
    refine KGO ?_
    exact ⟨zad (by unfold rightA; rw [c9]; simp), K5⟩
   rw [c9]
   refine KGO ?_
   conv => arg 3; simp [ev, upd]
   refine CallS.of (Tryz.call58 _ _) (zkV (w := w5) lx 59 (.pointer (some ⟨b1, 0, none⟩)) (fun x => !fitM A x.m) (rM.keep K5) (by omega) Tryz.call59 (fun x hx w' k => zhB x (hacc w' (zac aa5 k)) (hr.b.keep (K5.trans0 k)) (by omega) ((hmo x hx).keep (K5.trans0 k)) (by have := (f4 x.m (hmm x hx)).1; omega) (by have := (f4 x.m (hmm x hx)).2; omega) (f5 x.m (hmm x hx)) f9)) ?_
   rintro e w6 ⟨rfl, k6⟩
   have K6 := K5.trans0 k6
   have aa6 := zac aa5 k6
   have kr6 := Kp.refl w6 n_
   refine RT ?_
   rw [hany]
   by_cases c10 : A.mails.all (fitM A) = true
   rotate_left
   ·have c10 : A.mails.all (fitM A) = false := by simpa using c10
    rw [c10]
    refine KGO ?_
    exact ⟨zad (by unfold rightA; rw [c10]; simp), K6⟩
   rw [c10]
   refine KGO ?_
   rw [hemp]
   refine Loop.intro (ι := Nat) (fun i => [(1, .pointer (some ⟨b1, 0, none⟩)), (4, .bool (decide (A.active = []) || hasS (A.scripts.take i) A.active)), (85, .slice h.S.a A.scripts.length h.S.c), (86, .int .i64 (A.scripts.length : Nat)), (87, .int .i64 (i : Nat))])
    (fun i wr => Kp w6 wr n_ ∧ i ≤ A.scripts.length ∧ (A.scripts.take i).all srcB = true) (fun i => A.scripts.length - i) 0 ⟨rfl, zfC (by simp [hasS]), rfl, rfl, rfl, trivial⟩ ⟨Kp.refl _ _, Nat.zero_le _, rfl⟩ ?_
   rintro i gg wr ⟨hK, hi, hall⟩
   have K7 := K6.trans0 hK
   have aa7 := zac aa6 hK
   have kr7 := Kp.refl wr n_
   refine GW ?_
   by_cases hlt : i < A.scripts.length
   ·obtain ⟨aS, cS, eS, hS⟩ := rS
    obtain ⟨gS, oS, rfl, hgS, atS⟩ := hS (by omega)
    injection eS with eS _ _
    have atS := zac atS K7
    have hsz := f7 A.scripts[i] (List.getElem_mem hlt)
    have htk := List.take_succ_eq_append_getElem hlt
    have hall' : (A.scripts.take (i + 1)).all srcB = srcB A.scripts[i] := by rw [htk, List.all_append, hall]; simp
    have hhas : hasS (A.scripts.take (i + 1)) A.active = (hasS (A.scripts.take i) A.active || decide (A.scripts[i].name = A.active)) := by
     unfold hasS
     rw [htk, List.any_append]; simp
    have hno : srcB A.scripts[i] = false → rightA A = false := fun e => by
     unfold rightA
     rw [show A.scripts.all srcB = false from List.all_eq_false.2 ⟨_, List.getElem_mem hlt, by rw [e]; simp⟩]
     simp
    rw [eS]
    refine KGO ?_
    generalize A.scripts[i] = s at *
    have hz : (str s.text).size = s.text.length := zav s.text
    refine Store.fresh (vs := srcC s) (by rfl) rfl (zan (by rfl)) ?_
    obtain ⟨a_b6, k_w8, z_w8⟩ := new3 wr 76 (srcC s)
    generalize wr.alloc (.cells (List.toArray (srcC s)) 76) = w8 at *
    generalize hs_b6 : wr.heap.size = b6 at *
    have K8 := K7.trans0 k_w8
    have aa8 := zac aa7 k_w8
    have kr8 := Kp.refl w8 n_
    refine KGO ?_
    refine CallS.of (Tryz.call61 _ _) (zgI (w := w8) s.name (by omega)) ?_
    rintro e w8' ⟨rfl, rfl⟩
    refine RT ?_
    by_cases d1 : scB s.name = true
    rotate_left
    ·have d1 : scB s.name = false := by simpa using d1
     rw [d1]
     refine KGO ?_
     exact ⟨zad (hno (by unfold srcB; rw [d1]; rfl)).symm, K8⟩
    rw [d1]
    by_cases d2 : s.text.length ≤ 32768
    rotate_left
    ·refine KGO ?_
     exact ⟨zad (hno (by unfold srcB; rw [decide_eq_false d2]; simp)).symm, K8⟩
    have d3 : srcB s = true := by unfold srcB; rw [d1, decide_eq_true d2]; rfl
    have hcm : decide (str s.name = str A.active) = decide (s.name = A.active) := decide_eq_decide.2 zbm
    by_cases d4 : (decide (A.active = []) || hasS (A.scripts.take i) A.active) = true
    ·rw [d4]
     refine KGO ?_
     exact ⟨i + 1, ⟨rfl, zfC (by rw [hhas, ← Bool.or_assoc, d4]; rfl), rfl, rfl, v_int (by simp), trivial⟩, ⟨hK.trans0 k_w8, by omega, by rw [hall']; exact d3⟩, by dsimp only; omega⟩
    ·have d4 : (decide (A.active = []) || hasS (A.scripts.take i) A.active) = false := by simpa using d4
     rw [d4]
     refine KGO ?_
     exact ⟨i + 1, ⟨rfl, zfC (by rw [hhas, ← Bool.or_assoc, d4, hcm]; rfl), rfl, rfl, v_int (by simp), trivial⟩, ⟨hK.trans0 k_w8, by omega, by rw [hall']; exact d3⟩, by dsimp only; omega⟩
   rw [List.take_of_length_le (by omega)] at hall ⊢
   have z6 := hK.size
   refine KGO ?_
   clear hi hlt
   refine RunV.makeMap rfl ?_
   have m1 : GMap encS (wr.alloc (.map #[] 0)) wr.heap.size ([] : GM (List UInt8)) := GMap.new wr
   have k8 : Kp wr (wr.alloc (.map #[] 0)) n_ := (Kp.refl _ _).alloc _
   have z7 := K7.size
   generalize hbm : wr.heap.size = bm at *
   generalize wr.alloc (.map #[] 0) = w8 at *
   have K8 := K7.trans0 k8
   have aa8 := zac aa7 k8
   have kr8 := Kp.refl w8 n_
   refine KGO ?_
   refine Loop.intro (ι := Nat × GM (List UInt8)) (fun p => [(1, .pointer (some ⟨b1, 0, none⟩)), (4, .bool (decide (A.active = []) || hasS A.scripts A.active)), (7, .map (some bm)), (112, .slice h.N.a A.seen.length h.N.c), (113, .int .i64 (A.seen.length : Nat)), (114, .int .i64 (p.1 : Nat))])
    (fun p wq => Kp w wq n_ ∧ p.1 ≤ A.seen.length ∧ GMap encS wq bm p.2 ∧ KeyM p.2 ((A.seen.take p.1).map (·.key)) ∧ keysB [] A.seen = keysB ((A.seen.take p.1).map (·.key)) (A.seen.drop p.1)) (fun p => A.seen.length - p.1) (0, []) ⟨rfl, rfl, rfl, rfl, rfl, rfl, trivial⟩ ⟨K8, Nat.zero_le _, m1, fun k => rfl, rfl⟩ ?_
   clear aa8 kr8 k8 K8 m1
   rintro ⟨i, gm⟩ gq wq ⟨K9, hi, hg, hkm, hkb⟩
   dsimp only at hi hg hkm hkb ⊢
   have kr9 := Kp.refl wq n_
   refine GW ?_
   by_cases hlt : i < A.seen.length
   ·obtain ⟨aN, cN, eN, hN⟩ := rN
    obtain ⟨gN, oN, rfl, hgN, atN⟩ := hN (by omega)
    injection eN with eN _ _
    have atN := zac atN K9
    have htk : (A.seen.take (i + 1)).map (·.key) = (A.seen.take i).map (·.key) ++ [A.seen[i].key] := by rw [List.take_succ_eq_append_getElem hlt, List.map_append]; rfl
    rw [List.drop_eq_getElem_cons hlt, keysB] at hkb
    rw [← htk] at hkb
    have hno : keysB [] A.seen = false → rightA A = false := fun e => by unfold rightA; rw [e]; simp
    rw [eN]
    refine KGO ?_
    generalize A.seen[i] = s at *
    have hz : (str s.key).size = s.key.length := zav s.key
    refine Store.fresh (vs := snC s) (by rfl) rfl (zan (by rfl)) ?_
    obtain ⟨a_b9, k_w9, z_w9⟩ := new3 wq 78 (snC s)
    generalize wq.alloc (.cells (List.toArray (snC s)) 78) = w9 at *
    generalize hs_b9 : wq.heap.size = b9 at *
    have hlm := hg.lt
    have hg9 := hg.keep k_w9 fun h => h
    have K10 := K9.trans0 k_w9
    have kr10 := Kp.refl w9 n_
    by_cases e1 : s.key.length ≤ 1000
    rotate_left
    ·refine KGO ?_
     exact ⟨zad (hno (by rw [hkb, decide_eq_false e1]; rfl)).symm, K10⟩
    refine KGO ?_
    refine CallS.of (Tryz.call38 _ _) (ac_in (w := w9) s.at_ 0 1099511627776) ?_
    rintro e w9' ⟨rfl, rfl⟩
    refine RT ?_
    by_cases e2 : inR s.at_ 0 1099511627776 = true
    rotate_left
    ·have e2 : inR s.at_ 0 1099511627776 = false := by simpa using e2
     rw [e2]
     refine KGO ?_
     exact ⟨zad (hno (by rw [hkb, e2]; simp)).symm, K10⟩
    rw [e2]
    refine KGO ?_
    refine RunV.lookG keyStr Tryz.underlying90 (Tryz.zeroValue4 _) hg9 s.key rfl ?_
    rw [hkm s.key]
    by_cases e3 : s.key ∈ (A.seen.take i).map (·.key)
    ·rw [if_pos e3]
     refine KGO ?_
     exact ⟨zad (hno (by rw [hkb, decide_eq_true e3]; simp)).symm, K10⟩
    rw [if_neg e3]
    refine KGO ?_
    refine RunU.updG keyStr Tryz.underlying90 hg9 s.key rfl _ fun w10 g10 k10 => ?_
    refine KGO ?_
    exact ⟨(i + 1, gm.put s.key (.bool true)), ⟨rfl, rfl, rfl, rfl, rfl, v_int (by simp), trivial⟩, ⟨zae K10 k10 (by omega), by dsimp only; omega, g10, by dsimp only; rw [htk]; exact hkm.put s.key, by dsimp only; rw [hkb, decide_eq_true e1, e2, decide_eq_false e3]; rfl⟩, by dsimp only; omega⟩
   have hks : keysB [] A.seen = true := by rw [hkb, List.drop_of_length_le (by omega)]; rfl
   refine KGO ?_
   exact ⟨zad (by unfold rightA; rw [hgood, hgl, c8, c9, c10, hall, hks]; rfl), K9⟩
  ·refine KGO ?_
   exact ⟨zad (hbad (by rw [hl]; exact decide_eq_false c8)).symm, K3⟩
 ·have hgl : Cs.lastB A = true := by
   unfold Cs.lastB
   rw [List.length_eq_zero_iff.1 (by omega : A.boxes.length = 0)]
   rfl
  refine KGO ?_
  clear aa hbad
  have kr3 : Kp w2.drew w2.drew n_ := Kp.refl _ _
  generalize w2.drew = w3 at *
  refine CallS.of (Tryz.call54 _ _) (rs_Ml (w := w3) lx 55 (fun x y => idB x.m y.m) (rM.keep K3) (by omega) Tryz.call55 (fun x y w' => zgY x y)) ?_
  rintro e w4 ⟨rfl, k4⟩
  have K4 := K3.trans0 k4
  have aa4 := zac aa3 k4
  have kr4 := Kp.refl w4 n_
  refine RT ?_
  rw [zge idB (·.m) lx, hml]
  by_cases c8 : risesB idB A.mails = true
  rotate_left
  ·have c8 : risesB idB A.mails = false := by simpa using c8
   rw [c8]
   refine KGO ?_
   exact ⟨zad (by unfold rightA; rw [c8]; simp), K4⟩
  rw [c8]
  refine KGO ?_
  refine CallS.of (Tryz.call56 _ _) (znG (w := w4) A.scripts 57 nameB (rS.keep K4) (by omega) Tryz.call57 (fun x y w' => zgW x y)) ?_
  rintro e w5 ⟨rfl, k5⟩
  have K5 := K4.trans0 k5
  have aa5 := zac aa4 k5
  have kr5 := Kp.refl w5 n_
  refine RT ?_
  by_cases c9 : risesB nameB A.scripts = true
  rotate_left
  ·have c9 : risesB nameB A.scripts = false := by simpa using c9
   rw [c9]
   refine KGO ?_
   exact ⟨zad (by unfold rightA; rw [c9]; simp), K5⟩
  rw [c9]
  refine KGO ?_
  conv => arg 3; simp [ev, upd]
  refine CallS.of (Tryz.call58 _ _) (zkV (w := w5) lx 59 (.pointer (some ⟨b1, 0, none⟩)) (fun x => !fitM A x.m) (rM.keep K5) (by omega) Tryz.call59 (fun x hx w' k => zhB x (hacc w' (zac aa5 k)) (hr.b.keep (K5.trans0 k)) (by omega) ((hmo x hx).keep (K5.trans0 k)) (by have := (f4 x.m (hmm x hx)).1; omega) (by have := (f4 x.m (hmm x hx)).2; omega) (f5 x.m (hmm x hx)) f9)) ?_
  rintro e w6 ⟨rfl, k6⟩
  have K6 := K5.trans0 k6
  have aa6 := zac aa5 k6
  have kr6 := Kp.refl w6 n_
  refine RT ?_
  rw [hany]
  by_cases c10 : A.mails.all (fitM A) = true
  rotate_left
  ·have c10 : A.mails.all (fitM A) = false := by simpa using c10
   rw [c10]
   refine KGO ?_
   exact ⟨zad (by unfold rightA; rw [c10]; simp), K6⟩
  rw [c10]
  refine KGO ?_
  rw [hemp]
  refine Loop.intro (ι := Nat) (fun i => [(1, .pointer (some ⟨b1, 0, none⟩)), (4, .bool (decide (A.active = []) || hasS (A.scripts.take i) A.active)), (85, .slice h.S.a A.scripts.length h.S.c), (86, .int .i64 (A.scripts.length : Nat)), (87, .int .i64 (i : Nat))])
   (fun i wr => Kp w6 wr n_ ∧ i ≤ A.scripts.length ∧ (A.scripts.take i).all srcB = true) (fun i => A.scripts.length - i) 0 ⟨rfl, zfC (by simp [hasS]), rfl, rfl, rfl, trivial⟩ ⟨Kp.refl _ _, Nat.zero_le _, rfl⟩ ?_
  rintro i gg wr ⟨hK, hi, hall⟩
  have K7 := K6.trans0 hK
  have aa7 := zac aa6 hK
  have kr7 := Kp.refl wr n_
  refine GW ?_
  by_cases hlt : i < A.scripts.length
  ·obtain ⟨aS, cS, eS, hS⟩ := rS
   obtain ⟨gS, oS, rfl, hgS, atS⟩ := hS (by omega)
   injection eS with eS _ _
   have atS := zac atS K7
   have hsz := f7 A.scripts[i] (List.getElem_mem hlt)
   have htk := List.take_succ_eq_append_getElem hlt
   have hall' : (A.scripts.take (i + 1)).all srcB = srcB A.scripts[i] := by rw [htk, List.all_append, hall]; simp
   have hhas : hasS (A.scripts.take (i + 1)) A.active = (hasS (A.scripts.take i) A.active || decide (A.scripts[i].name = A.active)) := by
    unfold hasS
    rw [htk, List.any_append]; simp
   have hno : srcB A.scripts[i] = false → rightA A = false := fun e => by
    unfold rightA
    rw [show A.scripts.all srcB = false from List.all_eq_false.2 ⟨_, List.getElem_mem hlt, by rw [e]; simp⟩]
    simp
   rw [eS]
   refine KGO ?_
   generalize A.scripts[i] = s at *
   have hz : (str s.text).size = s.text.length := zav s.text
   refine Store.fresh (vs := srcC s) (by rfl) rfl (zan (by rfl)) ?_
   obtain ⟨a_b6, k_w8, z_w8⟩ := new3 wr 76 (srcC s)
   generalize wr.alloc (.cells (List.toArray (srcC s)) 76) = w8 at *
   generalize hs_b6 : wr.heap.size = b6 at *
   have K8 := K7.trans0 k_w8
   have aa8 := zac aa7 k_w8
   have kr8 := Kp.refl w8 n_
   refine KGO ?_
   refine CallS.of (Tryz.call61 _ _) (zgI (w := w8) s.name (by omega)) ?_
   rintro e w8' ⟨rfl, rfl⟩
   refine RT ?_
   by_cases d1 : scB s.name = true
   rotate_left
   ·have d1 : scB s.name = false := by simpa using d1
    rw [d1]
    refine KGO ?_
    exact ⟨zad (hno (by unfold srcB; rw [d1]; rfl)).symm, K8⟩
   rw [d1]
   by_cases d2 : s.text.length ≤ 32768
   rotate_left
   ·refine KGO ?_
    exact ⟨zad (hno (by unfold srcB; rw [decide_eq_false d2]; simp)).symm, K8⟩
   have d3 : srcB s = true := by unfold srcB; rw [d1, decide_eq_true d2]; rfl
   have hcm : decide (str s.name = str A.active) = decide (s.name = A.active) := decide_eq_decide.2 zbm
   by_cases d4 : (decide (A.active = []) || hasS (A.scripts.take i) A.active) = true
   ·rw [d4]
    refine KGO ?_
    exact ⟨i + 1, ⟨rfl, zfC (by rw [hhas, ← Bool.or_assoc, d4]; rfl), rfl, rfl, v_int (by simp), trivial⟩, ⟨hK.trans0 k_w8, by omega, by rw [hall']; exact d3⟩, by dsimp only; omega⟩
   ·have d4 : (decide (A.active = []) || hasS (A.scripts.take i) A.active) = false := by simpa using d4
    rw [d4]
    refine KGO ?_
    exact ⟨i + 1, ⟨rfl, zfC (by rw [hhas, ← Bool.or_assoc, d4, hcm]; rfl), rfl, rfl, v_int (by simp), trivial⟩, ⟨hK.trans0 k_w8, by omega, by rw [hall']; exact d3⟩, by dsimp only; omega⟩
  rw [List.take_of_length_le (by omega)] at hall ⊢
  have z6 := hK.size
  refine KGO ?_
  clear hi hlt
  refine RunV.makeMap rfl ?_
  have m1 : GMap encS (wr.alloc (.map #[] 0)) wr.heap.size ([] : GM (List UInt8)) := GMap.new wr
  have k8 : Kp wr (wr.alloc (.map #[] 0)) n_ := (Kp.refl _ _).alloc _
  have z7 := K7.size
  generalize hbm : wr.heap.size = bm at *
  generalize wr.alloc (.map #[] 0) = w8 at *
  have K8 := K7.trans0 k8
  have aa8 := zac aa7 k8
  have kr8 := Kp.refl w8 n_
  refine KGO ?_
  refine Loop.intro (ι := Nat × GM (List UInt8)) (fun p => [(1, .pointer (some ⟨b1, 0, none⟩)), (4, .bool (decide (A.active = []) || hasS A.scripts A.active)), (7, .map (some bm)), (112, .slice h.N.a A.seen.length h.N.c), (113, .int .i64 (A.seen.length : Nat)), (114, .int .i64 (p.1 : Nat))])
   (fun p wq => Kp w wq n_ ∧ p.1 ≤ A.seen.length ∧ GMap encS wq bm p.2 ∧ KeyM p.2 ((A.seen.take p.1).map (·.key)) ∧ keysB [] A.seen = keysB ((A.seen.take p.1).map (·.key)) (A.seen.drop p.1)) (fun p => A.seen.length - p.1) (0, []) ⟨rfl, rfl, rfl, rfl, rfl, rfl, trivial⟩ ⟨K8, Nat.zero_le _, m1, fun k => rfl, rfl⟩ ?_
  clear aa8 kr8 k8 K8 m1
  rintro ⟨i, gm⟩ gq wq ⟨K9, hi, hg, hkm, hkb⟩
  dsimp only at hi hg hkm hkb ⊢
  have kr9 := Kp.refl wq n_
  refine GW ?_
  by_cases hlt : i < A.seen.length
  ·obtain ⟨aN, cN, eN, hN⟩ := rN
   obtain ⟨gN, oN, rfl, hgN, atN⟩ := hN (by omega)
   injection eN with eN _ _
   have atN := zac atN K9
   have htk : (A.seen.take (i + 1)).map (·.key) = (A.seen.take i).map (·.key) ++ [A.seen[i].key] := by rw [List.take_succ_eq_append_getElem hlt, List.map_append]; rfl
   rw [List.drop_eq_getElem_cons hlt, keysB] at hkb
   rw [← htk] at hkb
   have hno : keysB [] A.seen = false → rightA A = false := fun e => by unfold rightA; rw [e]; simp
   rw [eN]
   refine KGO ?_
   generalize A.seen[i] = s at *
   have hz : (str s.key).size = s.key.length := zav s.key
   refine Store.fresh (vs := snC s) (by rfl) rfl (zan (by rfl)) ?_
   obtain ⟨a_b9, k_w9, z_w9⟩ := new3 wq 78 (snC s)
   generalize wq.alloc (.cells (List.toArray (snC s)) 78) = w9 at *
   generalize hs_b9 : wq.heap.size = b9 at *
   have hlm := hg.lt
   have hg9 := hg.keep k_w9 fun h => h
   have K10 := K9.trans0 k_w9
   have kr10 := Kp.refl w9 n_
   by_cases e1 : s.key.length ≤ 1000
   rotate_left
   ·refine KGO ?_
    exact ⟨zad (hno (by rw [hkb, decide_eq_false e1]; rfl)).symm, K10⟩
   refine KGO ?_
   refine CallS.of (Tryz.call38 _ _) (ac_in (w := w9) s.at_ 0 1099511627776) ?_
   rintro e w9' ⟨rfl, rfl⟩
   refine RT ?_
   by_cases e2 : inR s.at_ 0 1099511627776 = true
   rotate_left
   ·have e2 : inR s.at_ 0 1099511627776 = false := by simpa using e2
    rw [e2]
    refine KGO ?_
    exact ⟨zad (hno (by rw [hkb, e2]; simp)).symm, K10⟩
   rw [e2]
   refine KGO ?_
   refine RunV.lookG keyStr Tryz.underlying90 (Tryz.zeroValue4 _) hg9 s.key rfl ?_
   rw [hkm s.key]
   by_cases e3 : s.key ∈ (A.seen.take i).map (·.key)
   ·rw [if_pos e3]
    refine KGO ?_
    exact ⟨zad (hno (by rw [hkb, decide_eq_true e3]; simp)).symm, K10⟩
   rw [if_neg e3]
   refine KGO ?_
   refine RunU.updG keyStr Tryz.underlying90 hg9 s.key rfl _ fun w10 g10 k10 => ?_
   refine KGO ?_
   exact ⟨(i + 1, gm.put s.key (.bool true)), ⟨rfl, rfl, rfl, rfl, rfl, v_int (by simp), trivial⟩, ⟨zae K10 k10 (by omega), by dsimp only; omega, g10, by dsimp only; rw [htk]; exact hkm.put s.key, by dsimp only; rw [hkb, decide_eq_true e1, e2, decide_eq_false e3]; rfl⟩, by dsimp only; omega⟩
  have hks : keysB [] A.seen = true := by rw [hkb, List.drop_of_length_le (by omega)]; rfl
  refine KGO ?_
  exact ⟨zad (by unfold rightA; rw [hgood, hgl, c8, c9, c10, hall, hks]; rfl), K9⟩
end
structure Ov where
 b : Sl
 a : Sl
 d : Sl
def opC (v : Ov) (o : Opr) : List Value := [.int .i64 o.kind, .int .i64 o.id, .int .i64 o.box, .int .i64 o.up, .string (str o.name), .string (str o.role), .string (str o.text)] ++ (dgC o.blob ++ [.slice v.b.a v.b.n v.b.c, .slice v.a.a v.a.n v.a.c, .slice v.d.a v.d.n v.d.c, .int .i64 o.at_, .int .i64 o.size, .int .i64 o.if_])
structure OpR (w : World) (v : Ov) (o : Opr) : Prop where
 b : RowI w v.b.v o.boxes
 a : RowT w v.a.v o.add
 d : RowT w v.d.v o.drop
theorem OpR.keep {w w' : World} {v : Ov} {o : Opr} (h : OpR w v o) (k : Kp w w' n_) : OpR w' v o := ⟨h.b.keep k, h.a.keep k, h.d.keep k⟩
structure FitO (o : Opr) : Prop where
 b : o.boxes.length ≤ 17592186043904
 a : o.add.length ≤ 8796093021952
 d : o.drop.length ≤ 8796093021952
 fa : ∀ f ∈ o.add, f.length ≤ 140737488355328
 fd : ∀ f ∈ o.drop, f.length ≤ 140737488355328
 nm : o.name.length ≤ 140737488355328
 rl : o.role.length ≤ 140737488355328
 tx : o.text.length ≤ 140737488355328
structure Drf (w : World) (B b : Nat) (h : Hd) (lx : List Mr) (A : Acc) : Prop where
 v : VarK w b 65 (accC h A)
 o : AccO w B h lx A
 lt : ∀ k ∈ h.bs ++ lx.flatMap Mr.bs, k < b
 B : B ≤ b
def isA (w : World) : Nat → Prop := fun q => ∃ cs, VarK w q 36 cs ∨ VarK w q 28 cs
def StabA (w : World) (h : Hd) (A : Acc) : Prop := ∀ (w' : World), Kp w w' (isA w) → AccR w' h A
theorem StabA.of {w w2 : World} {h : Hd} {A : Acc} (s : StabA w h A) (k : Kp w w2 (isA w)) : StabA w2 h A := fun w' k2 =>
 s w' ⟨k2.os.trans k.os, k2.tape.trans k.tape, k2.output.trans k.output, Nat.le_trans k.size k2.size, fun q hq hn => (k2.block q (Nat.lt_of_lt_of_le hq k.size) fun ⟨cs, hv⟩ => hn ⟨cs, by
  unfold VarK at hv ⊢
  rw [← k.block q hq hn]; exact hv⟩).trans (k.block q hq hn)⟩
theorem StabA.keep {w w2 : World} {h : Hd} {A : Acc} (s : StabA w h A) (k : Kp w w2 n_) : StabA w2 h A := s.of (k.mono fun q _ hq => hq.elim)
theorem StabA.step {w w2 : World} {b : Nat} {cs : List Value} {h : Hd} {A : Acc} (s : StabA w h A) (hv : VarK w b 36 cs) (k : Kp w w2 (one_ b)) : StabA w2 h A := s.of (k.mono fun q _ hq => by
 have e : q = b := hq
 subst e
 exact ⟨cs, .inl hv⟩)
theorem StabA.read {w : World} {h : Hd} {A : Acc} (s : StabA w h A) : AccR w h A := s w (Kp.refl _ _)
def Done (w' : World) (b : Nat) (e : Ending) : Except Nat (Acc × Int) → Prop
 | .error c => e = .returned (.tuple #[.int .i64 0, .int .i64 (c : Nat)])
 | .ok r => e = .returned (.tuple #[.int .i64 r.2, .int .i64 0]) ∧ ∃ h', VarK w' b 65 (accC h' r.1) ∧ AccR w' h' r.1 ∧ StabA w' h' r.1
theorem zaz {o : Option Nat} {k : Nat} : k ∈ o.toList ↔ o = some k := by cases o <;> simp [eq_comm]
theorem zau {w : World} {B s n b : Nat} {e T : TypeId} {v : Value} {xs cs : List Value} (h : w.ownsRow B e s v n xs) (hv : VarK w b T cs) (hne : e ≠ T) : ∀ q, v.ownBlock = some q → q ≠ b := fun q hq hqb => by
 subst hqb
 rcases h.2 with ⟨rfl, _⟩ | ⟨g, cap, cur, rfl, _, hr, _⟩
 ·cases hq
 ·injection hq with hq
  subst hq
  unfold VarK at hv
  rw [hr] at hv
  injection hv with hv
  injection hv with _ hv
  exact hne hv
structure AccP (w : World) (h : Hd) (lx : List Mr) (A : Acc) : Prop where
 b : OwnB w 0 h.B.v A.boxes
 s : OwnSrc w 0 h.S.v A.scripts
 n : OwnSn w 0 h.N.v A.seen
 m : OwnMl w 0 h.M.v lx
 ml : lx.map (·.m) = A.mails
 mb : ∀ x ∈ lx, OwnI w 0 x.b.v x.m.boxes ∧ OwnT w 0 x.f.v x.m.flags
def Hd.all (h : Hd) (lx : List Mr) : List Nat := h.bs ++ lx.flatMap Mr.bs
theorem Hd.all_b {h : Hd} {lx : List Mr} {k : Nat} (e : h.B.v.ownBlock = some k) : k ∈ h.all lx := List.mem_append_left _ (by unfold Hd.bs; simp [e])
theorem Hd.all_s {h : Hd} {lx : List Mr} {k : Nat} (e : h.S.v.ownBlock = some k) : k ∈ h.all lx := List.mem_append_left _ (by unfold Hd.bs; simp [e])
theorem Hd.all_n {h : Hd} {lx : List Mr} {k : Nat} (e : h.N.v.ownBlock = some k) : k ∈ h.all lx := List.mem_append_left _ (by unfold Hd.bs; simp [e])
theorem Hd.all_m {h : Hd} {lx : List Mr} {k : Nat} (e : h.M.v.ownBlock = some k) : k ∈ h.all lx := List.mem_append_left _ (by unfold Hd.bs; simp [e])
theorem Hd.all_x {h : Hd} {lx : List Mr} {k : Nat} {x : Mr} (hx : x ∈ lx) (e : x.b.v.ownBlock = some k ∨ x.f.v.ownBlock = some k) : k ∈ h.all lx :=
 List.mem_append_right _ (List.mem_flatMap.2 ⟨x, hx, by unfold Mr.bs; rw [List.mem_append, zaz, zaz]; exact e⟩)
theorem AccP.keep {w w' : World} {p : Nat → Prop} {h : Hd} {lx : List Mr} {A : Acc} (o : AccP w h lx A) (k : Kp w w' p) (hp : ∀ q ∈ h.all lx, ¬ p q) : AccP w' h lx A :=
  ⟨zah o.b k fun q hq => hp q (Hd.all_b hq), zah o.s k fun q hq => hp q (Hd.all_s hq), zah o.n k fun q hq => hp q (Hd.all_n hq), zah o.m k fun q hq => hp q (Hd.all_m hq), o.ml,
   fun x hx => ⟨zah (o.mb x hx).1 k fun q hq => hp q (Hd.all_x hx (.inl hq)), zah (o.mb x hx).2 k fun q hq => hp q (Hd.all_x hx (.inr hq))⟩⟩
theorem AccO.p {w : World} {B : Nat} {h : Hd} {lx : List Mr} {A : Acc} (o : AccO w B h lx A) : AccP w h lx A :=
 ⟨zaj o.b (Nat.zero_le _), zaj o.s (Nat.zero_le _), zaj o.n (Nat.zero_le _), zaj o.m (Nat.zero_le _), o.ml, fun x hx => ⟨zaj (o.mb x hx).1 (Nat.zero_le _), zaj (o.mb x hx).2 (Nat.zero_le _)⟩⟩
theorem AccP.read {w : World} {h : Hd} {lx : List Mr} {A : Acc} (o : AccP w h lx A) : AccR w h A :=
 ⟨zat o.b, ⟨lx, o.ml, zat o.m, fun x hx => ⟨zat (o.mb x hx).1, zat (o.mb x hx).2⟩⟩, zat o.s, zat o.n⟩
theorem AccP.stab {w : World} {h : Hd} {lx : List Mr} {A : Acc} (o : AccP w h lx A) : StabA w h A := fun w' k => (o.keep k fun q hq e => by
 obtain ⟨cs, hv⟩ := e
 unfold Hd.all Hd.bs at hq
 simp only [List.mem_append, zaz] at hq
 rcases hq with (((hq | hq) | hq) | hq) | hq
 ·exact hv.elim (fun hv => zau o.b hv (by decide) q hq rfl) (fun hv => zau o.b hv (by decide) q hq rfl)
 ·exact hv.elim (fun hv => zau o.s hv (by decide) q hq rfl) (fun hv => zau o.s hv (by decide) q hq rfl)
 ·exact hv.elim (fun hv => zau o.n hv (by decide) q hq rfl) (fun hv => zau o.n hv (by decide) q hq rfl)
 ·exact hv.elim (fun hv => zau o.m hv (by decide) q hq rfl) (fun hv => zau o.m hv (by decide) q hq rfl)
 ·obtain ⟨x, hx, hq⟩ := List.mem_flatMap.1 hq
  unfold Mr.bs at hq
  rw [List.mem_append, zaz, zaz] at hq
  rcases hq with hq | hq
  ·exact hv.elim (fun hv => zau (o.mb x hx).1 hv (by decide) q hq rfl) (fun hv => zau (o.mb x hx).1 hv (by decide) q hq rfl)
  ·exact hv.elim (fun hv => zau (o.mb x hx).2 hv (by decide) q hq rfl) (fun hv => zau (o.mb x hx).2 hv (by decide) q hq rfl)).read
abbrev from_ (B : Nat) : Nat → Prop := fun k => B ≤ k
theorem zdl (l : List Ml) (id : Int) : findA l id = findL l id := rfl
theorem Drf.keep {w w' : World} {B b : Nat} {h : Hd} {lx : List Mr} {A : Acc} (d : Drf w B b h lx A) (k : Kp w w' n_) : Drf w' B b h lx A := ⟨d.v.keep0 k, d.o.keep k, d.lt, d.B⟩
section
variable {w : World}
theorem ac_of {B b : Nat} {h : Hd} {lx : List Mr} {A : Acc} {v : Ov} {o : Opr} (hd : Drf w B b h lx A) (hl : A.mails.length ≤ 100000) :
  Calls Tryz.prog 75 #[.pointer (some ⟨b, 0, none⟩), .agg (opC v o).toArray] w fun e w' => (match ofA A o with
   | .error c => e = .returned (.tuple #[.pointer none, .int .i64 (c : Nat)])
   | .ok m => ∃ i g, ∃ hi : i < lx.length, e = .returned (.tuple #[.pointer (some ⟨g, 0 + i * 38, none⟩), .int .i64 0]) ∧ h.M.a = some ⟨g, 0, none⟩ ∧ lx[i].m = m ∧ m.id = o.id ∧ ∀ j (hj : j < i), (lx[j]'(by omega)).m.id ≠ o.id) ∧ Kp w w' n_ := by
 have hlx : lx.length = A.mails.length := by rw [← hd.o.ml, List.length_map]
 refine zaa (args := [.pointer (some ⟨b, 0, none⟩), .agg (opC v o).toArray]) Tryz.func75 rfl NL ?_; refine GW ?_
 obtain ⟨a_b1, v_b1, k_w1, z_w1, r_w1⟩ := new5 w 28 (opC v o)
 generalize w.alloc (.cells (List.toArray (opC v o)) 28) = w1 at *
 generalize hs_b1 : w.heap.size = b1 at *
 have hdA := hd.v.at
 refine KGO ?_
 refine CallS.of (Tryz.call40 _ _) (zgO (w := w1.drew) (h := h) (A := A) o.id (hd.o.read.keep k_w1.drew) (by omega)) ?_
 rintro e w2 ⟨rfl, k2⟩
 have J2 : Kp w1 w2 n_ := (Kp.refl w1 n_).drew.trans0 k2
 have K2 := k_w1.trans0 J2
 refine RT ?_
 have o6 := zaf hd.o.m K2
 rcases place_find A.mails o.id with ⟨hp, hf⟩ | ⟨i, hi, hp, hf, hid, hfirst⟩
 ·rw [hp]
  have hof : ofA A o = .error 5 := by unfold ofA; rw [zdl, hf]
  rw [hof]
  refine KGO ?_
  exact ⟨rfl, K2⟩
 ·rw [hp]
  have hi2 : i < lx.length := by omega
  have hml := hd.o.ml
  have hxm : ∀ j (hj : j < lx.length), (lx[j]).m = A.mails[j]'(by omega) := fun j hj => by simp [← hml]
  rcases own_blockK o6 with ⟨h1, h0⟩ | ⟨g, cap, cells, he6, hBg, hv, hnc, hcm, hcl, htk⟩
  ·omega
  have hma : h.M.a = some ⟨g, 0, none⟩ := by injection he6
  have hmn : h.M.n = lx.length := by injection he6
  have hrow : At w2 g 0 (lx.flatMap mrC) := by
   have := zat o6
   obtain ⟨a, c, e1, e2⟩ := this
   obtain ⟨g', o', e3, _, e4⟩ := e2 (by omega)
   injection e1 with e1 _ _
   rw [hma, e3] at e1
   injection e1 with e1
   injection e1 with e1 e5
   subst e1; subst e5
   exact e4
  have hd2 := zac hdA K2
  unfold accC at hd2
  rw [hma, hmn] at hd2
  have kr := Kp.refl w2 n_
  have hmod : lx[i].m.mod = A.mails[i].mod := by rw [hxm]
  have hres : ∀ m, A.mails[i] = m → ∃ i' g', ∃ hi : i' < lx.length, Ending.returned (.tuple #[.pointer (some ⟨g, 0 + i * 38, none⟩), .int .i64 0]) = .returned (.tuple #[.pointer (some ⟨g', 0 + i' * 38, none⟩), .int .i64 0]) ∧ h.M.a = some ⟨g', 0, none⟩ ∧ lx[i'].m = m ∧ m.id = o.id ∧ ∀ j (hj : j < i'), (lx[j]'(by omega)).m.id ≠ o.id := fun m hm =>
   ⟨i, g, hi2, rfl, hma, by rw [hxm]; exact hm, by rw [← hm]; exact hid, fun j hj => by rw [hxm]; exact hfirst j hj⟩
  by_cases h1 : 0 ≤ o.if_
  ·by_cases h2 : o.if_ = lx[i].m.mod
   ·have hof : ofA A o = .ok A.mails[i] := by unfold ofA; rw [zdl, hf]; dsimp only; rw [if_neg (fun h => h.2 (by rw [← hmod]; exact h2))]
    rw [hof]
    refine KGO ?_
    exact ⟨hres _ rfl, K2.drew⟩
   ·have hof : ofA A o = .error 17 := by unfold ofA; rw [zdl, hf]; dsimp only; rw [if_pos ⟨h1, fun e => h2 (by rw [hmod]; exact e)⟩]
    rw [hof]
    refine KGO ?_
    exact ⟨rfl, K2.drew⟩
  ·have hof : ofA A o = .ok A.mails[i] := by unfold ofA; rw [zdl, hf]; dsimp only; rw [if_neg (fun h => h1 h.1)]
   rw [hof]
   refine KGO ?_
   exact ⟨hres _ rfl, K2.drew⟩
end
end Go.Proofs.YtohhkegmbgancaaGreatDoor
