/- Helper text of this claim: lemmas and contracts that the proved statement rests on; no conditions of its own. -/
import Derived.Test.YtohhkegmbgancaaGreatDoorGAt9
namespace Go.Proofs.YtohhkegmbgancaaGreatDoor
set_option maxHeartbeats 8000000
open Go.Shelf Go.RowKit Go.Pw Go.Vc Go.Cs Go.Lib
set_option linter.unusedVariables false
set_option maxRecDepth 100000
def scriptA (A : Acc) (o : Opr) : Except Nat (Acc × Int) := if o.kind = 11 then chooseA A o else if o.kind = 10 then unsetA A o else setA A o
theorem zkS {l : List Sc} {x : Sc} {nm : List UInt8} : hasS (l ++ [x]) nm = (hasS l nm || decide (x.name = nm)) := by
 unfold hasS; rw [List.any_append]; simp
section
variable {w : World}
theorem zeS {h : Hd} {A : Acc} {v : Ov} {o : Opr} (r : RefA w h A) (cp : Caps h) (ha : AscS A.scripts) (hsl : A.scripts.length ≤ 16) (fo : FitO o) :
  Calls Tryz.prog 115 #[.agg (accC h A).toArray, .agg (opC v o).toArray] w (Ends2 w (scriptA A o)) := by
 have fnm := fo.nm
 have ftx := fo.tx
 have hsz := zav o.name
 have hsz2 := zav o.text
 refine zaa (args := [.agg (accC h A).toArray, .agg (opC v o).toArray]) Tryz.func115 rfl NL ?_; refine GW ?_
 obtain ⟨a_b1, v_b1, k_w1, z_w1, r_w1⟩ := new5 w 36 (accC h A)
 generalize w.alloc (.cells (List.toArray (accC h A)) 36) = w1 at *
 generalize hs_b1 : w.heap.size = b1 at *
 obtain ⟨a_b2, v_b2, k_w2, z_w2, r_w2⟩ := new5 w1 28 (opC v o)
 generalize w1.alloc (.cells (List.toArray (opC v o)) 28) = w2 at *
 generalize hs_b2 : w1.heap.size = b2 at *
 obtain ⟨a_b3, v_b3, k_w3, z_w3, r_w3⟩ := new5 w2 36 (zAcc')
 generalize w2.alloc (.cells (List.toArray (zAcc')) 36) = w3 at *
 generalize hs_b3 : w2.heap.size = b3 at *
 have K3 := (k_w1.trans0 k_w2).trans0 k_w3
 have v1 := v_b1.keep0 (k_w2.trans0 k_w3)
 have v2 := v_b2.keep0 k_w3
 have v3 := v_b3
 obtain ⟨lx, hm, hs⟩ := r
 obtain ⟨na, nc, he, hrr⟩ := hs.now.s
 injection he with e1 e2 e3
 have hcl : accC h A = [.slice h.B.a h.B.n h.B.c, .slice h.M.a h.M.n h.M.c, .slice na A.scripts.length nc, .string (str A.active), .slice h.N.a h.N.n h.N.c, .int .i64 A.nm, .int .i64 A.nb, .int .i64 A.st] := by
  unfold accC
  rw [e1, e2, e3]
 have a1 : At w3 b1 0 [.slice h.B.a h.B.n h.B.c, .slice h.M.a h.M.n h.M.c, .slice na A.scripts.length nc, .string (str A.active), .slice h.N.a h.N.n h.N.c, .int .i64 A.nm, .int .i64 A.nb, .int .i64 A.st] := hcl ▸ v1.at
 have a2 := v2.at
 have kr3 := Kp.refl w3 n_
 clear a_b1 a_b2 a_b3
 refine KGO ?_
 refine Loop.intro (ι := Nat × Int × Value) (fun p => [(2, .pointer (some ⟨b1, 0, none⟩)), (3, .pointer (some ⟨b2, 0, none⟩)), (4, .pointer (some ⟨b3, 0, none⟩)), (6, .int .i64 p.2.1), (7, p.2.2), (8, .int .i64 (p.1 : Nat))])
  (fun p wr => Kp w3 wr n_ ∧ p.1 ≤ A.scripts.length ∧ OwnSrc wr w3.heap.size p.2.2 (restS (A.scripts.take p.1) o.name) ∧ (0 ≤ p.2.1 ↔ hasS (A.scripts.take p.1) o.name = true) ∧ (restS (A.scripts.take p.1) o.name = [] → p.2.2 = .slice none 0 0)) (fun p => A.scripts.length - p.1) (0, -1, .slice none 0 0) ⟨rfl, rfl, rfl, rfl, rfl, rfl, trivial⟩ ⟨kr3, Nat.zero_le _, World.ownsRow_nil _ _ _ _, by simp [hasS], fun _ => rfl⟩ ?_
 rintro ⟨i, at_, vl⟩ gg wr ⟨hK, hi, ho, hat_, hnil⟩
 dsimp only at hi ho hat_ hnil ⊢
 obtain ⟨va, vc, rfl⟩ := zab ho
 have hfl : (restS (A.scripts.take i) o.name).length ≤ 16 := Nat.le_trans (List.length_filter_le _ _) (by rw [List.length_take]; omega)
 clear kr3
 have a1r := zac a1 hK
 have a2r := zac a2 hK
 have krr := Kp.refl wr n_
 refine GW ?_
 refine KGO ?_
 by_cases hlt : i < A.scripts.length
 ·obtain ⟨gb, ob, rfl, hgb, hat⟩ := hrr (by omega)
  have hat := zac hat (K3.trans0 hK)
  have hstep : restS (A.scripts.take (i + 1)) o.name = restS (A.scripts.take i) o.name ++ (if A.scripts[i].name = o.name then [] else [A.scripts[i]]) := by
   unfold restS
   rw [List.take_succ_eq_append_getElem hlt, List.filter_append]
   by_cases q : A.scripts[i].name = o.name <;> simp [q]
  have hst2 : hasS (A.scripts.take (i + 1)) o.name = (hasS (A.scripts.take i) o.name || decide (A.scripts[i].name = o.name)) := by
   rw [List.take_succ_eq_append_getElem hlt, zkS]
  have kdr : Kp wr wr.drew n_ := krr.drew
  by_cases hq : A.scripts[i].name = o.name
  ·have hq2 : str A.scripts[i].name = str o.name := by rw [hq]
   rw [if_pos hq, List.append_nil] at hstep
   refine KGO ?_
   exact ⟨(i + 1, (i : Nat), _), ⟨rfl, rfl, rfl, rfl, rfl, v_int (by simp), trivial⟩, ⟨by first | exact hK | exact hK.drew, by dsimp only; omega, by dsimp only; rw [hstep]; exact ho, by dsimp only; rw [hst2, decide_eq_true hq]; simp, fun q => by dsimp only at q; rw [hstep] at q; exact hnil q⟩, by dsimp only; omega⟩
  ·have hq2 : ¬ str A.scripts[i].name = str o.name := fun e => hq (zbm.1 e)
   rw [if_neg hq] at hstep
   rw [decide_eq_false hq, Bool.or_false] at hst2
   refine KGO ?_
   refine RunV.of (zbo A.scripts[i] _) ?_
   generalize A.scripts[i] = x at *
   have k6 : Kp wr (wr.drew.alloc (.cells (srcC x).toArray 76)) n_ := krr.drew.alloc _
   have h6 := zao wr.drew 76 (srcC x)
   generalize wr.drew.alloc (.cells (srcC x).toArray 76) = w6 at *
   generalize wr.drew.heap.size = g6 at *
   have o6 := zaf ho k6
   refine KGO ?_
   refine tySrc.app1 x o6 (hK.trans0 k6).size h6 (by omega) (by omega) fun v7 w7 o7 k7 => ?_
   have K7 : Kp w3 w7 n_ := zaq o6 k7 w3 (hK.trans0 k6) (Nat.le_refl _)
   obtain ⟨a7, c7, rfl⟩ := zab o7
   refine KGO ?_
   exact ⟨(i + 1, at_, _), ⟨rfl, rfl, rfl, rfl, rfl, v_int (by simp), trivial⟩, ⟨K7, by dsimp only; omega, by dsimp only; rw [hstep]; exact o7, by dsimp only; rw [hst2]; exact hat_, fun q => by dsimp only at q; rw [hstep] at q; simp at q⟩, by dsimp only; omega⟩
 rw [List.take_of_length_le (show A.scripts.length ≤ i by omega)] at ho hfl hat_ hnil ⊢
 have hrest := zeD (nm := o.name) ha
 have hput := @zmG A.scripts o.name o.text ha
 have hset := @zny A.scripts o.name o.text ha
 have hdel := @zmO A.scripts o.name ha
 have v1 := v1.keep0 hK
 have v3 := v3.keep0 hK
 have Kr := K3.trans0 hK
 have h1w3 : b1 < w3.heap.size := by have := (k_w2.trans0 k_w3).size; omega
 have a1 := v1.at
 have v2k := a2r
 clear a1r a2
 have stl := zaB ho (by decide) (by decide)
 by_cases k11 : o.kind = 11
 ·have hx : scriptA A o = chooseA A o := by unfold scriptA; rw [if_pos k11]
  rw [hx]
  by_cases hn : o.name = []
  ·have hn2 : str o.name = (⟨#[]⟩ : ByteArray) := by rw [hn]; rfl
   refine KGO ?_
   refine SCK 3 v1 fun w8 v8 k8 => ?_
   have v8 : VarK w8 b1 36 (accC h { A with active := o.name }) := v8
   have v3 := v3.keep k8 (fun e => by have e : b3 = b1 := e; omega)
   have a8 := v8.at
   have kr8 := Kp.refl w8 n_
   refine KGO ?_
   refine SVK (accC h { A with active := o.name }) v3 fun w9 v9 k9 => ?_
   have K9 : Kp w w9 n_ := zae (zae Kr k8 (by omega)) k9 (by omega)
   have hat := v9.at
   refine KGO ?_
   refine GW ?_
   refine KGO ?_
   refine GW ?_
   have s9 := hs.keep K9
   exact ⟨_, _, 0, rfl, ⟨lx, hm, fun u ku => ⟨(s9 u ku).b, (s9 u ku).m, (s9 u ku).x, (s9 u ku).s, (s9 u ku).n⟩⟩, cp, zba (by unfold chooseA; rw [if_neg (fun q => q.2 hn)]), K9⟩
  ·have hn2 : ¬ str o.name = (⟨#[]⟩ : ByteArray) := fun q => hn (by have := congrArg L q; rwa [L_str] at this)
   by_cases hh : hasS A.scripts o.name = true
   ·have hh2 := hat_.2 hh
    refine KGO ?_
    refine SCK 3 v1 fun w8 v8 k8 => ?_
    have v8 : VarK w8 b1 36 (accC h { A with active := o.name }) := v8
    have v3 := v3.keep k8 (fun e => by have e : b3 = b1 := e; omega)
    have a8 := v8.at
    have kr8 := Kp.refl w8 n_
    refine KGO ?_
    refine SVK (accC h { A with active := o.name }) v3 fun w9 v9 k9 => ?_
    have K9 : Kp w w9 n_ := zae (zae Kr k8 (by omega)) k9 (by omega)
    have hat := v9.at
    refine KGO ?_
    refine GW ?_
    refine KGO ?_
    refine GW ?_
    have s9 := hs.keep K9
    exact ⟨_, _, 0, rfl, ⟨lx, hm, fun u ku => ⟨(s9 u ku).b, (s9 u ku).m, (s9 u ku).x, (s9 u ku).s, (s9 u ku).n⟩⟩, cp, zba (by unfold chooseA; rw [if_neg (fun q => by rw [hh] at q; cases q.1)]), K9⟩
   ·have hh2 : ¬ 0 ≤ at_ := fun q => hh (hat_.1 q)
    have hh3 : hasS A.scripts o.name = false := by simpa using hh
    refine KGO ?_
    refine SVK (accC h A) v3 fun w8 v8 k8 => ?_
    have K8' : Kp w w8 n_ := zae Kr k8 (by omega)
    have hat := v8.at
    refine KGO ?_
    refine GW ?_
    refine KGO ?_
    refine GW ?_
    exact ⟨h, A, 5, rfl, RefA.keep ⟨lx, hm, hs⟩ K8', cp, zas (by unfold chooseA; rw [if_pos ⟨hh3, hn⟩]), K8'⟩
 by_cases k10 : o.kind = 10
 ·have hx : scriptA A o = unsetA A o := by unfold scriptA; rw [if_neg k11, if_pos k10]
  rw [hx]
  by_cases hh : hasS A.scripts o.name = true
  rotate_left
  ·have hh2 : ¬ 0 ≤ at_ := fun q => hh (hat_.1 q)
   have hh3 : hasS A.scripts o.name = false := by simpa using hh
   refine KGO ?_
   refine SVK (accC h A) v3 fun w8 v8 k8 => ?_
   have K8' : Kp w w8 n_ := zae Kr k8 (by omega)
   have hat := v8.at
   refine KGO ?_
   refine GW ?_
   refine KGO ?_
   refine GW ?_
   exact ⟨h, A, 5, rfl, RefA.keep ⟨lx, hm, hs⟩ K8', cp, zas (by unfold unsetA; rw [if_pos hh3]), K8'⟩
  have hh2 := hat_.2 hh
  have hh3 : ¬ hasS A.scripts o.name = false := by rw [hh]; simp
  by_cases hac : A.active = o.name
  ·have hac2 : str A.active = str o.name := by rw [hac]
   refine KGO ?_
   refine SVK (accC h A) v3 fun w8 v8 k8 => ?_
   have K8' : Kp w w8 n_ := zae Kr k8 (by omega)
   have hat := v8.at
   refine KGO ?_
   refine GW ?_
   refine KGO ?_
   refine GW ?_
   exact ⟨h, A, 20, rfl, RefA.keep ⟨lx, hm, hs⟩ K8', cp, zas (by unfold unsetA; rw [if_neg hh3, if_pos hac]), K8'⟩
  have hac2 : ¬ str A.active = str o.name := fun e => hac (zbm.1 e)
  have hdel := hdel hh
  refine KGO ?_
  refine SCK 2 v1 fun w8 v8 k8 => ?_
  have v8 : VarK w8 b1 36 (accC ⟨h.B, h.M, ⟨va, (restS A.scripts o.name).length, vc⟩, h.N⟩ { A with scripts := restS A.scripts o.name }) := v8
  have v3 := v3.keep k8 (fun e => by have e : b3 = b1 := e; omega)
  have a8 := v8.at
  have kr8 := Kp.refl w8 n_
  refine KGO ?_
  refine SVK (accC ⟨h.B, h.M, ⟨va, (restS A.scripts o.name).length, vc⟩, h.N⟩ { A with scripts := restS A.scripts o.name }) v3 fun w9 v9 k9 => ?_
  have K9 : Kp w w9 n_ := zae (zae Kr k8 (by omega)) k9 (by omega)
  have hat := v9.at
  refine KGO ?_
  refine GW ?_
  refine KGO ?_
  refine GW ?_
  have s9 := hs.keep K9
  have n9 := (stl.step v1 k8).step v3 k9
  exact ⟨_, _, 0, rfl, ⟨lx, hm, fun u ku => ⟨(s9 u ku).b, (s9 u ku).m, (s9 u ku).x, n9 u ku, (s9 u ku).n⟩⟩, ⟨cp.B, cp.M⟩, zba (by unfold unsetA; rw [if_neg hh3, if_neg hac, hdel]), K9⟩
 have hx : scriptA A o = setA A o := by unfold scriptA; rw [if_neg k11, if_neg k10]
 rw [hx]
 refine KGO ?_
 refine CallS.of (Tryz.call171 _ _) (znf (w := wr) o.name fnm) ?_
 rintro e w4 ⟨rfl, k4⟩
 have K4 := Kr.trans0 k4
 have v1 := v1.keep0 k4
 have v3 := v3.keep0 k4
 refine RT ?_
 by_cases c1 : scB o.name = true
 rotate_left
 ·have c1 : scB o.name = false := by simpa using c1
  rw [c1]
  refine KGO ?_
  refine SVK (accC h A) v3 fun w8 v8 k8 => ?_
  have K8' : Kp w w8 n_ := zae K4 k8 (by omega)
  have hat := v8.at
  refine KGO ?_
  refine GW ?_
  refine KGO ?_
  refine GW ?_
  exact ⟨h, A, 1, rfl, RefA.keep ⟨lx, hm, hs⟩ K8', cp, zas (by unfold setA; rw [if_pos c1]), K8'⟩
 rw [c1]
 have g1 : ¬ scB o.name = false := by rw [c1]; simp
 by_cases c2 : 32768 < o.text.length
 ·skip
  refine KGO ?_
  refine SVK (accC h A) v3 fun w8 v8 k8 => ?_
  have K8' : Kp w w8 n_ := zae K4 k8 (by omega)
  have hat := v8.at
  refine KGO ?_
  refine GW ?_
  refine KGO ?_
  refine GW ?_
  exact ⟨h, A, 16, rfl, RefA.keep ⟨lx, hm, hs⟩ K8', cp, zas (by unfold setA; rw [if_neg g1, if_pos c2]), K8'⟩
 by_cases c3 : hasS A.scripts o.name = false ∧ 16 ≤ A.scripts.length
 ·obtain ⟨c3, c4⟩ := c3
  have hh2 : ¬ 0 ≤ at_ := fun q => by have := hat_.1 q; rw [c3] at this; cases this
  have hpr := hput c3
  have hpl : (restS A.scripts o.name).length = A.scripts.length := by rw [hpr]
  refine KGO ?_
  refine SVK (accC h A) v3 fun w8 v8 k8 => ?_
  have K8' : Kp w w8 n_ := zae K4 k8 (by omega)
  have hat := v8.at
  refine KGO ?_
  refine GW ?_
  refine KGO ?_
  refine GW ?_
  exact ⟨h, A, 3, rfl, RefA.keep ⟨lx, hm, hs⟩ K8', cp, zas (by unfold setA; rw [if_neg g1, if_neg c2, if_neg (by rw [c3]; simp), if_pos c4]), K8'⟩
 have hres : setA A o = .ok ({ A with scripts := (restS A.scripts o.name).take (idxS (restS A.scripts o.name) o.name) ++ ⟨o.name, o.text⟩ :: (restS A.scripts o.name).drop (idxS (restS A.scripts o.name) o.name) }, 0) := by
  unfold setA
  rw [if_neg g1, if_neg c2]
  by_cases hh : hasS A.scripts o.name = true
  ·rw [if_pos hh, hset hh]
  ·have hh : hasS A.scripts o.name = false := by simpa using hh
   rw [if_neg (by rw [hh]; simp), if_neg (fun q => c3 ⟨hh, q⟩), hput hh]
 have c5 : at_ < 0 → (restS A.scripts o.name).length < 16 := fun q => by
  have hh : hasS A.scripts o.name = false := by
   cases hq : hasS A.scripts o.name with
   | false => rfl
   | true => have := hat_.2 hq; omega
  rw [hput hh]
  exact Nat.lt_of_not_le fun q => c3 ⟨hh, q⟩
 have ho4 := zaf ho k4
 have a24 := zac v2k k4
 have hLl : (restS A.scripts o.name).length ≤ 16 := hfl
 clear a1 hrest hput hset hdel c3 hat_ stl ho
 generalize restS A.scripts o.name = L at *
 have kr4 := Kp.refl w4 n_
 by_cases c6 : at_ < 0
 ·have c7 := c5 c6
  refine KGO ?_
  refine Loop.intro (ι := Nat) (fun k => [(2, .pointer (some ⟨b1, 0, none⟩)), (3, .pointer (some ⟨b2, 0, none⟩)), (4, .pointer (some ⟨b3, 0, none⟩)), (7, .slice va L.length vc), (10, .int .i64 (k : Nat))])
   (fun k w5 => Kp w4 w5 n_ ∧ k ≤ L.length ∧ ∀ x ∈ L.take k, ltT x.name o.name = true) (fun k => L.length - k) 0 ⟨rfl, rfl, rfl, rfl, rfl, trivial⟩ ⟨kr4, Nat.zero_le _, fun x hx => by simp at hx⟩ ?_
  rintro k g5 w5 ⟨k5, hk, hpre⟩
  obtain ⟨hc1, hc2⟩ := zgv ho4
  have kr5 := Kp.refl w5 n_
  have kd5 : Kp w5 w5.drew n_ := kr5.drew
  refine GW ?_
  by_cases hkl : k < L.length
  ·obtain ⟨go, rfl, hBg, hgo, hato⟩ := zcx ho4 (by omega)
   have hato5 := zac hato k5
   by_cases hlz : ltT L[k].name o.name = true
   ·have hbl : Op.bytesLess (str L[k].name).toList (str o.name).toList = true := (zee _ _).trans hlz
    have hn : ∀ x ∈ L.take (k + 1), ltT x.name o.name = true := fun x hx => by
     rw [List.take_succ_eq_append_getElem hkl, List.mem_append, List.mem_singleton] at hx
     rcases hx with hx | rfl
     ·exact hpre x hx
     ·exact hlz
    refine KGO ?_
    exact ⟨k + 1, ⟨rfl, rfl, rfl, rfl, v_int (by simp), trivial⟩, ⟨by first | exact k5 | exact k5.drew, by omega, hn⟩, by dsimp only; omega⟩
   ·have hbl : Op.bytesLess (str L[k].name).toList (str o.name).toList = false := (zee _ _).trans (by simpa using hlz)
    have hpost : ∀ x, L[k]? = some x → ltT x.name o.name = false := fun x hx => by rw [List.getElem?_eq_getElem hkl] at hx; injection hx with hx; subst hx; simpa using hlz
    have hidx : idxS L o.name = k := zaJ (fun s : Sc => ltT s.name o.name) L k hpre hk hpost
    rw [hidx] at hres
    refine KGO ?_
    refine RunV.of (build0Src _) ?_
    have k6 : Kp w5 (w5.drew.alloc (.cells #[] 76)) n_ := (kd5).alloc _
    have o6 := zbc 76 srcC 2 (by decide) w5.drew
    have hB6 := k6.size
    generalize w5.drew.alloc (.cells #[] 76) = w6 at *
    have zz : w5.drew.heap.size = w5.heap.size := rfl
    rw [zz] at o6 ⊢
    have hato6 := zac hato (k5.trans0 k6)
    refine KGO ?_
    rw [if_neg (by omega : ¬ 0 = vc)]
    refine tySrc.app (L.take k) o6 hB6 (by rw [List.length_take]; omega) (fun _ => ⟨go, _, rfl, by simpa using zbw lenSrc hato6 k⟩) (by rw [List.length_take]; simp; omega) (by rw [List.length_take]; simp; omega) fun v7 w7 o7 k7 => ?_
    have K7 : Kp w5 w7 n_ := zaq o6 k7 w5 k6 (Nat.le_refl _)
    rw [List.nil_append] at o7
    obtain ⟨a7, c7, rfl⟩ := zab o7
    have hlt7 : (L.take k).length = k := by rw [List.length_take]; omega
    have K47 := k5.trans0 K7
    refine KGO ?_
    refine RunV.of (zbN _ _ _) ?_
    refine KGO ?_
    refine RunV.of (zbo ⟨o.name, o.text⟩ _) ?_
    have k8 : Kp w7 (w7.alloc (.cells (srcC ⟨o.name, o.text⟩).toArray 76)) n_ := (Kp.refl _ _).alloc _
    have h8 := zao w7 76 (srcC ⟨o.name, o.text⟩)
    have o8 := zaf o7 k8
    generalize w7.alloc (.cells (srcC ⟨o.name, o.text⟩).toArray 76) = w8 at *
    generalize w7.heap.size = g8 at *
    refine KGO ?_
    refine tySrc.app1 ⟨o.name, o.text⟩ o8 (K7.trans0 k8).size h8 (by omega) (by omega) fun v9 w9 o9 k9 => ?_
    have K9 : Kp w5 w9 n_ := zaq o8 k9 w5 (K7.trans0 k8) (Nat.le_refl _)
    obtain ⟨a9, c9, rfl⟩ := zab o9
    have hato9 := zac hato (k5.trans0 K9)
    refine KGO ?_
    refine tySrc.app (L.drop k) o9 K9.size (by rw [List.length_drop]) (fun hpos => ?_) (by rw [List.length_append, List.length_drop]; simp; omega) (by rw [List.length_append, List.length_drop]; simp; omega) fun vA wA oA kA => ?_
    ·rw [if_neg (by omega : ¬ k = vc)]
     exact ⟨go, _, rfl, by simpa using zbq lenSrc hato9 k⟩
    have KA : Kp w5 wA n_ := zaq o9 kA w5 K9 (Nat.le_refl _)
    rw [List.append_assoc, List.singleton_append] at oA
    obtain ⟨aA, cA, rfl⟩ := zab oA
    have stA := zaB oA (by decide) (by decide)
    have K4A := k5.trans0 KA
    have v1 := v1.keep0 K4A
    have v3 := v3.keep0 K4A
    refine KGO ?_
    refine SCK 2 v1 fun w8 v8 k8 => ?_
    have v8 : VarK w8 b1 36 (accC ⟨h.B, h.M, ⟨aA, _, cA⟩, h.N⟩ { A with scripts := L.take k ++ ⟨o.name, o.text⟩ :: L.drop k }) := v8
    have v3 := v3.keep k8 (fun e => by have e : b3 = b1 := e; omega)
    have a8 := v8.at
    have kr8 := Kp.refl w8 n_
    refine KGO ?_
    refine SVK (accC ⟨h.B, h.M, ⟨aA, _, cA⟩, h.N⟩ { A with scripts := L.take k ++ ⟨o.name, o.text⟩ :: L.drop k }) v3 fun w9 v9 k9 => ?_
    have K9 : Kp w w9 n_ := zae (zae (K4.trans0 K4A) k8 (by omega)) k9 (by omega)
    have hat := v9.at
    refine KGO ?_
    refine GW ?_
    refine KGO ?_
    refine GW ?_
    have s9 := hs.keep K9
    have n9 := (stA.step v1 k8).step v3 k9
    exact ⟨_, _, 0, rfl, ⟨lx, hm, fun u ku => ⟨(s9 u ku).b, (s9 u ku).m, (s9 u ku).x, n9 u ku, (s9 u ku).n⟩⟩, ⟨cp.B, cp.M⟩, zba hres, K9⟩
  ·have hkL : k = L.length := by omega
   have hpost : ∀ x, L[k]? = some x → ltT x.name o.name = false := fun x hx => by rw [List.getElem?_eq_none (by omega)] at hx; cases hx
   by_cases hL0 : L.length = 0
   ·have hLn := List.eq_nil_of_length_eq_zero hL0
    have hva := hnil hLn
    subst hLn
    injection hva with e4 e5 e6
    subst e4; subst e6
    have hk0 : k = 0 := hkL
    subst hk0
    have hidx : idxS ([] : List Sc) o.name = 0 := rfl
    rw [hidx] at hres
    clear hnil hkl
    refine KGO ?_
    refine RunV.of (build0Src _) ?_
    have k6 : Kp w5 (w5.drew.alloc (.cells #[] 76)) n_ := kd5.alloc _
    have o6 := zbc 76 srcC 2 (by decide) w5.drew
    have hB6 := k6.size
    generalize w5.drew.alloc (.cells #[] 76) = w6 at *
    have zz : w5.drew.heap.size = w5.heap.size := rfl
    rw [zz] at o6 ⊢
    refine KGO ?_
    refine zdF tySrc rfl ?_
    refine KGO ?_
    refine tySrc.app [] o6 hB6 rfl (fun h => absurd h (Nat.lt_irrefl 0)) (by simp) (by simp) fun v7 w7 o7 k7 => ?_
    have K7 : Kp w5 w7 n_ := zaq o6 k7 w5 k6 (Nat.le_refl _)
    rw [List.nil_append] at o7
    obtain ⟨a7, c7, rfl⟩ := zab o7
    have K47 := k5.trans0 K7
    refine KGO ?_
    refine RunV.of (zbN _ _ _) ?_
    refine KGO ?_
    refine RunV.of (zbo ⟨o.name, o.text⟩ _) ?_
    have k8 : Kp w7 (w7.alloc (.cells (srcC ⟨o.name, o.text⟩).toArray 76)) n_ := (Kp.refl _ _).alloc _
    have h8 := zao w7 76 (srcC ⟨o.name, o.text⟩)
    have o8 := zaf o7 k8
    generalize w7.alloc (.cells (srcC ⟨o.name, o.text⟩).toArray 76) = w8 at *
    generalize w7.heap.size = g8 at *
    refine KGO ?_
    refine tySrc.app1 ⟨o.name, o.text⟩ o8 (K7.trans0 k8).size h8 (by simp) (by simp) fun v9 w9 o9 k9 => ?_
    have K9 : Kp w5 w9 n_ := zaq o8 k9 w5 (K7.trans0 k8) (Nat.le_refl _)
    obtain ⟨a9, c9, rfl⟩ := zab o9
    refine KGO ?_
    refine zep tySrc rfl ?_
    refine KGO ?_
    refine tySrc.app [] o9 K9.size rfl (fun h => absurd h (Nat.lt_irrefl 0)) (by simp) (by simp) fun vA wA oA kA => ?_
    have KA : Kp w5 wA n_ := zaq o9 kA w5 K9 (Nat.le_refl _)
    obtain ⟨aA, cA, rfl⟩ := zab oA
    have stA := zaB oA (by decide) (by decide)
    have K4A := k5.trans0 KA
    have v1 := v1.keep0 K4A
    have v3 := v3.keep0 K4A
    refine KGO ?_
    refine SCK 2 v1 fun w8 v8 k8 => ?_
    have v8 : VarK w8 b1 36 (accC ⟨h.B, h.M, ⟨aA, _, cA⟩, h.N⟩ { A with scripts := [⟨o.name, o.text⟩] }) := v8
    have v3 := v3.keep k8 (fun e => by have e : b3 = b1 := e; omega)
    have a8 := v8.at
    have kr8 := Kp.refl w8 n_
    refine KGO ?_
    refine SVK (accC ⟨h.B, h.M, ⟨aA, _, cA⟩, h.N⟩ { A with scripts := [⟨o.name, o.text⟩] }) v3 fun w9 v9 k9 => ?_
    have K9 : Kp w w9 n_ := zae (zae (K4.trans0 K4A) k8 (by omega)) k9 (by omega)
    have hat := v9.at
    refine KGO ?_
    refine GW ?_
    refine KGO ?_
    refine GW ?_
    have s9 := hs.keep K9
    have n9 := (stA.step v1 k8).step v3 k9
    exact ⟨_, _, 0, rfl, ⟨lx, hm, fun u ku => ⟨(s9 u ku).b, (s9 u ku).m, (s9 u ku).x, n9 u ku, (s9 u ku).n⟩⟩, ⟨cp.B, cp.M⟩, zba hres, K9⟩
   ·obtain ⟨go, rfl, hBg, hgo, hato⟩ := zcx ho4 (by omega)
    have hidx : idxS L o.name = k := zaJ (fun s : Sc => ltT s.name o.name) L k hpre hk hpost
    rw [hidx] at hres
    refine KGO ?_
    refine RunV.of (build0Src _) ?_
    have k6 : Kp w5 (w5.drew.alloc (.cells #[] 76)) n_ := (kd5).alloc _
    have o6 := zbc 76 srcC 2 (by decide) w5.drew
    have hB6 := k6.size
    generalize w5.drew.alloc (.cells #[] 76) = w6 at *
    have zz : w5.drew.heap.size = w5.heap.size := rfl
    rw [zz] at o6 ⊢
    have hato6 := zac hato (k5.trans0 k6)
    refine KGO ?_
    rw [if_neg (by omega : ¬ 0 = vc)]
    refine tySrc.app (L.take k) o6 hB6 (by rw [List.length_take]; omega) (fun _ => ⟨go, _, rfl, by simpa using zbw lenSrc hato6 k⟩) (by rw [List.length_take]; simp; omega) (by rw [List.length_take]; simp; omega) fun v7 w7 o7 k7 => ?_
    have K7 : Kp w5 w7 n_ := zaq o6 k7 w5 k6 (Nat.le_refl _)
    rw [List.nil_append] at o7
    obtain ⟨a7, c7, rfl⟩ := zab o7
    have hlt7 : (L.take k).length = k := by rw [List.length_take]; omega
    have K47 := k5.trans0 K7
    refine KGO ?_
    refine RunV.of (zbN _ _ _) ?_
    refine KGO ?_
    refine RunV.of (zbo ⟨o.name, o.text⟩ _) ?_
    have k8 : Kp w7 (w7.alloc (.cells (srcC ⟨o.name, o.text⟩).toArray 76)) n_ := (Kp.refl _ _).alloc _
    have h8 := zao w7 76 (srcC ⟨o.name, o.text⟩)
    have o8 := zaf o7 k8
    generalize w7.alloc (.cells (srcC ⟨o.name, o.text⟩).toArray 76) = w8 at *
    generalize w7.heap.size = g8 at *
    refine KGO ?_
    refine tySrc.app1 ⟨o.name, o.text⟩ o8 (K7.trans0 k8).size h8 (by omega) (by omega) fun v9 w9 o9 k9 => ?_
    have K9 : Kp w5 w9 n_ := zaq o8 k9 w5 (K7.trans0 k8) (Nat.le_refl _)
    obtain ⟨a9, c9, rfl⟩ := zab o9
    have hato9 := zac hato (k5.trans0 K9)
    refine KGO ?_
    refine tySrc.app (L.drop k) o9 K9.size (by rw [List.length_drop]) (fun hpos => ?_) (by rw [List.length_append, List.length_drop]; simp; omega) (by rw [List.length_append, List.length_drop]; simp; omega) fun vA wA oA kA => ?_
    ·rw [if_neg (by omega : ¬ k = vc)]
     exact ⟨go, _, rfl, by simpa using zbq lenSrc hato9 k⟩
    have KA : Kp w5 wA n_ := zaq o9 kA w5 K9 (Nat.le_refl _)
    rw [List.append_assoc, List.singleton_append] at oA
    obtain ⟨aA, cA, rfl⟩ := zab oA
    have stA := zaB oA (by decide) (by decide)
    have K4A := k5.trans0 KA
    have v1 := v1.keep0 K4A
    have v3 := v3.keep0 K4A
    refine KGO ?_
    refine SCK 2 v1 fun w8 v8 k8 => ?_
    have v8 : VarK w8 b1 36 (accC ⟨h.B, h.M, ⟨aA, _, cA⟩, h.N⟩ { A with scripts := L.take k ++ ⟨o.name, o.text⟩ :: L.drop k }) := v8
    have v3 := v3.keep k8 (fun e => by have e : b3 = b1 := e; omega)
    have a8 := v8.at
    have kr8 := Kp.refl w8 n_
    refine KGO ?_
    refine SVK (accC ⟨h.B, h.M, ⟨aA, _, cA⟩, h.N⟩ { A with scripts := L.take k ++ ⟨o.name, o.text⟩ :: L.drop k }) v3 fun w9 v9 k9 => ?_
    have K9 : Kp w w9 n_ := zae (zae (K4.trans0 K4A) k8 (by omega)) k9 (by omega)
    have hat := v9.at
    refine KGO ?_
    refine GW ?_
    refine KGO ?_
    refine GW ?_
    have s9 := hs.keep K9
    have n9 := (stA.step v1 k8).step v3 k9
    exact ⟨_, _, 0, rfl, ⟨lx, hm, fun u ku => ⟨(s9 u ku).b, (s9 u ku).m, (s9 u ku).x, n9 u ku, (s9 u ku).n⟩⟩, ⟨cp.B, cp.M⟩, zba hres, K9⟩
 ·refine KGO ?_
  refine Loop.intro (ι := Nat) (fun k => [(2, .pointer (some ⟨b1, 0, none⟩)), (3, .pointer (some ⟨b2, 0, none⟩)), (4, .pointer (some ⟨b3, 0, none⟩)), (7, .slice va L.length vc), (10, .int .i64 (k : Nat))])
   (fun k w5 => Kp w4 w5 n_ ∧ k ≤ L.length ∧ ∀ x ∈ L.take k, ltT x.name o.name = true) (fun k => L.length - k) 0 ⟨rfl, rfl, rfl, rfl, rfl, trivial⟩ ⟨kr4, Nat.zero_le _, fun x hx => by simp at hx⟩ ?_
  rintro k g5 w5 ⟨k5, hk, hpre⟩
  obtain ⟨hc1, hc2⟩ := zgv ho4
  have kr5 := Kp.refl w5 n_
  have kd5 : Kp w5 w5.drew n_ := kr5.drew
  refine GW ?_
  by_cases hkl : k < L.length
  ·obtain ⟨go, rfl, hBg, hgo, hato⟩ := zcx ho4 (by omega)
   have hato5 := zac hato k5
   by_cases hlz : ltT L[k].name o.name = true
   ·have hbl : Op.bytesLess (str L[k].name).toList (str o.name).toList = true := (zee _ _).trans hlz
    have hn : ∀ x ∈ L.take (k + 1), ltT x.name o.name = true := fun x hx => by
     rw [List.take_succ_eq_append_getElem hkl, List.mem_append, List.mem_singleton] at hx
     rcases hx with hx | rfl
     ·exact hpre x hx
     ·exact hlz
    refine KGO ?_
    exact ⟨k + 1, ⟨rfl, rfl, rfl, rfl, v_int (by simp), trivial⟩, ⟨by first | exact k5 | exact k5.drew, by omega, hn⟩, by dsimp only; omega⟩
   ·have hbl : Op.bytesLess (str L[k].name).toList (str o.name).toList = false := (zee _ _).trans (by simpa using hlz)
    have hpost : ∀ x, L[k]? = some x → ltT x.name o.name = false := fun x hx => by rw [List.getElem?_eq_getElem hkl] at hx; injection hx with hx; subst hx; simpa using hlz
    have hidx : idxS L o.name = k := zaJ (fun s : Sc => ltT s.name o.name) L k hpre hk hpost
    rw [hidx] at hres
    refine KGO ?_
    refine RunV.of (build0Src _) ?_
    have k6 : Kp w5 (w5.drew.alloc (.cells #[] 76)) n_ := (kd5).alloc _
    have o6 := zbc 76 srcC 2 (by decide) w5.drew
    have hB6 := k6.size
    generalize w5.drew.alloc (.cells #[] 76) = w6 at *
    have zz : w5.drew.heap.size = w5.heap.size := rfl
    rw [zz] at o6 ⊢
    have hato6 := zac hato (k5.trans0 k6)
    refine KGO ?_
    rw [if_neg (by omega : ¬ 0 = vc)]
    refine tySrc.app (L.take k) o6 hB6 (by rw [List.length_take]; omega) (fun _ => ⟨go, _, rfl, by simpa using zbw lenSrc hato6 k⟩) (by rw [List.length_take]; simp; omega) (by rw [List.length_take]; simp; omega) fun v7 w7 o7 k7 => ?_
    have K7 : Kp w5 w7 n_ := zaq o6 k7 w5 k6 (Nat.le_refl _)
    rw [List.nil_append] at o7
    obtain ⟨a7, c7, rfl⟩ := zab o7
    have hlt7 : (L.take k).length = k := by rw [List.length_take]; omega
    have K47 := k5.trans0 K7
    refine KGO ?_
    refine RunV.of (zbN _ _ _) ?_
    refine KGO ?_
    refine RunV.of (zbo ⟨o.name, o.text⟩ _) ?_
    have k8 : Kp w7 (w7.alloc (.cells (srcC ⟨o.name, o.text⟩).toArray 76)) n_ := (Kp.refl _ _).alloc _
    have h8 := zao w7 76 (srcC ⟨o.name, o.text⟩)
    have o8 := zaf o7 k8
    generalize w7.alloc (.cells (srcC ⟨o.name, o.text⟩).toArray 76) = w8 at *
    generalize w7.heap.size = g8 at *
    refine KGO ?_
    refine tySrc.app1 ⟨o.name, o.text⟩ o8 (K7.trans0 k8).size h8 (by omega) (by omega) fun v9 w9 o9 k9 => ?_
    have K9 : Kp w5 w9 n_ := zaq o8 k9 w5 (K7.trans0 k8) (Nat.le_refl _)
    obtain ⟨a9, c9, rfl⟩ := zab o9
    have hato9 := zac hato (k5.trans0 K9)
    refine KGO ?_
    refine tySrc.app (L.drop k) o9 K9.size (by rw [List.length_drop]) (fun hpos => ?_) (by rw [List.length_append, List.length_drop]; simp; omega) (by rw [List.length_append, List.length_drop]; simp; omega) fun vA wA oA kA => ?_
    ·rw [if_neg (by omega : ¬ k = vc)]
     exact ⟨go, _, rfl, by simpa using zbq lenSrc hato9 k⟩
    have KA : Kp w5 wA n_ := zaq o9 kA w5 K9 (Nat.le_refl _)
    rw [List.append_assoc, List.singleton_append] at oA
    obtain ⟨aA, cA, rfl⟩ := zab oA
    have stA := zaB oA (by decide) (by decide)
    have K4A := k5.trans0 KA
    have v1 := v1.keep0 K4A
    have v3 := v3.keep0 K4A
    refine KGO ?_
    refine SCK 2 v1 fun w8 v8 k8 => ?_
    have v8 : VarK w8 b1 36 (accC ⟨h.B, h.M, ⟨aA, _, cA⟩, h.N⟩ { A with scripts := L.take k ++ ⟨o.name, o.text⟩ :: L.drop k }) := v8
    have v3 := v3.keep k8 (fun e => by have e : b3 = b1 := e; omega)
    have a8 := v8.at
    have kr8 := Kp.refl w8 n_
    refine KGO ?_
    refine SVK (accC ⟨h.B, h.M, ⟨aA, _, cA⟩, h.N⟩ { A with scripts := L.take k ++ ⟨o.name, o.text⟩ :: L.drop k }) v3 fun w9 v9 k9 => ?_
    have K9 : Kp w w9 n_ := zae (zae (K4.trans0 K4A) k8 (by omega)) k9 (by omega)
    have hat := v9.at
    refine KGO ?_
    refine GW ?_
    refine KGO ?_
    refine GW ?_
    have s9 := hs.keep K9
    have n9 := (stA.step v1 k8).step v3 k9
    exact ⟨_, _, 0, rfl, ⟨lx, hm, fun u ku => ⟨(s9 u ku).b, (s9 u ku).m, (s9 u ku).x, n9 u ku, (s9 u ku).n⟩⟩, ⟨cp.B, cp.M⟩, zba hres, K9⟩
  ·have hkL : k = L.length := by omega
   have hpost : ∀ x, L[k]? = some x → ltT x.name o.name = false := fun x hx => by rw [List.getElem?_eq_none (by omega)] at hx; cases hx
   by_cases hL0 : L.length = 0
   ·have hLn := List.eq_nil_of_length_eq_zero hL0
    have hva := hnil hLn
    subst hLn
    injection hva with e4 e5 e6
    subst e4; subst e6
    have hk0 : k = 0 := hkL
    subst hk0
    have hidx : idxS ([] : List Sc) o.name = 0 := rfl
    rw [hidx] at hres
    clear hnil hkl
    refine KGO ?_
    refine RunV.of (build0Src _) ?_
    have k6 : Kp w5 (w5.drew.alloc (.cells #[] 76)) n_ := kd5.alloc _
    have o6 := zbc 76 srcC 2 (by decide) w5.drew
    have hB6 := k6.size
    generalize w5.drew.alloc (.cells #[] 76) = w6 at *
    have zz : w5.drew.heap.size = w5.heap.size := rfl
    rw [zz] at o6 ⊢
    refine KGO ?_
    refine zdF tySrc rfl ?_
    refine KGO ?_
    refine tySrc.app [] o6 hB6 rfl (fun h => absurd h (Nat.lt_irrefl 0)) (by simp) (by simp) fun v7 w7 o7 k7 => ?_
    have K7 : Kp w5 w7 n_ := zaq o6 k7 w5 k6 (Nat.le_refl _)
    rw [List.nil_append] at o7
    obtain ⟨a7, c7, rfl⟩ := zab o7
    have K47 := k5.trans0 K7
    refine KGO ?_
    refine RunV.of (zbN _ _ _) ?_
    refine KGO ?_
    refine RunV.of (zbo ⟨o.name, o.text⟩ _) ?_
    have k8 : Kp w7 (w7.alloc (.cells (srcC ⟨o.name, o.text⟩).toArray 76)) n_ := (Kp.refl _ _).alloc _
    have h8 := zao w7 76 (srcC ⟨o.name, o.text⟩)
    have o8 := zaf o7 k8
    generalize w7.alloc (.cells (srcC ⟨o.name, o.text⟩).toArray 76) = w8 at *
    generalize w7.heap.size = g8 at *
    refine KGO ?_
    refine tySrc.app1 ⟨o.name, o.text⟩ o8 (K7.trans0 k8).size h8 (by simp) (by simp) fun v9 w9 o9 k9 => ?_
    have K9 : Kp w5 w9 n_ := zaq o8 k9 w5 (K7.trans0 k8) (Nat.le_refl _)
    obtain ⟨a9, c9, rfl⟩ := zab o9
    refine KGO ?_
    refine zep tySrc rfl ?_
    refine KGO ?_
    refine tySrc.app [] o9 K9.size rfl (fun h => absurd h (Nat.lt_irrefl 0)) (by simp) (by simp) fun vA wA oA kA => ?_
    have KA : Kp w5 wA n_ := zaq o9 kA w5 K9 (Nat.le_refl _)
    obtain ⟨aA, cA, rfl⟩ := zab oA
    have stA := zaB oA (by decide) (by decide)
    have K4A := k5.trans0 KA
    have v1 := v1.keep0 K4A
    have v3 := v3.keep0 K4A
    refine KGO ?_
    refine SCK 2 v1 fun w8 v8 k8 => ?_
    have v8 : VarK w8 b1 36 (accC ⟨h.B, h.M, ⟨aA, _, cA⟩, h.N⟩ { A with scripts := [⟨o.name, o.text⟩] }) := v8
    have v3 := v3.keep k8 (fun e => by have e : b3 = b1 := e; omega)
    have a8 := v8.at
    have kr8 := Kp.refl w8 n_
    refine KGO ?_
    refine SVK (accC ⟨h.B, h.M, ⟨aA, _, cA⟩, h.N⟩ { A with scripts := [⟨o.name, o.text⟩] }) v3 fun w9 v9 k9 => ?_
    have K9 : Kp w w9 n_ := zae (zae (K4.trans0 K4A) k8 (by omega)) k9 (by omega)
    have hat := v9.at
    refine KGO ?_
    refine GW ?_
    refine KGO ?_
    refine GW ?_
    have s9 := hs.keep K9
    have n9 := (stA.step v1 k8).step v3 k9
    exact ⟨_, _, 0, rfl, ⟨lx, hm, fun u ku => ⟨(s9 u ku).b, (s9 u ku).m, (s9 u ku).x, n9 u ku, (s9 u ku).n⟩⟩, ⟨cp.B, cp.M⟩, zba hres, K9⟩
   ·obtain ⟨go, rfl, hBg, hgo, hato⟩ := zcx ho4 (by omega)
    have hidx : idxS L o.name = k := zaJ (fun s : Sc => ltT s.name o.name) L k hpre hk hpost
    rw [hidx] at hres
    refine KGO ?_
    refine RunV.of (build0Src _) ?_
    have k6 : Kp w5 (w5.drew.alloc (.cells #[] 76)) n_ := (kd5).alloc _
    have o6 := zbc 76 srcC 2 (by decide) w5.drew
    have hB6 := k6.size
    generalize w5.drew.alloc (.cells #[] 76) = w6 at *
    have zz : w5.drew.heap.size = w5.heap.size := rfl
    rw [zz] at o6 ⊢
    have hato6 := zac hato (k5.trans0 k6)
    refine KGO ?_
    rw [if_neg (by omega : ¬ 0 = vc)]
    refine tySrc.app (L.take k) o6 hB6 (by rw [List.length_take]; omega) (fun _ => ⟨go, _, rfl, by simpa using zbw lenSrc hato6 k⟩) (by rw [List.length_take]; simp; omega) (by rw [List.length_take]; simp; omega) fun v7 w7 o7 k7 => ?_
    have K7 : Kp w5 w7 n_ := zaq o6 k7 w5 k6 (Nat.le_refl _)
    rw [List.nil_append] at o7
    obtain ⟨a7, c7, rfl⟩ := zab o7
    have hlt7 : (L.take k).length = k := by rw [List.length_take]; omega
    have K47 := k5.trans0 K7
    refine KGO ?_
    refine RunV.of (zbN _ _ _) ?_
    refine KGO ?_
    refine RunV.of (zbo ⟨o.name, o.text⟩ _) ?_
    have k8 : Kp w7 (w7.alloc (.cells (srcC ⟨o.name, o.text⟩).toArray 76)) n_ := (Kp.refl _ _).alloc _
    have h8 := zao w7 76 (srcC ⟨o.name, o.text⟩)
    have o8 := zaf o7 k8
    generalize w7.alloc (.cells (srcC ⟨o.name, o.text⟩).toArray 76) = w8 at *
    generalize w7.heap.size = g8 at *
    refine KGO ?_
    refine tySrc.app1 ⟨o.name, o.text⟩ o8 (K7.trans0 k8).size h8 (by omega) (by omega) fun v9 w9 o9 k9 => ?_
    have K9 : Kp w5 w9 n_ := zaq o8 k9 w5 (K7.trans0 k8) (Nat.le_refl _)
    obtain ⟨a9, c9, rfl⟩ := zab o9
    have hato9 := zac hato (k5.trans0 K9)
    refine KGO ?_
    refine tySrc.app (L.drop k) o9 K9.size (by rw [List.length_drop]) (fun hpos => ?_) (by rw [List.length_append, List.length_drop]; simp; omega) (by rw [List.length_append, List.length_drop]; simp; omega) fun vA wA oA kA => ?_
    ·rw [if_neg (by omega : ¬ k = vc)]
     exact ⟨go, _, rfl, by simpa using zbq lenSrc hato9 k⟩
    have KA : Kp w5 wA n_ := zaq o9 kA w5 K9 (Nat.le_refl _)
    rw [List.append_assoc, List.singleton_append] at oA
    obtain ⟨aA, cA, rfl⟩ := zab oA
    have stA := zaB oA (by decide) (by decide)
    have K4A := k5.trans0 KA
    have v1 := v1.keep0 K4A
    have v3 := v3.keep0 K4A
    refine KGO ?_
    refine SCK 2 v1 fun w8 v8 k8 => ?_
    have v8 : VarK w8 b1 36 (accC ⟨h.B, h.M, ⟨aA, _, cA⟩, h.N⟩ { A with scripts := L.take k ++ ⟨o.name, o.text⟩ :: L.drop k }) := v8
    have v3 := v3.keep k8 (fun e => by have e : b3 = b1 := e; omega)
    have a8 := v8.at
    have kr8 := Kp.refl w8 n_
    refine KGO ?_
    refine SVK (accC ⟨h.B, h.M, ⟨aA, _, cA⟩, h.N⟩ { A with scripts := L.take k ++ ⟨o.name, o.text⟩ :: L.drop k }) v3 fun w9 v9 k9 => ?_
    have K9 : Kp w w9 n_ := zae (zae (K4.trans0 K4A) k8 (by omega)) k9 (by omega)
    have hat := v9.at
    refine KGO ?_
    refine GW ?_
    refine KGO ?_
    refine GW ?_
    have s9 := hs.keep K9
    have n9 := (stA.step v1 k8).step v3 k9
    exact ⟨_, _, 0, rfl, ⟨lx, hm, fun u ku => ⟨(s9 u ku).b, (s9 u ku).m, (s9 u ku).x, n9 u ku, (s9 u ku).n⟩⟩, ⟨cp.B, cp.M⟩, zba hres, K9⟩
end
end Go.Proofs.YtohhkegmbgancaaGreatDoor
