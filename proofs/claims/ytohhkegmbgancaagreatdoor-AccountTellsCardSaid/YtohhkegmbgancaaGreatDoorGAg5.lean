/- Helper text of this claim: lemmas and contracts that the proved statement rests on; no conditions of its own. -/
import Derived.Test.YtohhkegmbgancaaGreatDoorGAe2
namespace Go.Proofs.YtohhkegmbgancaaGreatDoor
set_option maxHeartbeats 8000000
open Go.RowKit Go.Pw Go.Vc Go.Cs Go.Lib
set_option linter.unusedVariables false
set_option maxRecDepth 100000
theorem zdf {α : Type} {p : α → Bool} {l : List α} {j : Nat} (h : j < l.length) : (l.take (j + 1)).filter p = (l.take j).filter p ++ (if p l[j] = true then [l[j]] else []) := by
 rw [List.take_succ_eq_append_getElem h, List.filter_append]
 congr 1
 by_cases hp : p l[j] = true
 ·rw [if_pos hp, List.filter_cons_of_pos hp]; rfl
 ·rw [if_neg hp, List.filter_cons_of_neg hp]; rfl
theorem dlf_T {w : World} {v : Value} {B : Nat} (l : List (List UInt8)) (g : Nat) (c0 : Value) (p : (List UInt8) → Bool) (ho : OwnT w B v l) (hl : l.length ≤ 8796093022208) (hg : ∀ (args : Array Value) (w : World), (callFunc g args).run Tryz.prog w = .ok (.enter g args) w)
  (hp : ∀ x ∈ l, ∀ w', Kp w w' (own_ v) → Calls Tryz.prog g #[.string (str x), c0] w' fun e w'' => e = .returned (.bool (p x)) ∧ Kp w' w'' n_) :
  Calls Tryz.prog 76 #[v, .func (.func g) #[] #[c0]] w fun e w' => ∃ v', e = .returned v' ∧ OwnT w' B v' (l.filter fun x => !p x) ∧ Kp w w' (own_ v) ∧ (v'.ownBlock = v.ownBlock) := by
 obtain ⟨a, cap0, rfl⟩ := zab ho
 refine zaa (args := [.slice a l.length cap0, .func (.func g) #[] #[c0]]) Tryz.func76 rfl NL ?_; refine GW ?_
 refine CallS.of (Tryz.call142 _ _) (zpu l g c0 p (zat ho) hl hg (fun x hx w' k => hp x hx w' k.of_none)) ?_
 rintro e w1 ⟨rfl, k1⟩
 refine RT ?_
 rcases idxP_lt p l with hi | ⟨i0, hi0, he0, hp0, hb0⟩
 ·rw [hi]
  refine KGO ?_
  refine ⟨_, rfl, ?_, k1.of_none, rfl⟩
  have hf : (l.filter fun x => !p x) = l := List.filter_eq_self.2 fun x hx => by
   have h : ¬ l.any p = true := fun h => by have := (zbT p l).2 h; omega
   have := List.any_eq_false.1 (by simpa using h) x hx
   simpa using this
  rw [hf]
  exact zaf ho k1
 rw [he0]
 rcases own_blockK ho with ⟨hnil, h0⟩ | ⟨gb, cap, cells0, hev, hBg, hv0, hnc, hcm, hcl0, htk0⟩
 ·omega
 injection hev with hev _ hcc
 subst hev; subst hcc
 have hgk : gb < w1.heap.size := Nat.lt_of_lt_of_le hv0.lt k1.size
 have ho1 := zaf ho k1
 have hfl0 : ((l.take (i0 + 1)).filter fun x => !p x) = l.take i0 := by
  rw [zdf hi0, hp0]
  have : (l.take i0).filter (fun x => !p x) = l.take i0 := List.filter_eq_self.2 fun x hx => by
   obtain ⟨j, hj, rfl⟩ := List.mem_take_iff_getElem.1 hx
   rw [hb0 j (by omega)]; rfl
  rw [this]; simp
 refine KGO ?_
 refine Loop.intro (ι := Nat × Nat × List (List UInt8)) (fun q => [(0, .slice (some ⟨gb, 0, none⟩) l.length cap0), (1, .func (.func g) #[] #[c0]), (5, .int .i64 (q.1 : Nat)), (6, .int .i64 (q.2.1 : Nat))])
  (fun q wr => Kp w wr (one_ gb) ∧ q.2.1 ≤ l.length ∧ q.1 < q.2.1 ∧ q.2.2.length = l.length ∧ q.2.2.take q.1 = ((l.take q.2.1).filter fun x => !p x) ∧ q.2.2.drop q.2.1 = l.drop q.2.1 ∧ OwnT wr B (.slice (some ⟨gb, 0, none⟩) q.2.2.length cap0) q.2.2)
  (fun q => l.length - q.2.1) (i0, i0 + 1, l) ⟨rfl, rfl, rfl, v_int (by simp), trivial⟩ ⟨k1.of_none, by dsimp only; omega, by dsimp only; omega, rfl, by dsimp only; rw [hfl0], rfl, ho1⟩ ?_
 clear ho1 hfl0 hb0 hp0 he0 hi0 i0
 rintro ⟨i, j, cur⟩ gg wr ⟨hK, hj, hij, hcl2, htk2, hdr2, ho2⟩
 dsimp only at hj hij hcl2 htk2 hdr2 ho2 ⊢
 rcases own_blockK ho2 with ⟨h, h0⟩ | ⟨g2, cap, cells, hev, hBg2, hv, hnc2, hcm2, hcl, htk⟩
 ·cases h
 injection hev with hev _ hcc
 injection hev with hev
 injection hev with hev
 subst hev; subst hcc
 have hrow := zcB ho2
 have kr := Kp.refl wr n_
 refine GW ?_
 by_cases hlt : j < l.length
 ·have hcj : cur[j]'(by omega) = l[j] := by
   have h1 : (cur.drop j)[0]? = (l.drop j)[0]? := by rw [hdr2]
   rw [List.getElem?_drop, List.getElem?_drop, Nat.add_zero, List.getElem?_eq_getElem (by omega), List.getElem?_eq_getElem hlt] at h1
   exact Option.some.inj h1
  have hfs := zdf (p := fun x => !p x) hlt
  have hjc : j < cur.length := by omega
  obtain ⟨q, hq⟩ : ∃ q, p l[j] = q := ⟨_, rfl⟩
  have hmx := List.getElem_mem hlt
  rw [hq] at hfs
  have hcx := zbB hrow (i := j) (by omega)
  refine KGO ?_
  rw [hcj]
  generalize hxj : l[j] = x at *
  have hpc := hp x hmx wr (hK.mono fun q _ hq => by have hq : q = gb := hq; rw [hq]; rfl)
  rw [hq] at hpc
  refine CallS.of (hg _ _) hpc ?_
  rintro e w1 ⟨rfl, k1⟩
  refine RT ?_
  cases q with
  | true =>
   refine KGO ?_
   refine ⟨(i, j + 1, cur), ⟨rfl, rfl, rfl, v_int (by simp), trivial⟩, ⟨hK.trans0 k1, by dsimp only; omega, by dsimp only; omega, hcl2, ?_, ?_, zaf ho2 k1⟩, by dsimp only; omega⟩
   ·dsimp only
    rw [hfs, htk2]; simp
   ·dsimp only
    rw [← List.drop_drop, hdr2, List.drop_drop]
  | false =>
   refine KGO ?_
   have hv := hv.keep0 k1
   refine Store.atK hv (i := 0 + i) (by omega) (by rfl) ⟨rfl, by simp, by simp⟩ fun w2 v2 k2 => ?_
   rw [Nat.zero_add] at v2
   have o2 := zbp (w := w1) lenT (l := cur) (k := i) (j := 0) (x := x) (by omega) (by decide) rfl hBg (by omega) hcm hcl htk (by rw [Nat.mul_one, Nat.add_zero]; exact v2)
   refine KGO ?_
   have hil : i < cur.length := by omega
   refine ⟨(i + 1, j + 1, cur.set i x), ⟨rfl, rfl, v_int (by simp), v_int (by simp), trivial⟩, ⟨hK.trans' (k1.of_none.trans' k2), by dsimp only; omega, by dsimp only; omega, by dsimp only; rw [List.length_set]; exact hcl2, ?_, ?_, ?_⟩, by dsimp only; omega⟩
   ·dsimp only
    rw [hfs, ← htk2, List.take_succ_eq_append_getElem (by rw [List.length_set]; exact hil), List.getElem_set_self, List.take_set_of_le (Nat.le_refl _)]
    simp
   ·dsimp only
    rw [List.drop_set_of_lt (by omega), ← List.drop_drop, hdr2, List.drop_drop]
   ·dsimp only
    unfold OwnT
    rw [List.length_set]
    exact o2
 ·have hjl : j = l.length := by omega
  subst hjl
  rw [List.take_length] at htk2
  have hil : i < cur.length := by omega
  refine KGO ?_
  rw [if_neg (by omega : ¬ i = cap0)]
  refine RunN.clearK (s := 1) (n := l.length - i) Tryz.underlying26 textInfo rfl (by intro u hu; simp [Value.cells] at hu; first | (subst hu; rfl) | (rcases hu with rfl | rfl <;> rfl)) hv (by first | (rw [hcl]; omega) | omega) fun w3 zs hzl v3 k3 => ?_
  refine KGO ?_
  have hle : (l.filter fun x => !p x).length = i := by rw [← htk2, List.length_take]; omega
  rw [if_neg (by omega : ¬ 0 = cap0), Nat.sub_zero, Nat.sub_zero]
  refine ⟨_, rfl, ?_, ((hK.trans' k3).mono fun q _ hq => by have hq : q = gb := hq; rw [hq]; rfl), rfl⟩
  have htA : cells.take (0 + i * 1) = (l.filter fun x => !p x).flatMap txC := by
   rw [Nat.zero_add, ← htk2, ← zaQ txC 1 lenT, ← htk, List.take_take, Nat.min_eq_left (by omega)]
  have hlA : ((l.filter fun x => !p x).flatMap txC).length = i * 1 := by rw [zaC txC 1 lenT, hle]
  first | rw [htA] at v3 | (rw [show 0 + i * 1 = 0 + i by omega] at htA; rw [htA] at v3)
  unfold OwnT
  rw [hle]
  refine zbi hBg v3 (by omega) hcm2 ?_ ?_ hlA
  ·rw [List.length_append, List.length_append, hlA, hzl, List.length_drop]; omega
  ·rw [List.append_assoc, ← hlA, List.take_left]
theorem zpx {w : World} {v : Value} {B : Nat} (l : List Sn) (g : Nat) (c0 : Value) (p : Sn → Bool) (ho : OwnSn w B v l) (hl : l.length ≤ 1000000) (hg : ∀ (args : Array Value) (w : World), (callFunc g args).run Tryz.prog w = .ok (.enter g args) w)
  (hp : ∀ x ∈ l, ∀ w', Kp w w' (own_ v) → Calls Tryz.prog g #[.agg (snC x).toArray, c0] w' fun e w'' => e = .returned (.bool (p x)) ∧ Kp w' w'' n_) :
  Calls Tryz.prog 89 #[v, .func (.func g) #[] #[c0]] w fun e w' => ∃ v', e = .returned v' ∧ OwnSn w' B v' (l.filter fun x => !p x) ∧ Kp w w' (own_ v) ∧ (v'.ownBlock = v.ownBlock) := by
 obtain ⟨a, cap0, rfl⟩ := zab ho
 refine zaa (args := [.slice a l.length cap0, .func (.func g) #[] #[c0]]) Tryz.func89 rfl NL ?_; refine GW ?_
 refine CallS.of (Tryz.call152 _ _) (zou l g c0 p (zat ho) hl hg (fun x hx w' k => hp x hx w' k.of_none)) ?_
 rintro e w1 ⟨rfl, k1⟩
 refine RT ?_
 rcases idxP_lt p l with hi | ⟨i0, hi0, he0, hp0, hb0⟩
 ·rw [hi]
  refine KGO ?_
  refine ⟨_, rfl, ?_, k1.of_none, rfl⟩
  have hf : (l.filter fun x => !p x) = l := List.filter_eq_self.2 fun x hx => by
   have h : ¬ l.any p = true := fun h => by have := (zbT p l).2 h; omega
   have := List.any_eq_false.1 (by simpa using h) x hx
   simpa using this
  rw [hf]
  exact zaf ho k1
 rw [he0]
 rcases own_blockK ho with ⟨hnil, h0⟩ | ⟨gb, cap, cells0, hev, hBg, hv0, hnc, hcm, hcl0, htk0⟩
 ·omega
 injection hev with hev _ hcc
 subst hev; subst hcc
 have hgk : gb < w1.heap.size := Nat.lt_of_lt_of_le hv0.lt k1.size
 have ho1 := zaf ho k1
 have hfl0 : ((l.take (i0 + 1)).filter fun x => !p x) = l.take i0 := by
  rw [zdf hi0, hp0]
  have : (l.take i0).filter (fun x => !p x) = l.take i0 := List.filter_eq_self.2 fun x hx => by
   obtain ⟨j, hj, rfl⟩ := List.mem_take_iff_getElem.1 hx
   rw [hb0 j (by omega)]; rfl
  rw [this]; simp
 refine KGO ?_
 refine Loop.intro (ι := Nat × Nat × List Sn) (fun q => [(0, .slice (some ⟨gb, 0, none⟩) l.length cap0), (1, .func (.func g) #[] #[c0]), (5, .int .i64 (q.1 : Nat)), (6, .int .i64 (q.2.1 : Nat))])
  (fun q wr => Kp w wr (one_ gb) ∧ q.2.1 ≤ l.length ∧ q.1 < q.2.1 ∧ q.2.2.length = l.length ∧ q.2.2.take q.1 = ((l.take q.2.1).filter fun x => !p x) ∧ q.2.2.drop q.2.1 = l.drop q.2.1 ∧ OwnSn wr B (.slice (some ⟨gb, 0, none⟩) q.2.2.length cap0) q.2.2)
  (fun q => l.length - q.2.1) (i0, i0 + 1, l) ⟨rfl, rfl, rfl, v_int (by simp), trivial⟩ ⟨k1.of_none, by dsimp only; omega, by dsimp only; omega, rfl, by dsimp only; rw [hfl0], rfl, ho1⟩ ?_
 clear ho1 hfl0 hb0 hp0 he0 hi0 i0
 rintro ⟨i, j, cur⟩ gg wr ⟨hK, hj, hij, hcl2, htk2, hdr2, ho2⟩
 dsimp only at hj hij hcl2 htk2 hdr2 ho2 ⊢
 rcases own_blockK ho2 with ⟨h, h0⟩ | ⟨g2, cap, cells, hev, hBg2, hv, hnc2, hcm2, hcl, htk⟩
 ·cases h
 injection hev with hev _ hcc
 injection hev with hev
 injection hev with hev
 subst hev; subst hcc
 have hrow := zcB ho2
 have kr := Kp.refl wr n_
 refine GW ?_
 by_cases hlt : j < l.length
 ·have hcj : cur[j]'(by omega) = l[j] := by
   have h1 : (cur.drop j)[0]? = (l.drop j)[0]? := by rw [hdr2]
   rw [List.getElem?_drop, List.getElem?_drop, Nat.add_zero, List.getElem?_eq_getElem (by omega), List.getElem?_eq_getElem hlt] at h1
   exact Option.some.inj h1
  have hfs := zdf (p := fun x => !p x) hlt
  have hjc : j < cur.length := by omega
  obtain ⟨q, hq⟩ : ∃ q, p l[j] = q := ⟨_, rfl⟩
  have hmx := List.getElem_mem hlt
  rw [hq] at hfs
  refine KGO ?_
  rw [hcj]
  generalize hxj : l[j] = x at *
  refine Store.fresh (vs := snC x) (by rfl) rfl (zan (by rfl)) ?_
  obtain ⟨a_b7, k_wv, z_wv⟩ := new3 wr 78 (snC x)
  generalize wr.alloc (.cells (List.toArray (snC x)) 78) = wv at *
  generalize hs_b7 : wr.heap.size = b7 at *
  refine KGO ?_
  have hpc := hp x hmx wv ((hK.trans0 k_wv).mono fun q _ hq => by have hq : q = gb := hq; rw [hq]; rfl)
  rw [hq] at hpc
  refine CallS.of (hg _ _) hpc ?_
  rintro e w1 ⟨rfl, k1⟩
  refine RT ?_
  cases q with
  | true =>
   refine KGO ?_
   refine ⟨(i, j + 1, cur), ⟨rfl, rfl, rfl, v_int (by simp), trivial⟩, ⟨(hK.trans0 k_wv).trans0 k1, by dsimp only; omega, by dsimp only; omega, hcl2, ?_, ?_, zaf (zaf ho2 k_wv) k1⟩, by dsimp only; omega⟩
   ·dsimp only
    rw [hfs, htk2]; simp
   ·dsimp only
    rw [← List.drop_drop, hdr2, List.drop_drop]
  | false =>
   refine KGO ?_
   have hv := (hv.keep0 k_wv).keep0 k1
   refine Store.elemK (l := cur) (k := i) (B := B) (cap := cap0) x lenSn (by rfl) (zan (by rfl)) hv hBg (by omega) hcm hcl htk (by omega) fun w2 o2 v2 k2 => ?_
   refine KGO ?_
   have hil : i < cur.length := by omega
   refine ⟨(i + 1, j + 1, cur.set i x), ⟨rfl, rfl, v_int (by simp), v_int (by simp), trivial⟩, ⟨(hK.trans0 k_wv).trans' (k1.of_none.trans' k2), by dsimp only; omega, by dsimp only; omega, by dsimp only; rw [List.length_set]; exact hcl2, ?_, ?_, ?_⟩, by dsimp only; omega⟩
   ·dsimp only
    rw [hfs, ← htk2, List.take_succ_eq_append_getElem (by rw [List.length_set]; exact hil), List.getElem_set_self, List.take_set_of_le (Nat.le_refl _)]
    simp
   ·dsimp only
    rw [List.drop_set_of_lt (by omega), ← List.drop_drop, hdr2, List.drop_drop]
   ·dsimp only
    unfold OwnSn
    rw [List.length_set]
    exact o2
 ·have hjl : j = l.length := by omega
  subst hjl
  rw [List.take_length] at htk2
  have hil : i < cur.length := by omega
  refine KGO ?_
  rw [if_neg (by omega : ¬ i = cap0)]
  refine RunN.clearK (s := 2) (n := l.length - i) Tryz.underlying34 infoSn rfl (by intro u hu; simp [Value.cells] at hu; first | (subst hu; rfl) | (rcases hu with rfl | rfl <;> rfl)) hv (by first | (rw [hcl]; omega) | omega) fun w3 zs hzl v3 k3 => ?_
  refine KGO ?_
  have hle : (l.filter fun x => !p x).length = i := by rw [← htk2, List.length_take]; omega
  rw [if_neg (by omega : ¬ 0 = cap0), Nat.sub_zero, Nat.sub_zero]
  refine ⟨_, rfl, ?_, ((hK.trans' k3).mono fun q _ hq => by have hq : q = gb := hq; rw [hq]; rfl), rfl⟩
  have htA : cells.take (0 + i * 2) = (l.filter fun x => !p x).flatMap snC := by
   rw [Nat.zero_add, ← htk2, ← zaQ snC 2 lenSn, ← htk, List.take_take, Nat.min_eq_left (by omega)]
  have hlA : ((l.filter fun x => !p x).flatMap snC).length = i * 2 := by rw [zaC snC 2 lenSn, hle]
  first | rw [htA] at v3 | (rw [show 0 + i * 2 = 0 + i by omega] at htA; rw [htA] at v3)
  unfold OwnSn
  rw [hle]
  refine zbi hBg v3 (by omega) hcm2 ?_ ?_ hlA
  ·rw [List.length_append, List.length_append, hlA, hzl, List.length_drop]; omega
  ·rw [List.append_assoc, ← hlA, List.take_left]
end Go.Proofs.YtohhkegmbgancaaGreatDoor
namespace Go.Vc
set_option maxHeartbeats 8000000
open Go Go.Pw Go.RowKit
theorem RunN.appNone {P : Program} {w : World} {K : Value → World → Prop} {t ty e : TypeId} {cs : Array Bool} {B s n c bytes : Nat} {z v : Value} {xs : List Value} (ht : P.underlying t = some (.slice e)) (hb : (P.info? e).map (fun i => (i.zero, i.size, i.bytes)) = some (some z, s, bytes))
  (hown : w.ownsRow B e s v n xs) (k : K v w) : RunN P (builtin .append #[t, t] ty cs [v, .slice none 0 c].toArray) w K := by
 obtain ⟨i, hi, _, _, _⟩ := zaV hb
 refine ⟨v, w, ?_, k⟩
 show (do pure (Next.value (← Builtin.append_ #[t, t] ty #[v, .slice none 0 c])) : Sem Next).run P w = _
 rcases hown.2 with ⟨rfl, rfl⟩ | ⟨g, cap, cur, rfl, _, _, hnc, _⟩
 ·simp [Builtin.append_, run_underlying ht, sizeOf, typeInfo, hi, Builtin.lenOf, Builtin.firstCells]
 ·simp [Builtin.append_, run_underlying ht, sizeOf, typeInfo, hi, Builtin.lenOf, Builtin.firstCells, hnc, storeCells]
theorem RunN.zeros0 {P : Program} {w : World} {K : Value → World → Prop} {t tn ty e : TypeId} {cs : Array Bool} {s bytes : Nat} {z : Value} {kq kn : IntKind} (ht : P.underlying t = some (.slice e)) (htn : P.underlying tn = some (.int kn)) (hb : (P.info? e).map (fun i => (i.zero, i.size, i.bytes)) = some (some z, s, bytes)) (hz : z.cells.size = s) (hs : 0 < s) {m : Nat} (h0 : 0 < m)
  (h63 : m ≤ 9223372036854775807) (hbytes : m * bytes ≤ 140737488355328)
  (k : ∀ w' cells c', VarK w' w.heap.size e cells → cells.length = c' * s → m ≤ c' → c' ≤ maxLen → Kp w w' n_ → K (.slice (some ⟨w.heap.size, 0, none⟩) m c') w') :
  RunN P (builtin .append #[t, tn] ty cs [.slice none 0 0, .int kq (m : Nat)].toArray) w K := by
 obtain ⟨i, hi, z1, rfl, rfl⟩ := zaV hb
 have hr := Lib.run_append_grow_zeros (P := P) w t tn ty e i z kq kn ht htn hi z1 none 0 0 [] (by simp [Builtin.firstCells]) m h0 hs (by omega) (by omega) (by omega) (fits48 (by omega) (by simpa using hbytes))
 have hge := grownCap_ge w (0 + m) 0 e
 rw [Nat.zero_add] at hr hge
 refine ⟨_, w.drew.alloc (.cells ([].toArray ++ Builtin.zeroCells z.cells m ++ Builtin.zeroCells z.cells (grownCap w m 0 e - m)) e), ?_, k _ (Builtin.zeroCells z.cells m ++ Builtin.zeroCells z.cells (grownCap w m 0 e - m)).toList _ ?_ ?_ hge (grownCap_le_maxLen w m 0 e (by rw [show maxLen = 9223372036854775807 from rfl]; exact h63)) ?_⟩
 ·show (do pure (Next.value (← Builtin.append_ #[t, tn] ty #[.slice none 0 0, .int kq (m : Nat)])) : Sem Next).run P w = _
  simp only [Sem.run_bind, hr, Result.andThen_ok]
  rfl
 ·have := heap_alloc_new w.drew (.cells ([].toArray ++ Builtin.zeroCells z.cells m ++ Builtin.zeroCells z.cells (grownCap w m 0 e - m)) e)
  unfold VarK
  rw [show ((Builtin.zeroCells z.cells m ++ Builtin.zeroCells z.cells (grownCap w m 0 e - m)).toList).toArray = [].toArray ++ Builtin.zeroCells z.cells m ++ Builtin.zeroCells z.cells (grownCap w m 0 e - m) by apply Array.ext'; simp]
  exact this
 ·rw [Array.length_toList, Array.size_append, size_zeroCells, size_zeroCells, hz, ← Nat.add_mul]
  congr 1
  omega
 ·exact (Kp.refl w n_).drew.alloc _
end Go.Vc
namespace Go.Proofs.YtohhkegmbgancaaGreatDoor
set_option maxHeartbeats 8000000
open Go.Shelf Go.RowKit Go.Pw Go.Vc Go.Cs Go.Lib
set_option linter.unusedVariables false
set_option maxRecDepth 100000
section
variable {w : World}
theorem zpz {f : Fr} {y : Operand} (w : World) (hy : ev f y = .int .i64 ((0 : Nat) : Int) := by rfl) : (Instr.sliceAt 26 (.slice none 0 0) none ((some y).map (ev f)) none).run Tryz.prog w = .ok (.slice none 0 0) w := by
 obtain ⟨i, hi, _, hs, _⟩ := zaV textInfo
 simp [Instr.sliceAt, hy, Instr.slice, Instr.sliceBounds, go_sem, zaG Tryz.underlying26, zbf hi]
theorem gr_T (n : Nat) (hn : n ≤ 8796093022208) : Calls Tryz.prog 143 #[.slice none 0 0, .int .i64 (n : Nat)] w fun e w' => ∃ v, e = .returned v ∧ OwnT w' w.heap.size v [] ∧ Kp w w' n_ := by
 refine zaa (args := [.slice none 0 0, .int .i64 (n : Nat)]) Tryz.func143 rfl NL ?_; refine GW ?_
 refine KGO ?_
 refine RunN.capK Tryz.underlying26 ?_
 rcases Nat.eq_zero_or_pos n with h0 | h0
 ·subst h0
  refine KGO ?_
  exact ⟨_, rfl, World.ownsRow_nil _ _ _ _, Kp.refl _ _⟩
 ·refine KGO ?_
  refine RunN.capK Tryz.underlying26 ?_
  refine KGO ?_
  refine RunV.of (v := .slice none 0 0) (w' := w) (zpz _) ?_
  refine KGO ?_
  rw [show ((n : Nat) : Int) - (((0 : Nat) : Int) - ((0 : Nat) : Int)) = ((n : Nat) : Int) by omega]
  refine RunN.zeros0 Tryz.underlying26 Tryz.underlying3 textInfo rfl (by decide) h0 (by omega) (by omega) fun w1 cells c1 v1 hl1 hc1 hm1 k1 => ?_
  refine KGO ?_
  rw [if_neg (by omega : ¬ 0 = c1), Nat.sub_zero, Nat.sub_zero]
  exact ⟨_, rfl, zbi (xs := []) (Nat.le_refl _) v1 (Nat.zero_le _) hm1 hl1 (by simp) rfl, k1⟩
abbrev slC (p : Sl × List (List UInt8)) : List Value := [.slice p.1.a p.1.n p.1.c]
theorem at_sl {g o i : Nat} {l : List (Sl × List (List UInt8))} (h : At w g o (l.flatMap slC)) (hi : i < l.length) : w.cell? ⟨g, o + i, none⟩ = some (.slice l[i].1.a l[i].1.n l[i].1.c) := zmr (fun p : Sl × List (List UInt8) => Value.slice p.1.a p.1.n p.1.c) h hi
theorem cat_T {v : Value} (ps : List (Sl × List (List UInt8))) (hv : RowO w v slC ps) (hp : ∀ p ∈ ps, RowT w p.1.v p.2) (hl : ps.length ≤ 1000) (hn : (ps.flatMap (·.2)).length ≤ 8796093022208) : Calls Tryz.prog 77 #[v] w fun e w' => ∃ v', e = .returned v' ∧ OwnT w' w.heap.size v' (ps.flatMap (·.2)) ∧ Kp w w' n_ := by
 obtain ⟨a, cap, rfl, hr⟩ := hv
 have hstep : ∀ i (h : i < ps.length), (ps.take (i + 1)).flatMap (·.2) = (ps.take i).flatMap (·.2) ++ ps[i].2 := fun i h => by
  rw [List.take_succ_eq_append_getElem h, List.flatMap_append]; simp
 have hle : ∀ i, ((ps.take i).flatMap (·.2)).length ≤ (ps.flatMap (·.2)).length := fun i => by
  conv => rhs; rw [← List.take_append_drop i ps, List.flatMap_append, List.length_append]
  omega
 refine zaa (args := [.slice a ps.length cap]) Tryz.func77 rfl NL ?_; refine GW ?_
 refine Loop.intro (ι := Nat) (fun i => [(0, .slice a ps.length cap), (3, .int .i64 (((ps.take i).flatMap (·.2)).length : Nat)), (9, .slice a ps.length cap), (10, .int .i64 (ps.length : Nat)), (11, .int .i64 (i : Nat))])
  (fun i wr => w = wr ∧ i ≤ ps.length) (fun i => ps.length - i) 0 ⟨rfl, rfl, rfl, rfl, rfl, trivial⟩ ⟨rfl, Nat.zero_le _⟩ ?_
 rintro i gg wr ⟨rfl, hi⟩
 have kr := Kp.refl w n_
 refine GW ?_
 by_cases hlt : i < ps.length
 ·obtain ⟨gb, o, rfl, hgb, hat⟩ := hr (by omega)
  have hc := at_sl hat hlt
  have hst := hstep i hlt
  have h1 := hle i
  have h2 := hle (i + 1)
  have hln := RowO.len (hp ps[i] (List.getElem_mem hlt))
  rw [hst, List.length_append] at h2
  refine KGO ?_
  rw [hln]
  refine KGO ?_
  refine ⟨i + 1, ⟨rfl, v_int (by rw [hst, List.length_append]; omega), rfl, rfl, v_int (by simp), trivial⟩, ⟨rfl, by omega⟩, by dsimp only; omega⟩
 ·have hil : ps.take i = ps := List.take_of_length_le (by omega)
  rw [hil]
  generalize hN : (ps.flatMap (·.2)).length = N at *
  refine KGO ?_
  refine CallS.of (Tryz.call143 _ _) (gr_T (w := w) N (by omega)) ?_
  rintro e w1 ⟨v1, rfl, o1, k1⟩
  obtain ⟨a1, c1, rfl⟩ := zab o1
  refine RT ?_
  refine KGO ?_
  refine Loop.intro (ι := Nat × Value) (fun q => [(6, q.2), (25, .slice a ps.length cap), (26, .int .i64 (ps.length : Nat)), (27, .int .i64 (q.1 : Nat))])
   (fun q wr => Kp w wr n_ ∧ q.1 ≤ ps.length ∧ OwnT wr w.heap.size q.2 ((ps.take q.1).flatMap (·.2))) (fun q => ps.length - q.1) (0, _) ⟨rfl, rfl, rfl, rfl, trivial⟩ ⟨k1, Nat.zero_le _, o1⟩ ?_
  rintro ⟨j, u⟩ gg2 wz ⟨hK, hj, ho⟩
  dsimp only at hj ho ⊢
  obtain ⟨au, cu, rfl⟩ := zab ho
  refine GW ?_
  by_cases hlt2 : j < ps.length
  ·obtain ⟨gb, o, rfl, hgb, hat⟩ := hr (by omega)
   have hc := at_sl hat hlt2
   have hst := hstep j hlt2
   have h1 := hle j
   have h2 := hle (j + 1)
   have hrow := (hp ps[j] (List.getElem_mem hlt2)).keep hK
   have hln := RowO.len hrow
   rw [hst, List.length_append] at h2
   obtain ⟨sa, sc, he, hrr⟩ := hrow
   have hea : ps[j].1.a = sa := by injection he
   refine KGO ?_
   rw [hln, hea]
   have fin : ∀ v' w', w'.ownsRow w.heap.size 9 1 v' (((ps.take j).flatMap (·.2)).length + ps[j].2.length) ((ps.take j).flatMap (·.2) |>.flatMap txC |>.append (ps[j].2.flatMap txC)) → OwnT w' w.heap.size v' ((ps.take (j + 1)).flatMap (·.2)) := fun v' w' h => by
    unfold OwnT
    rw [hst, List.length_append, List.flatMap_append]
    exact h
   rcases sa with _ | ad
   ·have h0 : ps[j].2.length = 0 := by
     rcases Nat.eq_zero_or_pos ps[j].2.length with h | h
     ·exact h
     ·obtain ⟨g, o, h1, _⟩ := hrr h; cases h1
    rw [h0]
    refine RunN.appNone Tryz.underlying26 textInfo ho ?_
    refine KGO ?_
    exact ⟨(j + 1, _), ⟨rfl, rfl, rfl, v_int (by simp), trivial⟩, ⟨hK, by dsimp only; omega, by dsimp only; rw [hst, List.eq_nil_of_length_eq_zero h0, List.append_nil]; exact ho⟩, by dsimp only; omega⟩
   ·refine RunN.app Tryz.underlying26 textInfo rfl (by decide) ho hK.size ad ps[j].2.length _ (ps[j].2.flatMap txC) (zaC txC 1 lenT _) (fun m x hm => ?_) (oneT _) (by omega) (by omega) fun v' w' h2 h3 => ?_
    ·rcases Nat.eq_zero_or_pos ps[j].2.length with h | h
     ·rw [List.eq_nil_of_length_eq_zero h] at hm; simp at hm
     ·obtain ⟨g', o', h1, _, h3⟩ := hrr h
      injection h1 with h1
      subst h1
      rw [add_none]
      exact h3 m x hm
    ·obtain ⟨a', c', rfl⟩ := zab h2
     refine KGO ?_
     exact ⟨(j + 1, _), ⟨rfl, rfl, rfl, v_int (by simp), trivial⟩, ⟨hK.own ho (Nat.le_refl _) h3, by dsimp only; omega, fin _ _ h2⟩, by dsimp only; omega⟩
  ·have hjl : ps.take j = ps := List.take_of_length_le (by omega)
   rw [hjl] at ho ⊢
   refine KGO ?_
   exact ⟨_, rfl, ho, hK⟩
end
structure OffM (h : Hd) (lx : List Mr) (g : Nat) : Prop where
 b : ∀ k, h.B.v.ownBlock = some k → k ≠ g
 s : ∀ k, h.S.v.ownBlock = some k → k ≠ g
 n : ∀ k, h.N.v.ownBlock = some k → k ≠ g
 x : ∀ x ∈ lx, (∀ k, x.b.v.ownBlock = some k → k ≠ g) ∧ ∀ k, x.f.v.ownBlock = some k → k ≠ g
theorem AccO.offM {w : World} {B g : Nat} {h : Hd} {lx : List Mr} {A : Acc} (o : AccO w B h lx A) (hg : h.M.v.ownBlock = some g) : OffM h lx g := by
 have nd := o.nd
 unfold Hd.bs at nd
 rw [hg] at nd
 obtain ⟨n1, n2, n3⟩ := List.nodup_append.1 nd
 obtain ⟨m1, m2, m3⟩ := List.nodup_append.1 n1
 have hm : ∀ k, k ∈ h.B.v.ownBlock.toList ++ h.S.v.ownBlock.toList ++ h.N.v.ownBlock.toList → k ≠ g := fun k hk => m3 k hk g (by simp)
 refine ⟨fun k hk => hm k (by rw [List.append_assoc]; exact List.mem_append_left _ (zaz.2 hk)), fun k hk => hm k (List.mem_append_left _ (List.mem_append_right _ (zaz.2 hk))), fun k hk => hm k (List.mem_append_right _ (zaz.2 hk)), fun x hx => ?_⟩
 have hi : ∀ k, k ∈ x.bs → k ≠ g := fun k hk e => n3 g (List.mem_append_right _ (by simp)) k (List.mem_flatMap.2 ⟨x, hx, hk⟩) e.symm
 exact ⟨fun k hk => hi k (List.mem_append_left _ (zaz.2 hk)), fun k hk => hi k (List.mem_append_right _ (zaz.2 hk))⟩
theorem zcb {w w' : World} {B s n g : Nat} {e : TypeId} {v : Value} {xs : List Value} (h : w.ownsRow B e s v n xs) (k : Kp w w' (one_ g)) (hn : ∀ b, v.ownBlock = some b → b ≠ g) : w'.ownsRow B e s v n xs := zah h k fun b hb e => hn b hb e
theorem zkF {w w4 w5 : World} {B b g : Nat} {h : Hd} {lx ly : List Mr} {A A' : Acc} (hd : Drf w B b h lx A) (K : Kp w w4 n_) (k : Kp w4 w5 (one_ g)) (hg : h.M.v.ownBlock = some g)
  (o5 : OwnMl w5 B h.M.v ly) (hy : ∀ y ∈ ly, OwnI w5 0 y.b.v y.m.boxes ∧ OwnT w5 0 y.f.v y.m.flags) (hA : A' = { A with mails := ly.map (·.m) }) : ∃ h', VarK w5 b 65 (accC h' A') ∧ AccR w5 h' A' ∧ StabA w5 h' A' := by
 have off := hd.o.offM hg
 have hgb : g < b := hd.lt g (List.mem_append_left _ (List.mem_append_right _ (zaz.2 hg)))
 subst hA
 have P : AccP w5 h ly { A with mails := ly.map (·.m) } := ⟨zaj (zcb (zaf hd.o.b K) k off.b) (Nat.zero_le _), zaj (zcb (zaf hd.o.s K) k off.s) (Nat.zero_le _), zaj (zcb (zaf hd.o.n K) k off.n) (Nat.zero_le _), zaj o5 (Nat.zero_le _), rfl, hy⟩
 exact ⟨h, (hd.v.keep0 K).keep k fun e => by have e : b = g := e; omega, P.read, P.stab⟩
theorem zlD {w w4 w5 : World} {B g : Nat} {h : Hd} {lx : List Mr} {A : Acc} (o : AccO w B h lx A) (K : Kp w w4 n_) (k : Kp w4 w5 (one_ g)) (hg : h.M.v.ownBlock = some g) : ∀ x ∈ lx, OwnI w5 0 x.b.v x.m.boxes ∧ OwnT w5 0 x.f.v x.m.flags := fun x hx =>
 have off := (o.offM hg).x x hx
 ⟨zaj (zcb (zaf (o.mb x hx).1 K) k off.1) (Nat.zero_le _), zaj (zcb (zaf (o.mb x hx).2 K) k off.2) (Nat.zero_le _)⟩
theorem zfT {w w' w5 : World} {B g : Nat} (K : Kp w w' n_) (k : Kp w' w5 (one_ g)) (hB : B ≤ g) : Kp w w5 (from_ B) := K.of_none.trans k fun q _ e => by have e : q = g := e; subst e; exact hB
theorem zhO {A : Acc} {o : Opr} {c : Nat} (h : ofA A o = .error c) : c = 5 ∨ c = 17 := by
 unfold ofA at h
 split at h
 ·injection h with h; exact .inl h.symm
 ·split at h
  ·injection h with h; exact .inr h.symm
  ·cases h
theorem at_of_own' {w : World} {B g : Nat} {s : Sl} {lx : List Mr} (h : OwnMl w B s.v lx) (ha : s.a = some ⟨g, 0, none⟩) : At w g 0 (lx.flatMap mrC) := by
 obtain ⟨a, n, c⟩ := s
 have ha : a = some ⟨g, 0, none⟩ := ha
 subst ha
 obtain ⟨a', c', he⟩ := zab h
 injection he with _ he _
 have he : n = lx.length := he
 subst he
 exact zcB h
theorem znF {lx : List Mr} {A : Acc} {id : Int} {i : Nat} (hml : lx.map (·.m) = A.mails) (hi : i < lx.length) (hid : lx[i].m.id = id) (hfirst : ∀ j (hj : j < i), (lx[j]'(by omega)).m.id ≠ id) (f : Ml → Ml) {y : Mr} (hy : y.m = f lx[i].m) : updA A.mails id f = (lx.set i y).map (·.m) := by
 have hlen : lx.length = A.mails.length := by rw [← hml, List.length_map]
 have hx : ∀ j (hj : j < lx.length), A.mails[j]'(by omega) = (lx[j]).m := fun j hj => by simp [← hml]
 rw [zgC f id A.mails i (by omega) (by rw [hx i hi]; exact hid) (fun j hj => by rw [hx j (by omega)]; exact hfirst j hj), hx i hi, ← hy, List.map_set, hml]
section
variable {w : World}
theorem zmY (s : List UInt8) {v : Ov} {o : Opr} {bp : Nat} (hc : At w bp 0 (opC v o)) (hd : RowT w v.d.v o.drop) (hl : o.drop.length ≤ 8796093022208) : Calls Tryz.prog 78 #[.string (str s), .pointer (some ⟨bp, 0, none⟩)] w fun e w' => e = .returned (.bool (decide (s ∈ o.drop))) ∧ Kp w w' n_ := by
 have kr := Kp.refl w n_
 refine zaa (args := [.string (str s), .pointer (some ⟨bp, 0, none⟩)]) Tryz.func78 rfl NL ?_; refine GW ?_
 refine KGO ?_
 refine CallS.of (Tryz.call63 _ _) (zdt (w := w) o.drop s hd (by omega)) ?_
 rintro e w1 ⟨rfl, k1⟩
 refine RT ?_
 exact ⟨rfl, k1⟩
theorem znA (a b : Sl) (w : World) : (Instr.buildSlice 151 2 [(0, .slice a.a a.n a.c), (1, .slice b.a b.n b.c)].toArray).run Tryz.prog w = .ok (.slice (some ⟨w.heap.size, 0, none⟩) 2 2) (w.alloc (.cells #[.slice a.a a.n a.c, .slice b.a b.n b.c] 26)) := by
 simp [Instr.buildSlice, go_sem, Tryz.runUnderlying151]
theorem zok {B b : Nat} {h : Hd} {lx : List Mr} {A : Acc} {v : Ov} {o : Opr} (hd : Drf w B b h lx A) (hf : Fit A) (ho : OpR w v o) (fo : FitO o) :
  Calls Tryz.prog 27 #[.pointer (some ⟨b, 0, none⟩), .agg (opC v o).toArray] w fun e w' => Done w' b e (flagA A o) ∧ Kp w w' (from_ B) := by
 have fml := hf.ml
 have foa := fo.a
 have fod := fo.d
 refine zaa (args := [.pointer (some ⟨b, 0, none⟩), .agg (opC v o).toArray]) Tryz.func27 rfl NL ?_; refine GW ?_
 obtain ⟨a_b1, v_b1, k_w1, z_w1, r_w1⟩ := new5 w 28 (opC v o)
 generalize w.alloc (.cells (List.toArray (opC v o)) 28) = w1 at *
 generalize hs_b1 : w.heap.size = b1 at *
 refine KGO ?_
 refine CallS.of (Tryz.call75 _ _) (ac_of (w := w1) (v := v) (o := o) (hd.keep k_w1) hf.ml) ?_
 rintro e w2 ⟨hof, k2⟩
 have K2 := k_w1.trans0 k2
 have a2 := zac a_b1 k2
 cases hA : ofA A o with
 | error c =>
  rw [hA] at hof
  subst hof
  have hc := zhO hA
  have hres : flagA A o = .error c := by unfold flagA; rw [hA]
  refine RT ?_
  refine KGO ?_
  exact ⟨by rw [hres]; rfl, K2.of_none⟩
 | ok m =>
  rw [hA] at hof
  obtain ⟨i, g, hi, rfl, hma, hxm, hid, hfirst⟩ := hof
  refine RT ?_
  refine KGO ?_
  refine CallS.of (Tryz.call73 _ _) (zeq (w := w2) o.add (ho.a.keep K2) (by omega) fo.fa) ?_
  rintro e w3 ⟨rfl, k3⟩
  have K3 := K2.trans0 k3
  have a3 := zac a2 k3
  refine RT ?_
  by_cases h1 : flagsB o.add = true
  rotate_left
  ·have h1 : flagsB o.add = false := by simpa using h1
   have hres : flagA A o = .error 1 := by unfold flagA; rw [hA]; dsimp only; rw [if_pos (.inl h1)]
   rw [h1]
   refine KGO ?_
   exact ⟨by rw [hres]; rfl, K3.of_none⟩
  rw [h1]
  have kr3 := Kp.refl w3 n_
  refine KGO ?_
  refine CallS.of (Tryz.call73 _ _) (zeq (w := w3) o.drop (ho.d.keep K3) (by omega) fo.fd) ?_
  rintro e w4 ⟨rfl, k4⟩
  have K4 := K3.trans0 k4
  have a4 := zac a3 k4
  refine RT ?_
  by_cases h2 : flagsB o.drop = true
  rotate_left
  ·have h2 : flagsB o.drop = false := by simpa using h2
   have hres : flagA A o = .error 1 := by unfold flagA; rw [hA]; dsimp only; rw [if_pos (.inr h2)]
   rw [h2]
   refine KGO ?_
   exact ⟨by rw [hres]; rfl, K4.of_none⟩
  rw [h2]
  have kr4 := Kp.refl w4 n_
  refine KGO ?_
  have hrow := at_of_own' hd.o.m hma
  have hdA := hd.v.at
  have hmoB := hd.o.mb lx[i] (List.getElem_mem hi)
  have hlf : m.flags.length ≤ 200 := by
   have : m ∈ A.mails := by rw [← hd.o.ml, ← hxm]; exact List.mem_map_of_mem (List.getElem_mem hi)
   exact (hf.mb m this).2
  have kd4 := K4.drew
  refine KGO ?_
  generalize hx : lx[i] = x at *
  have hrT : RowT w x.f.v m.flags := by rw [← hxm]; exact zat hmoB.2
  refine KGO ?_
  refine RunV.of (znA x.f v.a _) ?_
  have hps : At (w4.drew.alloc (.cells #[.slice x.f.a x.f.n x.f.c, .slice v.a.a v.a.n v.a.c] 26)) w4.drew.heap.size 0 ([(x.f, m.flags), (v.a, o.add)].flatMap slC) := zao w4.drew 26 [.slice x.f.a x.f.n x.f.c, .slice v.a.a v.a.n v.a.c]
  have k5 : Kp w4 (w4.drew.alloc (.cells #[.slice x.f.a x.f.n x.f.c, .slice v.a.a v.a.n v.a.c] 26)) n_ := (Kp.refl w4 n_).drew.alloc _
  have z5 : w4.drew.heap.size < (w4.drew.alloc (.cells #[.slice x.f.a x.f.n x.f.c, .slice v.a.a v.a.n v.a.c] 26)).heap.size := by simp
  generalize w4.drew.alloc (.cells #[.slice x.f.a x.f.n x.f.c, .slice v.a.a v.a.n v.a.c] 26) = w5 at *
  generalize w4.drew.heap.size = bs at *
  have K5 := K4.trans0 k5
  have a5 := zac a4 k5
  refine KGO ?_
  have hpp : ∀ p ∈ [(x.f, m.flags), (v.a, o.add)], RowT w5 p.1.v p.2 := fun p hp => by
   simp only [List.mem_cons, List.not_mem_nil, or_false] at hp
   rcases hp with rfl | rfl
   ·exact hrT.keep K5
   ·exact ho.a.keep K5
  refine CallS.of (Tryz.call77 _ _) (cat_T (w := w5) [(x.f, m.flags), (v.a, o.add)] ⟨some ⟨bs, 0, none⟩, 2, rfl, fun _ => ⟨bs, 0, rfl, z5, hps⟩⟩ hpp (by simp) (by simp; omega)) ?_
  rintro e w6 ⟨v6, rfl, o6, k6⟩
  rw [show ([(x.f, m.flags), (v.a, o.add)].flatMap (·.2)) = m.flags ++ o.add by simp] at o6
  obtain ⟨a6', c6, rfl⟩ := zab o6
  have K6 := K5.trans0 k6
  have a6 := zac a5 k6
  refine RT ?_
  refine KGO ?_
  refine CallS.of (Tryz.call72 _ _) (zcM (w := w6) (m.flags ++ o.add) (zat o6) (by rw [List.length_append]; omega)) ?_
  rintro e w7 ⟨v7, rfl, o7, k7⟩
  obtain ⟨a7', c7, rfl⟩ := zab o7
  have K7 := K6.trans0 k7
  have a7 := zac a6 k7
  have z6 := K6.size
  have hb16 : b1 < w6.heap.size := by have := (k2.trans0 k3).trans0 k4; have := this.size; have := k5.size; have := k6.size; omega
  refine RT ?_
  refine KGO ?_
  conv => arg 3; simp [ev, upd]
  have hln : (sortT (m.flags ++ o.add)).length ≤ 8796093022208 := by
   have := zcc (lt := ltT) (m.flags ++ o.add)
   rw [List.length_append] at this
   unfold sortT
   omega
  refine CallS.of (Tryz.call76 _ _) (dlf_T (w := w7) (sortT (m.flags ++ o.add)) 78 (.pointer (some ⟨b1, 0, none⟩)) (fun s => decide (s ∈ o.drop)) o7 (by omega) Tryz.call78 (fun s _ w' k => zmY s (v := v) (zaM a7 k (fun e => by have := (o7.lt b1 e).1; omega)) (ho.d.keep (K7.trans k fun q hq e => by have := (o7.lt q e).1; omega)) (by omega))) ?_
  rintro e w8 ⟨v8, rfl, o8, k8, hb8⟩
  have hnf : (sortT (m.flags ++ o.add)).filter (fun s => !decide (s ∈ o.drop)) = newFlags m o := rfl
  rw [hnf] at o8
  obtain ⟨a8', c8, rfl⟩ := zab o8
  have K8 := zaq o7 k8 w K7 (by omega)
  refine RT ?_
  by_cases h3 : 20 < (newFlags m o).length
  ·have hres : flagA A o = .error 3 := by unfold flagA; rw [hA]; dsimp only; rw [if_neg (by rw [h1, h2]; simp), if_pos h3]
   refine KGO ?_
   exact ⟨by rw [hres]; rfl, K8.of_none⟩
  have hres : flagA A o = .ok ({ A with mails := updA A.mails o.id fun m => { m with flags := newFlags m o, mod := A.st } }, 0) := by unfold flagA; rw [hA]; dsimp only; rw [if_neg (by rw [h1, h2]; simp), if_neg h3]
  refine KGO ?_
  subst hxm
  have oM := zaf hd.o.m K8
  rcases own_blockK oM with ⟨_, h0⟩ | ⟨gM, cap, cells, heM, hBg, hvM, hnc, hcm, hcl, htk⟩
  ·omega
  have heM' := heM
  injection heM with heM1 heM2 heM3
  rw [hma] at heM1
  injection heM1 with heM1
  injection heM1 with heM1
  subst heM1
  refine Store.atK (i := 0 + i * 38 + 34) hvM (by rw [hcl]; omega) (by rfl) ⟨rfl, by simp, by simp⟩ fun wA vA kA => ?_
  rw [show 0 + i * 38 + 34 = i * 38 + 34 by omega] at vA
  have oA := zbp (w := w8) lenMl (l := lx) (k := i) (j := 34) (x := ⟨x.m, x.b, ⟨a8', (newFlags x.m o).length, c8⟩⟩) hi (by decide) (by rw [hx]; rfl) hBg hnc hcm hcl htk vA
  rcases own_blockK oA with ⟨hq, _⟩ | ⟨gA, capA, cellsA, heA, hBA, hvA, hncA, hcmA, hclA, htkA⟩
  ·cases hq
  injection heA with heA1 heA2 heA3
  injection heA1 with heA1
  injection heA1 with heA1
  subst heA1; subst heA3
  refine KGO ?_
  refine Store.atK (i := 0 + i * 38 + 37) hvA (by rw [hclA]; omega) (by rfl) ⟨rfl, by simp, by simp⟩ fun wB vB kB => ?_
  rw [show 0 + i * 38 + 37 = i * 38 + 37 by omega] at vB
  have oB := zbp (w := wA) lenMl (l := lx.set i ⟨x.m, x.b, ⟨a8', (newFlags x.m o).length, c8⟩⟩) (k := i) (j := 37) (x := ⟨{ x.m with flags := newFlags x.m o, mod := A.st }, x.b, ⟨a8', (newFlags x.m o).length, c8⟩⟩) (by rw [List.length_set]; exact hi) (by decide) (by rw [List.getElem_set_self]; rfl) hBA (by rw [List.length_set]; exact hncA) hcmA hclA (by rw [List.length_set]; exact htkA) vB
  rw [List.length_set, List.set_set] at oB
  have kAB := kA.trans' kB
  have hrowB : OwnMl wB B h.M.v (lx.set i ⟨{ x.m with flags := newFlags x.m o, mod := A.st }, x.b, ⟨a8', (newFlags x.m o).length, c8⟩⟩) := by
   rw [heM']
   unfold OwnMl
   rw [List.length_set]
   exact oB
  have hgM : h.M.v.ownBlock = some g := by rw [heM']; rfl
  have hneM := zlD hd.o K8 kAB hgM
  have hgb : g < w.heap.size := by have := hd.lt g (List.mem_append_left _ (List.mem_append_right _ (zaz.2 hgM))); have := hd.v.lt; omega
  refine KGO ?_
  refine ⟨?_, zfT K8 kAB hBg⟩
  rw [hres]
  refine ⟨rfl, zkF hd K8 kAB hgM hrowB (fun y hy => ?_) ?_⟩
  ·rcases List.mem_or_eq_of_mem_set hy with hy | rfl
   ·exact hneM y hy
   ·have hx2 := hneM x (by rw [← hx]; exact List.getElem_mem hi)
    exact ⟨hx2.1, zaj (zcb o8 kAB fun k hk => by have := (o8.lt k hk).1; omega) (Nat.zero_le _)⟩
  ·rw [← znF hd.o.ml hi (by rw [hx]; exact hid) hfirst (fun m => { m with flags := newFlags m o, mod := A.st }) (by rw [hx])]
end
end Go.Proofs.YtohhkegmbgancaaGreatDoor
