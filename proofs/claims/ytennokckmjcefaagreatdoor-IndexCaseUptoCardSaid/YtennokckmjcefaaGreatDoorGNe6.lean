/- Helper lemmas that the proved statement rests on; no conditions of their own. -/
import Derived.Test.YtennokckmjcefaaGreatDoorGNi8
set_option linter.unusedVariables false
set_option maxHeartbeats 8000000
set_option maxRecDepth 100000
namespace Go.Proofs.YtennokckmjcefaaGreatDoor
open Go.Shelf Go.RowKit Go.Pw Go.Vc Go.Cs Go.Lib Go.Cd Go.Mg
theorem zdH {α : Type} (f : α → List UInt8) (l : List α) (i : Nat) : ((l.take i).flatMap f).length ≤ (l.flatMap f).length := by
 conv => rhs; rw [← List.take_append_drop i l, List.flatMap_append, List.length_append]
 omega
section
variable {w : World}
theorem zkP (h : Sv) (s : Sgm) (hr : RdS w h s) (hs : SmS s) (hE : CEnv w) (hd : s.docs.length ≤ 100000000) (hl : (serS s).length ≤ 1000000000000) : Calls Tryz.prog 69 #[.agg (sgC h).toArray] w fun e w' => e = .returned (.string (str (serS s))) ∧ Kp w w' n_ := by
 obtain ⟨⟨at_, ct, et, hrt⟩, ⟨ad, cd, ed, hrd⟩, _, _⟩ := id hr
 obtain ⟨⟨ta, tn, tc⟩, ⟨da, dn, dc⟩⟩ := h
 injection et with q1 q2 q3
 injection ed with r1 r2 r3
 dsimp only at q1 q2 q3 r1 r2 r3
 subst q1 q2 q3 r1 r2 r3
 refine zaa (args := [.agg (sgC ⟨⟨ta, s.terms.length, tc⟩, ⟨da, s.docs.length, dc⟩⟩).toArray]) Tryz.func69 rfl NL ?_; refine GW ?_
 obtain ⟨a_b1, v_b1, k_w1, z_w1, r_w1⟩ := new5 w 65 (sgC ⟨⟨ta, s.terms.length, tc⟩, ⟨da, s.docs.length, dc⟩⟩)
 generalize w.alloc (.cells (List.toArray (sgC ⟨⟨ta, s.terms.length, tc⟩, ⟨da, s.docs.length, dc⟩⟩)) 65) = w1 at *
 generalize hs_b1 : w.heap.size = b1 at *
 refine KGO ?_
 refine CallS.of (Tryz.call116 _ _) (zeO (w := w1) ⟨⟨ta, s.terms.length, tc⟩, ⟨da, s.docs.length, dc⟩⟩ s (hr.keep k_w1) hs (hE.keep k_w1)) ?_
 rintro e w2 ⟨rfl, k2⟩
 have K2 := k_w1.trans0 k2
 have v2 := v_b1.keep0 k2
 unfold sgC at v2
 dsimp only at v2
 have a1 := v2.at
 have z2 := K2.size
 clear a_b1 v_b1
 refine RT ?_
 unfold serS at hl ⊢
 cases hq : rightS s with
 | false =>
  refine KGO ?_
  exact ⟨rfl, K2⟩
 | true =>
 rw [hq, if_pos rfl] at hl
 rw [if_pos rfl]
 obtain ⟨⟨_, r0⟩, r2, _⟩ := zam.1 hq
 have hdn := zkl hq
 have hNl : (toN s.docs).length = s.docs.length := by unfold toN; exact List.length_map _
 have hNb : ∀ n ∈ toN s.docs, n < 2 ^ 63 := fun n hn => by
  obtain ⟨d, hd, rfl⟩ := List.mem_map.1 hn
  have := r0 d hd
  omega
 refine KGO ?_
 have hb0 := zea w2 w2.heap.size (Nat.le_refl _)
 have K0 : Kp w2 (w2.alloc (.cells #[.pointer none, .slice none 0 0] 93)) n_ := (Kp.refl _ _).alloc _
 generalize w2.alloc (.cells #[.pointer none, .slice none 0 0] 93) = w3 at *
 obtain ⟨b2, hb2⟩ : ∃ b2, w2.heap.size = b2 := ⟨_, rfl⟩
 rw [hb2] at hb0 ⊢
 have a13 := zai a1 K0
 have K3 := K2.trans0 K0
 refine Draw.heldEnd (fun u => Kp w3 u n_) (fun _ => true) (by simp) (by decide +kernel) (by decide +kernel) (Kp.refl _ _).drew ?_
 refine KGO ?_
 have kd := (Kp.refl w3 n_).drew
 have hrow : RowI w3.drew (.slice da s.docs.length dc) (iL (toN s.docs)) := by rw [hdn]; exact hr.d.keep (K3.trans0 kd)
 refine CallS.of (Tryz.call70 _ _) (znV (w := w3.drew) (toN s.docs) hrow hNb (by omega)) ?_
 rintro e w4 ⟨rfl, k4⟩
 have k34 := kd.trans0 k4
 refine RT ?_
 refine ⟨k34, ?_⟩
 refine KGO ?_
 refine CallS.of (Tryz.call67 _ _) (zft (w := w4) s.terms.length (by have := hs.t; omega)) ?_
 rintro e w5 ⟨rfl, k5⟩
 have k35 := k34.trans0 k5
 refine RT ?_
 refine ⟨k35, ?_⟩
 have KK : Kp w2 w5 n_ := K0.trans0 k35
 have hb5 := zaY hb0 k35
 have hn1 := zaC (n := s.terms.length) (by have := hs.t; omega)
 have hn2 : (numsE (toN s.docs)).length ≤ 9 + 9 * s.docs.length := by
  unfold numsE
  have h2 := zaC (n := (toN s.docs).length) (by omega)
  have h3 := zbT (toN s.docs) hNb
  rw [List.length_append]; omega
 rw [← List.append_assoc] at hl ⊢
 rw [List.length_append, List.length_append] at hl
 refine KGO ?_
 refine RunV.cat (by show (numsE (toN s.docs)).length + (numE s.terms.length).length ≤ _; omega) ?_
 rw [zhh]
 have hpl : (numsE (toN s.docs) ++ numE s.terms.length).length ≤ 10000000000 := by rw [List.length_append]; omega
 generalize numsE (toN s.docs) ++ numE s.terms.length = PRE at *
 refine KGO ?_
 refine CallS.of (Tryz.call66 _ _) (zaS (str PRE) w5 hb5 (by rw [show (str PRE).size = PRE.length from rfl]; simp; omega) (by have := KK.size; omega)) ?_
 rintro e w6 ⟨rfl, hb6, hbe, _⟩
 have K6 : Kp w2 w6 n_ := KK.below' hbe (by omega)
 rw [List.nil_append, show L (str PRE) = PRE from rfl] at hb6
 have a16 := zai a1 K6
 have q6 := Kp.refl w6 n_
 clear hb0 hb5 hbe a13 K0 k34 k35 k4 k5 K3 KK kd hrow
 refine RT ?_
 refine KGO ?_
 have hstl := hs.t
 have hall : (s.terms.flatMap termE).length ≤ 1000000000000 := by omega
 refine Loop.intro (ι := Nat) (fun i => [(3, .pointer (some ⟨b2, 0, none⟩)), (19, .slice ta s.terms.length tc), (20, .int .i64 (s.terms.length : Nat)), (21, .int .i64 (i : Nat))])
  (fun i wr => Kp w2 wr n_ ∧ i ≤ s.terms.length ∧ Bld wr b2 b2 (PRE ++ (s.terms.take i).flatMap termE)) (fun i => s.terms.length - i) 0 ⟨rfl, rfl, rfl, rfl, trivial⟩ ⟨K6, Nat.zero_le _, by simpa using hb6⟩ ?_
 clear hb6 K6 a16 q6
 rintro i gg wr ⟨hK, hi, hb⟩
 have hKw := K2.trans0 hK
 have zr := hK.size
 refine GW ?_
 by_cases hlt : i < s.terms.length
 ·obtain ⟨gt, ot, rfl, hgt, hat⟩ := hrt (by omega)
  have hst : (s.terms.take (i + 1)).flatMap termE = (s.terms.take i).flatMap termE ++ termE s.terms[i] := by
   rw [List.take_succ_eq_append_getElem hlt, List.flatMap_append]; simp
  have hft := zdH termE s.terms (i + 1)
  rw [hst, List.length_append] at hft
  have hok := r2 s.terms[i] (List.getElem_mem hlt)
  have hsm := hs.x s.terms[i] (List.getElem_mem hlt)
  refine KGO ?_
  refine Store.fresh (vs := tmC s.terms[i]) (by rfl) rfl (zar (by rfl)) ?_
  obtain ⟨a_b5, k_w7, z_w7⟩ := new3 wr 141 (tmC s.terms[i])
  generalize wr.alloc (.cells (List.toArray (tmC s.terms[i])) 141) = w7 at *
  generalize hs_b5 : wr.heap.size = b5 at *
  have hb7 := zaY hb k_w7
  have K7 := hK.trans0 k_w7
  clear hat hb
  generalize (s.terms.take i).flatMap termE = PT at *
  generalize s.terms[i] = t at *
  obtain ⟨f, wd, ls⟩ := t
  obtain ⟨n, rfl⟩ : ∃ n : Nat, f = n := by
   unfold okTerm at hok
   rw [Bool.and_eq_true, Bool.and_eq_true] at hok
   have := of_decide_eq_true hok.1.1
   exact ⟨f.toNat, by dsimp only at this; omega⟩
  have hn5 : n ≤ 5 := by
   unfold okTerm at hok
   rw [Bool.and_eq_true, Bool.and_eq_true] at hok
   have := of_decide_eq_true hok.1.1
   dsimp only at this; omega
  have hwl := hsm.w
  have hll := hsm.l
  dsimp only at hwl hll
  have hte : termE ⟨(n : Int), wd, ls⟩ = numE n ++ (textE wd ++ textE ls) := rfl
  have a5 : At w7 b5 0 [.int .i64 (n : Nat), .string (str wd), .string (str ls)] := a_b5
  rw [hte, List.length_append, List.length_append] at hft
  clear a_b5 hok hsm
  refine KGO ?_
  refine Draw.heldEnd (fun u => Kp w7 u n_) (fun _ => true) (by simp) (by decide +kernel) (by decide +kernel) (Kp.refl _ _).drew ?_
  refine KGO ?_
  have kd := (Kp.refl w7 n_).drew
  refine CallS.of (Tryz.call67 _ _) (zft (w := w7.drew) n (by omega)) ?_
  rintro e w8 ⟨rfl, k8⟩
  have k78 := kd.trans0 k8
  refine RT ?_
  refine ⟨k78, ?_⟩
  refine KGO ?_
  refine CallS.of (Tryz.call68 _ _) (zgW (w := w8) wd (by omega)) ?_
  rintro e w9 ⟨rfl, k9⟩
  have k79 := k78.trans0 k9
  refine RT ?_
  refine ⟨k79, ?_⟩
  refine KGO ?_
  refine RunV.cat (by show (numE n).length + (textE wd).length ≤ _; omega) ?_
  rw [zhh]
  refine KGO ?_
  refine CallS.of (Tryz.call68 _ _) (zgW (w := w9) ls (by omega)) ?_
  rintro e w10 ⟨rfl, k10⟩
  have k710 := k79.trans0 k10
  have hb10 := zaY hb7 k710
  have K10 := K7.trans0 k710
  refine RT ?_
  refine ⟨k710, ?_⟩
  refine KGO ?_
  refine RunV.cat (by show (numE n ++ textE wd).length + (textE ls).length ≤ _; rw [List.length_append]; omega) ?_
  rw [zhh]
  have hte2 : termE ⟨(n : Int), wd, ls⟩ = numE n ++ textE wd ++ textE ls := by rw [hte, List.append_assoc]
  rw [hte2] at hst
  have hXl : (numE n ++ textE wd ++ textE ls).length + PT.length ≤ 1000000000000 := by rw [List.length_append, List.length_append]; omega
  generalize numE n ++ textE wd ++ textE ls = X at *
  refine KGO ?_
  refine CallS.of (Tryz.call66 _ _) (zaS (str X) w10 hb10 (by rw [show (str X).size = X.length from rfl, List.length_append]; omega) (by have := K10.size; omega)) ?_
  rintro e w11 ⟨rfl, hb11, hbe11, _⟩
  have K11 : Kp w2 w11 n_ := K10.below' hbe11 (by omega)
  rw [show L (str X) = X from rfl] at hb11
  refine RT ?_
  refine KGO ?_
  exact ⟨i + 1, ⟨rfl, rfl, rfl, v_int (by simp), trivial⟩, ⟨K11, by omega, by rw [hst, ← List.append_assoc]; exact hb11⟩, by dsimp only; omega⟩
 obtain rfl : i = s.terms.length := by omega
 rw [List.take_length] at hb
 refine KGO ?_
 refine CallS.of (Tryz.call71 _ _) (zdb wr hb (by omega)) ?_
 rintro e w12 ⟨rfl, _, hbe, _⟩
 refine RT ?_
 refine KGO ?_
 exact ⟨rfl, (K2.trans0 hK).below' hbe (by omega)⟩
end
abbrev OwnSg (w : World) (B : Nat) (v : Value) (l : List (Sv × Sgm)) : Prop := w.ownsRow B 65 2 v l.length (l.flatMap sgP)
theorem lenSg (x : Sv × Sgm) : (sgP x).length = 2 := rfl
theorem infoSg : (Tryz.prog.info? 65).map (fun i => (i.zero, i.size, i.bytes)) = some (some (.agg #[.slice none 0 0, .slice none 0 0]), 2, 48) := by kernel_rfl
theorem tySg : RowTy 56 65 sgP 2 48 := ⟨Tryz.underlying56, ⟨_, infoSg, rfl⟩, by decide, lenSg, fun x => List.all_eq_true.1 (by rfl)⟩
theorem zmR {w : World} {v : Value} (l : List (Sv × Sgm)) (g : Nat) (c0 : Value) (p : (Sv × Sgm) → Bool) (hv : RowO w v sgP l) (hl : l.length ≤ 1000000000) (hg : ∀ (args : Array Value) (w : World), (callFunc g args).run Tryz.prog w = .ok (.enter g args) w)
  (hp : ∀ x ∈ l, ∀ w', Kp w w' n_ → Calls Tryz.prog g #[.agg (sgP x).toArray, c0] w' fun e w'' => e = .returned (.bool (p x)) ∧ Kp w' w'' n_) :
  Calls Tryz.prog 95 #[v, .func (.func g) #[] #[c0]] w fun e w' => e = .returned (.int .i64 (idxP p l)) ∧ Kp w w' n_ := by
 obtain ⟨a, cap, rfl, hr⟩ := hv
 refine zaa (args := [.slice a l.length cap, .func (.func g) #[] #[c0]]) Tryz.func95 rfl NL ?_; refine GW ?_
 refine Loop.intro (ι := Nat) (fun i => [(0, .slice a l.length cap), (1, .func (.func g) #[] #[c0]), (7, .int .i64 (l.length : Nat)), (8, .int .i64 (i : Nat))])
  (fun i wr => Kp w wr n_ ∧ i ≤ l.length ∧ ∀ j (h : j < l.length), j < i → p l[j] = false) (fun i => l.length - i) 0 ⟨rfl, rfl, rfl, rfl, trivial⟩ ⟨Kp.refl _ _, Nat.zero_le _, fun _ _ h => by omega⟩ ?_
 rintro i gg wr ⟨hK, hi, he⟩
 refine GW ?_
 by_cases hlt : i < l.length
 ·obtain ⟨gb, o, rfl, hgb, hat⟩ := hr (by omega)
  have hpc := hp l[i] (List.getElem_mem hlt) wr hK
  obtain ⟨q, hq⟩ : ∃ q, p l[i] = q := ⟨_, rfl⟩
  rw [hq] at hpc
  refine KGO ?_
  refine CallS.of (hg _ _) hpc ?_
  rintro e w1 ⟨rfl, k1⟩
  refine RT ?_
  cases q with
  | true =>
   refine KGO ?_
   exact ⟨by rw [zdo hlt hq he], hK.trans0 k1⟩
  | false =>
   refine KGO ?_
   exact ⟨i + 1, ⟨rfl, rfl, rfl, v_int (by simp), trivial⟩, ⟨hK.trans0 k1, by omega, fun j h hj => by
    rcases Nat.lt_or_ge j i with h' | h'
    ·exact he j h h'
    ·obtain rfl : j = i := by omega
     exact hq⟩, by dsimp only; omega⟩
 ·refine KGO ?_
  exact ⟨by rw [zdG fun j h => he j h (by omega)], hK⟩
theorem zsC {w : World} {v : Value} (l : List (Sv × Sgm)) (g : Nat) (p : (Sv × Sgm) → Bool) (hv : RowO w v sgP l) (hl : l.length ≤ 1000000000) (hg : ∀ (args : Array Value) (w : World), (callFunc g args).run Tryz.prog w = .ok (.enter g args) w)
  (hp : ∀ x ∈ l, ∀ w', Kp w w' n_ → Calls Tryz.prog g #[.agg (sgP x).toArray] w' fun e w'' => e = .returned (.bool (p x)) ∧ Kp w' w'' n_) :
  Calls Tryz.prog 95 #[v, .func (.func g) #[] #[]] w fun e w' => e = .returned (.int .i64 (idxP p l)) ∧ Kp w w' n_ := by
 obtain ⟨a, cap, rfl, hr⟩ := hv
 refine zaa (args := [.slice a l.length cap, .func (.func g) #[] #[]]) Tryz.func95 rfl NL ?_; refine GW ?_
 refine Loop.intro (ι := Nat) (fun i => [(0, .slice a l.length cap), (1, .func (.func g) #[] #[]), (7, .int .i64 (l.length : Nat)), (8, .int .i64 (i : Nat))])
  (fun i wr => Kp w wr n_ ∧ i ≤ l.length ∧ ∀ j (h : j < l.length), j < i → p l[j] = false) (fun i => l.length - i) 0 ⟨rfl, rfl, rfl, rfl, trivial⟩ ⟨Kp.refl _ _, Nat.zero_le _, fun _ _ h => by omega⟩ ?_
 rintro i gg wr ⟨hK, hi, he⟩
 refine GW ?_
 by_cases hlt : i < l.length
 ·obtain ⟨gb, o, rfl, hgb, hat⟩ := hr (by omega)
  have hpc := hp l[i] (List.getElem_mem hlt) wr hK
  obtain ⟨q, hq⟩ : ∃ q, p l[i] = q := ⟨_, rfl⟩
  rw [hq] at hpc
  refine KGO ?_
  refine CallS.of (hg _ _) hpc ?_
  rintro e w1 ⟨rfl, k1⟩
  refine RT ?_
  cases q with
  | true =>
   refine KGO ?_
   exact ⟨by rw [zdo hlt hq he], hK.trans0 k1⟩
  | false =>
   refine KGO ?_
   exact ⟨i + 1, ⟨rfl, rfl, rfl, v_int (by simp), trivial⟩, ⟨hK.trans0 k1, by omega, fun j h hj => by
    rcases Nat.lt_or_ge j i with h' | h'
    ·exact he j h h'
    ·obtain rfl : j = i := by omega
     exact hq⟩, by dsimp only; omega⟩
 ·refine KGO ?_
  exact ⟨by rw [zdG fun j h => he j h (by omega)], hK⟩
theorem zrv {w : World} {v : Value} {B : Nat} (l : List (Sv × Sgm)) (g : Nat) (p : (Sv × Sgm) → Bool) (ho : OwnSg w B v l) (hl : l.length ≤ 1000000000) (hg : ∀ (args : Array Value) (w : World), (callFunc g args).run Tryz.prog w = .ok (.enter g args) w)
  (hp : ∀ x ∈ l, ∀ w', Kp w w' (own_ v) → Calls Tryz.prog g #[.agg (sgP x).toArray] w' fun e w'' => e = .returned (.bool (p x)) ∧ Kp w' w'' n_) :
  Calls Tryz.prog 199 #[v, .func (.func g) #[] #[]] w fun e w' => ∃ v', e = .returned v' ∧ OwnSg w' B v' (l.filter fun x => !p x) ∧ Kp w w' (own_ v) ∧ (v'.ownBlock = v.ownBlock) := by
 obtain ⟨a, cap0, rfl⟩ := zab ho
 refine zaa (args := [.slice a l.length cap0, .func (.func g) #[] #[]]) Tryz.func199 rfl NL ?_; refine GW ?_
 refine CallS.of (Tryz.call95 _ _) (zsC l g p (zao ho) hl hg (fun x hx w' k => hp x hx w' k.of_none)) ?_
 rintro e w1 ⟨rfl, k1⟩
 refine RT ?_
 rcases idxP_lt p l with hi | ⟨i0, hi0, he0, hp0, hb0⟩
 ·rw [hi]
  refine KGO ?_
  refine ⟨_, rfl, ?_, k1.of_none, rfl⟩
  have hf : (l.filter fun x => !p x) = l := List.filter_eq_self.2 fun x hx => by
   have h : ¬ l.any p = true := fun h => by have := (zeF p l).2 h; omega
   have := List.any_eq_false.1 (by simpa using h) x hx
   simpa using this
  rw [hf]
  exact zac ho k1
 rw [he0]
 rcases own_blockK ho with ⟨hnil, h0⟩ | ⟨gb, cap, cells0, hev, hBg, hv0, hnc, hcm, hcl0, htk0⟩
 ·omega
 injection hev with hev _ hcc
 subst hev; subst hcc
 have hgk : gb < w1.heap.size := Nat.lt_of_lt_of_le hv0.lt k1.size
 have ho1 := zac ho k1
 have hfl0 : ((l.take (i0 + 1)).filter fun x => !p x) = l.take i0 := by
  rw [zcu hi0, hp0]
  have : (l.take i0).filter (fun x => !p x) = l.take i0 := List.filter_eq_self.2 fun x hx => by
   obtain ⟨j, hj, rfl⟩ := List.mem_take_iff_getElem.1 hx
   rw [hb0 j (by omega)]; rfl
  rw [this]; simp
 refine KGO ?_
 refine Loop.intro (ι := Nat × Nat × List (Sv × Sgm)) (fun q => [(0, .slice (some ⟨gb, 0, none⟩) l.length cap0), (1, .func (.func g) #[] #[]), (5, .int .i64 (q.1 : Nat)), (6, .int .i64 (q.2.1 : Nat))])
  (fun q wr => Kp w wr (one_ gb) ∧ q.2.1 ≤ l.length ∧ q.1 < q.2.1 ∧ q.2.2.length = l.length ∧ q.2.2.take q.1 = ((l.take q.2.1).filter fun x => !p x) ∧ q.2.2.drop q.2.1 = l.drop q.2.1 ∧ OwnSg wr B (.slice (some ⟨gb, 0, none⟩) q.2.2.length cap0) q.2.2)
  (fun q => l.length - q.2.1) (i0, i0 + 1, l) ⟨rfl, rfl, rfl, v_int (by simp), trivial⟩ ⟨k1.of_none, by dsimp only; omega, by dsimp only; omega, rfl, by dsimp only; rw [hfl0], rfl, ho1⟩ ?_
 clear ho1 hfl0 hb0 hp0 he0 hi0 i0
 rintro ⟨i, j, cur⟩ gg wr ⟨hK, hj, hij, hcl2, htk2, hdr2, ho2⟩
 dsimp only at hj hij hcl2 htk2 hdr2 ho2 ⊢
 rcases own_blockK ho2 with ⟨h, h0⟩ | ⟨g2, cap, cells, hev, hBg2, hv, hnc2, hcm2, hcl, htk⟩
 ·cases h
 injection hev with hev _ hcc
 injection hev with hev
 injection hev with hev
 subst hev; subst hcc
 have hrow := zds ho2
 have kr := Kp.refl wr n_
 refine GW ?_
 by_cases hlt : j < l.length
 ·have hcj : cur[j]'(by omega) = l[j] := by
   have h1 : (cur.drop j)[0]? = (l.drop j)[0]? := by rw [hdr2]
   rw [List.getElem?_drop, List.getElem?_drop, Nat.add_zero, List.getElem?_eq_getElem (by omega), List.getElem?_eq_getElem hlt] at h1
   exact Option.some.inj h1
  have hfs := zcu (p := fun x => !p x) hlt
  have hjc : j < cur.length := by omega
  obtain ⟨q, hq⟩ : ∃ q, p l[j] = q := ⟨_, rfl⟩
  have hmx := List.getElem_mem hlt
  rw [hq] at hfs
  refine KGO ?_
  rw [hcj]
  generalize hxj : l[j] = x at *
  refine Store.fresh (vs := sgP x) (by rfl) rfl (zar (by rfl)) ?_
  obtain ⟨a_b7, k_wv, z_wv⟩ := new3 wr 65 (sgP x)
  generalize wr.alloc (.cells (List.toArray (sgP x)) 65) = wv at *
  generalize hs_b7 : wr.heap.size = b7 at *
  refine KGO ?_
  have hpc := hp x hmx wv ((hK.trans0 k_wv).mono fun q _ hq => by have hq : q = gb := hq; rw [hq]; rfl)
  rw [hq] at hpc
  refine CallS.of (hg _ _) hpc ?_
  rintro e w1 ⟨rfl, k1⟩
  refine RT ?_
  cases q with
  | true =>
   refine KGO ?_
   refine ⟨(i, j + 1, cur), ⟨rfl, rfl, rfl, v_int (by simp), trivial⟩, ⟨(hK.trans0 k_wv).trans0 k1, by dsimp only; omega, by dsimp only; omega, hcl2, ?_, ?_, zac (zac ho2 k_wv) k1⟩, by dsimp only; omega⟩
   ·dsimp only
    rw [hfs, htk2]; simp
   ·dsimp only
    rw [← List.drop_drop, hdr2, List.drop_drop]
  | false =>
   refine KGO ?_
   have hv := (hv.keep0 k_wv).keep0 k1
   refine Store.elemK (l := cur) (k := i) (B := B) (cap := cap0) x lenSg (by rfl) (zar (by rfl)) hv hBg (by omega) hcm hcl htk (by omega) fun w2 o2 v2 k2 => ?_
   refine KGO ?_
   have hil : i < cur.length := by omega
   refine ⟨(i + 1, j + 1, cur.set i x), ⟨rfl, rfl, v_int (by simp), v_int (by simp), trivial⟩, ⟨(hK.trans0 k_wv).trans' (k1.of_none.trans' k2), by dsimp only; omega, by dsimp only; omega, by dsimp only; rw [List.length_set]; exact hcl2, ?_, ?_, ?_⟩, by dsimp only; omega⟩
   ·dsimp only
    rw [hfs, ← htk2, List.take_succ_eq_append_getElem (by rw [List.length_set]; exact hil), List.getElem_set_self, List.take_set_of_le (Nat.le_refl _)]
    simp
   ·dsimp only
    rw [List.drop_set_of_lt (by omega), ← List.drop_drop, hdr2, List.drop_drop]
   ·dsimp only
    unfold OwnSg
    rw [List.length_set]
    exact o2
 ·have hjl : j = l.length := by omega
  subst hjl
  rw [List.take_length] at htk2
  have hil : i < cur.length := by omega
  refine KGO ?_
  rw [if_neg (by omega : ¬ i = cap0)]
  refine RunN.clearK (s := 2) (n := l.length - i) Tryz.underlying56 infoSg rfl (by intro u hu; simp [Value.cells] at hu; first | (subst hu; rfl) | (rcases hu with rfl | rfl <;> rfl)) hv (by first | (rw [hcl]; omega) | omega) fun w3 zs hzl v3 k3 => ?_
  refine KGO ?_
  have hle : (l.filter fun x => !p x).length = i := by rw [← htk2, List.length_take]; omega
  rw [if_neg (by omega : ¬ 0 = cap0), Nat.sub_zero, Nat.sub_zero]
  refine ⟨_, rfl, ?_, ((hK.trans' k3).mono fun q _ hq => by have hq : q = gb := hq; rw [hq]; rfl), rfl⟩
  have htA : cells.take (0 + i * 2) = (l.filter fun x => !p x).flatMap sgP := by
   rw [Nat.zero_add, ← htk2, ← zbs sgP 2 lenSg, ← htk, List.take_take, Nat.min_eq_left (by omega)]
  have hlA : ((l.filter fun x => !p x).flatMap sgP).length = i * 2 := by rw [zaV sgP 2 lenSg, hle]
  first | rw [htA] at v3 | (rw [show 0 + i * 2 = 0 + i by omega] at htA; rw [htA] at v3)
  unfold OwnSg
  rw [hle]
  refine zbG hBg v3 (by omega) hcm2 ?_ ?_ hlA
  ·rw [List.length_append, List.length_append, hlA, hzl, List.length_drop]; omega
  ·rw [List.append_assoc, ← hlA, List.take_left]
end Go.Proofs.YtennokckmjcefaaGreatDoor
namespace Go.Proofs.YtennokckmjcefaaGreatDoor
open Go.Shelf Go.RowKit Go.Pw Go.Vc Go.Cs Go.Lib
section
end
end Go.Proofs.YtennokckmjcefaaGreatDoor
