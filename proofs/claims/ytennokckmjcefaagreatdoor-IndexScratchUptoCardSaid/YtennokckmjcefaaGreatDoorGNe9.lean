/- Helper lemmas that the proved statement rests on; no conditions of their own. -/
import Derived.Shelf.SlLaysF0
import Derived.Shelf.GgSortFunc.InsertionK
import Derived.Shelf.SlSortCmp.NoneTotal
import Derived.Test.YtennokckmjcefaaGreatDoorGNd2
set_option linter.unusedVariables false
set_option maxHeartbeats 8000000
set_option maxRecDepth 100000
namespace Go.Proofs.YtennokckmjcefaaGreatDoor
open Go.Shelf Go.RowKit Go.Pw Go.Vc Go.Cs Go.Lib Go.Cd Go.Mg
def wtT (t : Trm) : Nat := t.word.length + t.list.length + 1
def wtL (l : List Trm) : Nat := (l.map wtT).sum
theorem zpz (l : List Trm) (t : Trm) : wtL (l ++ [t]) = wtL l + wtT t := by unfold wtL; rw [List.map_append, List.sum_append]; simp
theorem zku (n : Nat) (s : St) : (takeR n s).1.length + stL (takeR n s).2 ≤ stL s := by
 cases s with
 | none => exact Nat.le_refl _
 | some u =>
  unfold takeR
  dsimp only
  split
  ·simp only [stL, List.length_take, List.length_drop]; omega
  ·exact Nat.zero_le _
theorem zlA (s : St) : (textR s).1.length + stL (textR s).2 ≤ stL s := by
 have h1 := zku (numR s).1 (numR s).2
 have h2 := zcF s
 unfold textR
 omega
theorem zqG {s : St} (h : stL s ≠ 0) : wtT (termR s).1 + stL (termR s).2 ≤ stL s := by
 have h1 := zcZ h
 have h2 := zlA (numR s).2
 have h3 := zlA (textR (numR s).2).2
 unfold termR wtT
 dsimp only
 omega
theorem zkh : ∀ (k : Nat) (s : St), (numsG k s).1.length + stL (numsG k s).2 ≤ stL s
 | 0, s => by unfold numsG; simp
 | k + 1, s => by
  unfold numsG
  cases hq : numR s with
  | mk n r =>
   cases r with
   | none => exact Nat.zero_le _
   | some r =>
    have ih := zkh k (some r)
    have hl : stL (some r) < stL s := by
     have hs : stL s ≠ 0 := fun e => by
      cases s with
      | none => rw [show numR none = (0, none) from rfl] at hq; cases hq
      | some u =>
       obtain rfl : u = [] := List.eq_nil_of_length_eq_zero e
       rw [show numR (some []) = (0, none) from rfl] at hq; cases hq
     have := zcZ hs
     rw [hq] at this
     exact this
    dsimp only
    cases hg : numsG k (some r) with
    | mk l s' =>
     rw [hg] at ih
     dsimp only at ih ⊢
     rw [List.length_cons]; omega
theorem zkO (s : St) : (numsR s).1.length + stL (numsR s).2 ≤ stL s := by
 unfold numsR
 have h0 := zcF s
 cases hq : numR s with
 | mk n r =>
  cases r with
  | none => exact Nat.zero_le _
  | some r =>
   rw [hq] at h0
   dsimp only at h0 ⊢
   split
   ·exact Nat.zero_le _
   ·have h1 := zkh n (some r)
    cases hg : numsG n (some r) with
    | mk l s' =>
     rw [hg] at h1
     cases s' with
     | none => exact Nat.zero_le _
     | some x => dsimp only at h1 ⊢; omega
theorem zmy {l : List Trm} : ∀ t ∈ l, wtT t ≤ wtL l := by
 unfold wtL
 induction l with
 | nil => intro t h; cases h
 | cons a l ih =>
  intro t h
  rw [List.map_cons, List.sum_cons]
  rcases List.mem_cons.1 h with rfl | h
  ·omega
  ·have := ih t h; omega
theorem zob (l : List Trm) : l.length ≤ wtL l := by
 unfold wtL
 induction l with
 | nil => exact Nat.le_refl _
 | cons a l ih => rw [List.map_cons, List.sum_cons, List.length_cons]; unfold wtT at *; omega
theorem zru {s : Sgm} {c : Nat} (hw : wtL s.terms ≤ c) (hd : s.docs.length ≤ c) (hc : c ≤ 1000000000) : (serS s).length ≤ 18 + 40 * c := by
 unfold serS
 split
 ·rename_i h
  obtain ⟨⟨_, r0⟩, r2, _⟩ := zan.1 h
  have h1 : (numsE (toN s.docs)).length ≤ 9 + 9 * s.docs.length := by
   unfold numsE
   have hl : (toN s.docs).length = s.docs.length := by unfold toN; exact List.length_map _
   have h2 := zaC (n := (toN s.docs).length) (by omega)
   have h3 := zbV (toN s.docs) fun n hn => by
    obtain ⟨d, hd, rfl⟩ := List.mem_map.1 hn
    have := r0 d hd
    omega
   rw [List.length_append]; omega
  have ht := zob s.terms
  have h2 := zaC (n := s.terms.length) (by omega)
  have h3 : ∀ l : List Trm, (∀ t ∈ l, t ∈ s.terms) → (l.flatMap termE).length ≤ 28 * wtL l := by
   intro l
   induction l with
   | nil => intro _; exact Nat.zero_le _
   | cons a l ih =>
    intro hm
    have i1 := ih fun t ht => hm t (List.mem_cons_of_mem _ ht)
    have ha := hm a List.mem_cons_self
    have i2 := zmy a ha
    have hok := r2 a ha
    unfold okTerm at hok
    rw [Bool.and_eq_true, Bool.and_eq_true] at hok
    have hf := of_decide_eq_true hok.1.1
    have j1 := zaC (n := a.field.toNat) (by omega)
    have j2 := zcs (u := a.word) (by unfold wtT at i2; omega)
    have j3 := zcs (u := a.list) (by unfold wtT at i2; omega)
    have j4 : (termE a).length = (numE a.field.toNat).length + ((textE a.word).length + (textE a.list).length) := by unfold termE; rw [List.length_append, List.length_append]
    unfold wtL at i1 ⊢
    rw [List.flatMap_cons, List.length_append, List.map_cons, List.sum_cons]
    unfold wtT
    unfold wtT at i1
    omega
  have h4 := h3 s.terms fun t h => h
  rw [List.length_append, List.length_append]
  omega
 ·exact Nat.zero_le _
theorem zoS (a : Option Addr) (n c : Nat) (w : World) : (Instr.build 65 [(1, .slice a n c)].toArray).run Tryz.prog w = .ok (.agg #[.slice none 0 0, .slice a n c]) w := by
 simp [Instr.build, go_sem, Tryz.runUnderlying65]
theorem build0W (w : World) : (Instr.build 65 #[]).run Tryz.prog w = .ok (.agg #[.slice none 0 0, .slice none 0 0]) w := by
 simp [Instr.build, go_sem, Tryz.runUnderlying65]
def zeroSv : Sv := ⟨⟨none, 0, 0⟩, ⟨none, 0, 0⟩⟩
section
variable {w : World}
theorem zrD (u : List UInt8) (hu : u.length ≤ 10000000) (hE : CEnv w) : Calls Tryz.prog 53 #[.string (str u)] w fun e w' =>
  (∃ h', e = .returned (.tuple #[.agg (sgC h').toArray, .bool (readS u).isSome]) ∧ ∀ s, readS u = some s → OwS w' w.heap.size h' s) ∧ Kp w w' n_ := by
 refine zaa (args := [.string (str u)]) Tryz.func53 rfl NL ?_; refine GW ?_
 obtain ⟨a_b2, v_b2, k_w1, z_w1, r_w1⟩ := new5 w 65 ([.slice none 0 0, .slice none 0 0])
 generalize w.alloc (.cells (List.toArray ([.slice none 0 0, .slice none 0 0])) 65) = w1 at *
 generalize hs_b2 : w.heap.size = b2 at *
 refine KGO ?_
 refine CallS.of (Tryz.call50 _ _) (zjz (w := w1) (str u)) ?_
 rintro e w2 ⟨rfl, h2, k2⟩
 have hstr : L (str u) = u := rfl
 rw [hstr] at h2
 obtain ⟨rb, hrb⟩ : ∃ rb, w1.heap.size = rb := ⟨_, rfl⟩
 rw [hrb] at h2 ⊢
 have K2 := k_w1.trans0 k2
 have vb2 := v_b2.keep0 k2
 have z2 := K2.size
 refine RT ?_
 refine KGO ?_
 refine CallS.of (Tryz.call55 _ _) (zke (w := w2) (some u) h2 (by show u.length ≤ _; omega)) ?_
 rintro e w3 ⟨v3, rfl, o3, h3, k3⟩
 have vb3 := vb2.keep k3 (show ¬ b2 = rb by omega)
 have K3 : Kp w w3 n_ := zah K2 k3 (by omega)
 have hpar : parS u = (⟨(termsR (numR (numsR (some u)).2).1 (numR (numsR (some u)).2).2).1, iL (numsR (some u)).1⟩, (termsR (numR (numsR (some u)).2).1 (numR (numsR (some u)).2).2).2) := rfl
 have hwd := zkO (some u)
 rw [show stL (some u) = u.length from rfl] at hwd
 generalize numsR (some u) = q at *
 obtain ⟨D, s1⟩ := q
 dsimp only at o3 h3 hpar hwd ⊢
 obtain ⟨da, dc, rfl⟩ := zab o3
 rw [zdc] at *
 refine RT ?_
 refine KGO ?_
 refine RunV.of (zoS _ _ _ _) ?_
 refine KGO ?_
 have v_b5 := VarK.new w3 65 [.slice none 0 0, .slice da D.length dc]
 refine Store.fresh (vs := [.slice none 0 0, .slice da D.length dc]) (by rfl) rfl (zar (by rfl)) ?_
 obtain ⟨a_b5, k_w4, z_w4⟩ := new3 w3 65 ([.slice none 0 0, .slice da D.length dc])
 generalize w3.alloc (.cells (List.toArray ([.slice none 0 0, .slice da D.length dc])) 65) = w4 at *
 generalize hs_b5 : w3.heap.size = b5 at *
 have h4 := h3.keep0 k_w4
 have vb4 := vb3.keep0 k_w4
 have o4 := zac o3 k_w4
 have K4 := K3.trans0 k_w4
 refine KGO ?_
 have hu1 : ∀ x, s1 = some x → x.length ≤ 140737488355328 := fun x e => by subst e; simp only [stL] at hwd; omega
 refine CallS.of (Tryz.call51 _ _) (zcl s1 h4 hu1) ?_
 rintro e w5 ⟨rfl, h5, k5⟩
 have hn63 := zci s1
 have hnl := zcF s1
 have z3 := K3.size
 have hrb5 : rb < b5 := by have := h3.lt; omega
 have v55 := v_b5.keep k5 (show ¬ b5 = rb by omega)
 have vb5 := vb4.keep k5 (show ¬ b2 = rb by omega)
 have o5 := zag (D := [3]) o4 k5 (zaj h4 (by decide)) (by decide)
 have K5 : Kp w w5 n_ := zah K4 k5 (by omega)
 generalize numR s1 = q at *
 obtain ⟨n0, s2⟩ := q
 dsimp only at h5 hpar hn63 hnl ⊢
 refine RT ?_
 clear h2 h3 h4 k2 k3 k5 vb2 vb3 vb4 o3 o4 K2 K3 K4 v_b5 v_b2 a_b2 a_b5 hu1
 refine Loop.intro (ι := St × Sl × List Trm) (fun q => [(0, .string (str u)), (2, .pointer (some ⟨b2, 0, none⟩)), (4, .pointer (some ⟨rb, 0, none⟩)), (5, .pointer (some ⟨b5, 0, none⟩)), (6, .int .i64 (n0 : Nat))])
  (fun q wr => Kp w wr n_ ∧ VarK wr b2 65 [.slice none 0 0, .slice none 0 0] ∧ VarK wr rb 139 (rdC q.1) ∧ VarK wr b5 65 [.slice q.2.1.a q.2.1.n q.2.1.c, .slice da D.length dc] ∧ OwnR 141 tmC 3 wr w.heap.size q.2.1.v q.2.2 ∧ OwnI wr w.heap.size (.slice da D.length dc) (iL D) ∧ q.2.2.length ≤ n0 ∧ q.2.2 ++ (termsR (n0 - q.2.2.length) q.1).1 = (termsR n0 s2).1 ∧ (termsR (n0 - q.2.2.length) q.1).2 = (termsR n0 s2).2 ∧ wtL q.2.2 + stL q.1 ≤ u.length)
  (fun q => n0 - q.2.2.length) (s2, ⟨none, 0, 0⟩, []) ⟨rfl, rfl, rfl, rfl, rfl, trivial⟩ ⟨K5, vb5, h5, v55, World.ownsRow_nil _ _ _ _, zax o5 (by omega), Nat.zero_le _, by simp, by simp, by show 0 + stL s2 ≤ _; omega⟩ ?_
 clear h5 v55 vb5 o5 K5 k_w4 k_w1
 rintro ⟨st, so, ts⟩ gg wr ⟨hK, hv2, hv, h5, ho, hod, htl, ht1, ht2, hwt⟩
 dsimp only at hv h5 ho hod htl ht1 ht2 hwt ⊢
 obtain ⟨aj, cj, ej⟩ := zab ho
 obtain ⟨ja, jn, jc⟩ := so
 injection ej with e1 e2 e3
 dsimp only at e1 e2 e3
 subst e1 e2 e3
 dsimp only at h5 ho
 have a5 := h5.at
 have htw := zob ts
 have zr := hK.size
 have qr := Kp.refl wr n_
 refine GW ?_
 by_cases hx : ts.length < n0 ∧ stL st ≠ 0
 ·obtain ⟨hlt, hs0⟩ := hx
  obtain ⟨k, hk⟩ : ∃ k, n0 - ts.length = k + 1 := ⟨n0 - ts.length - 1, by omega⟩
  rw [hk, termsR, if_neg hs0] at ht1 ht2
  dsimp only at ht1 ht2
  have hwr := zqG hs0
  have htr : termR st = (⟨((numR st).1 : Nat), (textR (numR st).2).1, (textR (textR (numR st).2).2).1⟩, (textR (textR (numR st).2).2).2) := rfl
  have hsu : ∀ s x, s = some x → stL s ≤ stL st → x.length ≤ 140737488355328 := fun s x e h => by subst e; have h : x.length ≤ stL st := h; omega
  have l1 := zcF st
  have l2 := (zpM (numR st).2).2
  refine KGO ?_
  refine CallS.of (Tryz.call52 _ _) (zeA (w := wr) st hv) ?_
  rintro e w6 ⟨rfl, k6⟩
  have hv6 := hv.keep0 k6
  have h56 := h5.keep0 k6
  have hv26 := hv2.keep0 k6
  have ho6 := zac ho k6
  have hod6 := zac hod k6
  have K6 := hK.trans0 k6
  have hown : ∀ q, own_ (.slice ja ts.length jc) q → w.heap.size ≤ q := fun q e => (ho6.lt q e).1
  have hn5 : ¬ own_ (.slice ja ts.length jc) b5 := zae ho6 h56 (by decide)
  have hnr : ¬ own_ (.slice ja ts.length jc) rb := zae ho6 hv6 (by decide)
  have hn2 : ¬ own_ (.slice ja ts.length jc) b2 := zae ho6 hv26 (by decide)
  have hS5 : ∀ v, Kp w6 v (fun q => q = rb ∨ own_ (.slice ja ts.length jc) q) → At v b5 0 [.slice ja ts.length jc, .slice da D.length dc] := fun v hv => zaH h56.at hv fun e => e.elim (fun e => by omega) hn5
  clear hv h5 hv2 ho hod a5 k6
  refine RT ?_
  refine KGO ?_
  refine Draw.heldEnd (fun v => Kp w6 v (fun q => q = rb ∨ own_ (.slice ja ts.length jc) q)) (fun _ => true) (by simp) (by decide +kernel) (by decide +kernel) (Kp.refl _ _).drew ?_
  refine KGO ?_
  refine Held.one (by rfl) (fun v hv => hS5 v hv 0 _ rfl) ?_
  refine KGO ?_
  have kd := (Kp.refl w6 n_).drew
  refine CallS.of (Tryz.call51 _ _) (zcl (w := w6.drew) st (hv6.keep0 kd) (fun x e => hsu st x e (Nat.le_refl _))) ?_
  rintro e w7 ⟨rfl, h7, k7⟩
  have S7 : Kp w6 w7 (one_ rb) := kd.of_none.trans' k7
  refine RT ?_
  refine ⟨S7.mono fun q _ e => .inl e, ?_⟩
  refine KGO ?_
  refine CallS.of (Tryz.call54 _ _) (zhl (w := w7) (numR st).2 h7 (fun x e => hsu _ x e l1)) ?_
  rintro e w8 ⟨rfl, h8, k8⟩
  have S8 := S7.trans' k8
  refine RT ?_
  refine ⟨S8.mono fun q _ e => .inl e, ?_⟩
  refine KGO ?_
  refine CallS.of (Tryz.call54 _ _) (zhl (w := w8) (textR (numR st).2).2 h8 (fun x e => hsu _ x e (by omega))) ?_
  rintro e w9 ⟨rfl, h9, k9⟩
  have S9 := S8.trans' k9
  refine RT ?_
  refine ⟨S9.mono fun q _ e => .inl e, ?_⟩
  rw [htr] at ht1 ht2 hwr
  dsimp only at ht1 ht2 hwr
  generalize (numR st).1 = fN at *
  generalize (textR (textR (numR st).2).2).1 = lsN at *
  generalize (textR (textR (numR st).2).2).2 = stN at *
  generalize (textR (numR st).2).1 = wdN at *
  refine KGO ?_
  refine RunV.of (zhS (fN : Nat) (str wdN) (str lsN) _) ?_
  refine KGO ?_
  refine RunV.of (bs1Tm ⟨(fN : Nat), wdN, lsN⟩ _) ?_
  obtain ⟨a_b10, v_b10, k_w10, z_w10, r_w10⟩ := new5 w9 141 (tmC ⟨(fN : Nat), wdN, lsN⟩)
  generalize w9.alloc (.cells (List.toArray (tmC ⟨(fN : Nat), wdN, lsN⟩)) 141) = w10 at *
  generalize hs_b10 : w9.heap.size = b10 at *
  have S10 := S9.trans' k_w10.of_none
  refine ⟨S10.mono fun q _ e => .inl e, ?_⟩
  have ho10 := zac (zag (D := [141]) ho6 S9 (zaj hv6 (by decide)) (by decide)) k_w10
  have hod10 := zac (zag (D := [3]) hod6 S9 (zaj hv6 (by decide)) (by decide)) k_w10
  have h10 := h9.keep0 k_w10
  have h510 := (h56.keep S9 (show ¬ b5 = rb by omega)).keep0 k_w10
  have h210 := (hv26.keep S9 (show ¬ b2 = rb by omega)).keep0 k_w10
  have K10 : Kp w w10 n_ := (K6.trans S10 fun q hq e => by have e : q = rb := e; omega)
  have z10 := K10.size
  refine KGO ?_
  refine tyTm.app1 ⟨(fN : Nat), wdN, lsN⟩ ho10 (by omega) a_b10 (by omega) (by omega) fun v11 w11 o11 k11 => ?_
  have h511 := h510.keep k11 hn5
  have h11 := h10.keep k11 hnr
  have h211 := h210.keep k11 hn2
  have hod11 := zag (D := [3]) hod10 k11 (zaG ho10 (by decide)) (by decide)
  have K11 := zaE ho10 k11 K10 (Nat.le_refl _)
  obtain ⟨a11, c11, rfl⟩ := zab o11
  refine ⟨(S10.mono fun q _ e => .inl e).trans' (k11.mono fun q _ e => .inr e), ?_⟩
  refine KGO ?_
  refine Store.cellK (i := 0) h511 (by simp) (by rfl) ⟨rfl, by simp, by simp⟩ fun w12 v12 k12 => ?_
  refine KGO ?_
  refine ⟨(stN, ⟨a11, _, c11⟩, ts ++ [⟨(fN : Nat), wdN, lsN⟩]), ⟨rfl, rfl, rfl, rfl, rfl, trivial⟩, ⟨zah K11 k12 (by omega), h211.keep k12 (show ¬ b2 = b5 by omega), h11.keep k12 (show ¬ rb = b5 by omega), v12, zag (D := [141]) o11 k12 (zaj h511 (by decide)) (by decide), zag (D := [3]) hod11 k12 (zaj h511 (by decide)) (by decide), ?_, ?_, ?_, ?_⟩, ?_⟩
  ·dsimp only; rw [List.length_append, List.length_singleton]; omega
  ·dsimp only; rw [List.length_append, List.length_singleton, show n0 - (ts.length + 1) = k by omega, List.append_assoc]; exact ht1
  ·dsimp only; rw [List.length_append, List.length_singleton, show n0 - (ts.length + 1) = k by omega]; exact ht2
  ·dsimp only; rw [zpz]; omega
  ·dsimp only; rw [List.length_append, List.length_singleton]; omega
 have hfin : ts = (termsR n0 s2).1 ∧ st = (termsR n0 s2).2 := by
  by_cases hlt : ts.length < n0
  ·have hs0 : stL st = 0 := Decidable.byContradiction fun h => hx ⟨hlt, h⟩
   have : termsR (n0 - ts.length) st = ([], st) := by
    obtain ⟨k, hk⟩ : ∃ k, n0 - ts.length = k + 1 := ⟨n0 - ts.length - 1, by omega⟩
    rw [hk, termsR, if_pos hs0]
   rw [this] at ht1 ht2
   exact ⟨by rw [← ht1]; simp, ht2⟩
  ·have : termsR (n0 - ts.length) st = ([], st) := by rw [show n0 - ts.length = 0 by omega]; rfl
   rw [this] at ht1 ht2
   exact ⟨by rw [← ht1]; simp, ht2⟩
 rw [← hfin.1, ← hfin.2] at hpar
 clear hfin ht1 ht2
 have hrd : readS u = if st = some [] ∧ rightS ⟨ts, iL D⟩ = true ∧ serS ⟨ts, iL D⟩ = u then some ⟨ts, iL D⟩ else none := by unfold readS; rw [hpar]
 have hil : (iL D).length = D.length := zdc D
 have hsm : SmS ⟨ts, iL D⟩ := ⟨by dsimp only; omega, by dsimp only; omega, fun t ht => by
  have : wtT t ≤ wtL ts := zmy t ht
  unfold wtT at this
  exact ⟨by omega, by omega⟩⟩
 have hsl : (serS ⟨ts, iL D⟩).length ≤ 1000000000000 := Nat.le_trans (zru (c := u.length) (by dsimp only; omega) (by dsimp only; omega) (by omega)) (by omega)
 have hdu : ∀ x, st = some x → x.length ≤ 140737488355328 := fun x e => by subst e; simp only [stL] at hwt; omega
 have hb2w : w.heap.size ≤ b2 := by omega
 have hDl : D.length ≤ 10000000 := by omega
 clear hpar hwd hnl htl
 by_cases hlt : ts.length < n0
 rotate_left
 refine KGO ?_
 clear a5 qr
 generalize wr = wz at *
 rotate_left
 have hs0 : stL st = 0 := Decidable.byContradiction fun h => hx ⟨hlt, h⟩
 refine KGO ?_
 refine CallS.of (Tryz.call52 _ _) (zeA (w := wr) st hv) ?_
 rintro e wz ⟨rfl, kz⟩
 replace hv := hv.keep0 kz
 replace h5 := h5.keep0 kz
 replace hv2 := hv2.keep0 kz
 replace ho := zac ho kz
 replace hod := zac hod kz
 replace hK := hK.trans0 kz
 clear a5 qr kz
 refine RT ?_
 refine KGO ?_
 all_goals
  clear hx hlt
  refine CallS.of (Tryz.call56 _ _) (zhI (w := wz) st hv hdu) ?_
  rintro e w6 ⟨rfl, k6⟩
  have K6 := hK.trans0 k6
  have h56 := h5.keep0 k6
  have hv26 := hv2.keep0 k6
  have os6 : OwS w6 w.heap.size ⟨⟨ja, ts.length, jc⟩, ⟨da, D.length, dc⟩⟩ ⟨ts, iL D⟩ := ⟨zac ho k6, zac hod k6⟩
  have a56 := h56.at
  have q6 := Kp.refl w6 n_
  clear hv h5 hv2 ho hod hK k6
  refine RT ?_
  by_cases hdone : st = some []
  rotate_left
  ·have hno : readS u = none := by rw [hrd]; exact if_neg fun h => hdone h.1
   rw [decide_eq_false hdone]
   refine KGO ?_
   refine RunV.of (build0W _) ?_
   refine KGO ?_
   refine Store.varK [.slice none 0 0, .slice none 0 0] hv26 (by rfl) rfl (zar (by rfl)) fun wy v2y k2y => ?_
   have a2y := v2y.at
   have qy := Kp.refl wy n_
   refine KGO ?_
   refine GW ?_
   refine KGO ?_
   refine GW ?_
   exact ⟨⟨zeroSv, by rw [hno]; rfl, fun s h => by rw [hno] at h; cases h⟩, zah K6 k2y hb2w⟩
  rw [decide_eq_true hdone]
  refine KGO ?_
  refine CallS.of (Tryz.call116 _ _) (zfb (w := w6) ⟨⟨ja, ts.length, jc⟩, ⟨da, D.length, dc⟩⟩ ⟨ts, iL D⟩ os6.rd hsm (hE.keep K6)) ?_
  rintro e w7 ⟨rfl, k7⟩
  have K7 := K6.trans0 k7
  have h57 := h56.keep0 k7
  have hv27 := hv26.keep0 k7
  have os7 := os6.keep k7
  have a57 := h57.at
  have q7 := Kp.refl w7 n_
  refine RT ?_
  cases hri : rightS ⟨ts, iL D⟩ with
  | false =>
   have hno : readS u = none := by rw [hrd]; exact if_neg fun h => by rw [hri] at h; cases h.2.1
   refine KGO ?_
   refine RunV.of (build0W _) ?_
   refine KGO ?_
   refine Store.varK [.slice none 0 0, .slice none 0 0] hv27 (by rfl) rfl (zar (by rfl)) fun wy v2y k2y => ?_
   have a2y := v2y.at
   have qy := Kp.refl wy n_
   refine KGO ?_
   refine GW ?_
   refine KGO ?_
   refine GW ?_
   exact ⟨⟨zeroSv, by rw [hno]; rfl, fun s h => by rw [hno] at h; cases h⟩, zah K7 k2y hb2w⟩
  | true =>
  clear a56 q6 os6 h56 hv26 K6
  refine KGO ?_
  refine CallS.of (Tryz.call69 _ _) (zlh (w := w7) ⟨⟨ja, ts.length, jc⟩, ⟨da, D.length, dc⟩⟩ ⟨ts, iL D⟩ os7.rd hsm (hE.keep K7) (by dsimp only; omega) hsl) ?_
  rintro e w8 ⟨rfl, k8⟩
  have K8 := K7.trans0 k8
  have h58 := h57.keep0 k8
  have hv28 := hv27.keep0 k8
  have os8 := os7.keep k8
  have a58 := h58.at
  have q8 := Kp.refl w8 n_
  clear a57 q7 os7 h57 hv27 K7
  refine RT ?_
  by_cases heq : serS ⟨ts, iL D⟩ = u
  rotate_left
  ·have hno : readS u = none := by rw [hrd]; exact if_neg fun h => heq h.2.2
   refine KGO ?_
   refine Br.dec_no (fun h => heq (zcD.1 h)) ?_
   refine GW ?_
   refine KGO ?_
   refine RunV.of (build0W _) ?_
   refine KGO ?_
   refine Store.varK [.slice none 0 0, .slice none 0 0] hv28 (by rfl) rfl (zar (by rfl)) fun wy v2y k2y => ?_
   have a2y := v2y.at
   have qy := Kp.refl wy n_
   refine KGO ?_
   refine GW ?_
   refine KGO ?_
   refine GW ?_
   exact ⟨⟨zeroSv, by rw [hno]; rfl, fun s h => by rw [hno] at h; cases h⟩, zah K8 k2y hb2w⟩
  have hyes : readS u = some ⟨ts, iL D⟩ := by rw [hrd]; exact if_pos ⟨hdone, hri, heq⟩
  rw [heq]
  refine KGO ?_
  refine SVK (sgC ⟨⟨ja, ts.length, jc⟩, ⟨da, D.length, dc⟩⟩) hv28 fun wy v2y k2y => ?_
  have a2y := v2y.at
  have qy := Kp.refl wy n_
  refine KGO ?_
  refine GW ?_
  refine KGO ?_
  refine GW ?_
  refine ⟨⟨⟨⟨ja, ts.length, jc⟩, ⟨da, D.length, dc⟩⟩, by rw [hyes]; rfl, fun s h => ?_⟩, zah K8 k2y hb2w⟩
  rw [hyes] at h
  injection h with h
  subst h
  exact ⟨zax (zag (D := [141]) os8.t k2y (zaj hv28 (by decide)) (by decide)) (by omega), zax (zag (D := [3]) os8.d k2y (zaj hv28 (by decide)) (by decide)) (by omega)⟩
end
structure Iw (x : Ix) (N Q Z : Nat) : Prop where
 ok : IxOk x
 wt : WtS 4000 x.segs N Q
 z : zX x.segs ≤ Z
theorem Iw.b {x : Ix} {N Q Z : Nat} (h : Iw x N Q Z) (hN : N ≤ 1000) (hQ : Q ≤ 20000) : IxB x := by
 obtain ⟨h1, h2, _, _⟩ := zlv h.ok h.wt
 exact ⟨h.ok, by omega, by omega, fun s hs => (h.wt.mem s hs).b.mono hN hQ hQ⟩
theorem Iw.mono {x : Ix} {N Q Z N' Q' Z' : Nat} (h : Iw x N Q Z) (h1 : N ≤ N') (h2 : Q ≤ Q') (h3 : Z ≤ Z') : Iw x N' Q' Z' := ⟨h.ok, h.wt.mono h1 h2, Nat.le_trans h.z h3⟩
theorem Iw.empty : Iw emptyX 0 0 0 := ⟨zhQ.1, trivial, Nat.le_refl _⟩
def lenX (tx : List (List UInt8)) : Nat := (tx.getD 0 []).length + (tx.getD 1 []).length + (tx.getD 2 []).length + (tx.getD 3 []).length + (tx.getD 4 []).length + (tx.getD 5 []).length
theorem zcP {tx : List (List UInt8)} (h6 : tx.length = 6) : ∀ t ∈ tx, t.length ≤ lenX tx := by
 match tx, h6 with
 | [a, b, c, d, e, f], _ =>
  intro t ht
  simp only [List.mem_cons, List.not_mem_nil, or_false] at ht
  show _ ≤ a.length + b.length + c.length + d.length + e.length + f.length
  rcases ht with rfl | rfl | rfl | rfl | rfl | rfl <;> omega
theorem Iw.add {x : Ix} {N Q Z : Nat} (h : Iw x N Q Z) {doc : Int} {tx : List (List UInt8)} (h6 : tx.length = 6) (hL : lenX tx ≤ 1500) : Iw (addX x doc tx).2 (N + 5) (Q + (10 * lenX tx + 15)) (Z + (8 * lenX tx + 20)) := by
 have hm := zcP h6
 refine ⟨?_, ?_, ?_⟩
 ·by_cases h0 : (addX x doc tx).1 = 0
  ·exact (zqL h.ok (fun t ht => by have := hm t ht; omega) h0).1
  ·rw [zrc h0]; exact h.ok
 ·exact (zsT h.wt (L := lenX tx) hm (by omega) (by omega)).mono (Nat.le_refl _) (by omega)
 ·have h1 := z_add x doc tx
  have h2 := h.z
  unfold lenX
  omega
theorem Iw.drop {x : Ix} {N Q Z : Nat} (h : Iw x N Q Z) (doc : Int) : Iw (dropX x doc).2 N Q Z := ⟨(zmI h.ok doc).1, zrH h.wt doc, by rw [zsN]; exact h.z⟩
theorem Iw.step {x : Ix} {N Q Z : Nat} (h : Iw x N Q Z) : Iw (stepX x).2 N Q Z := ⟨(znu h.ok).1, zsb h.wt, Nat.le_trans (zto x) h.z⟩
theorem Iw.len {x : Ix} {N Q Z : Nat} (h : Iw x N Q Z) (hN : N ≤ 1000) (hZ : Z ≤ 100000) : (serX x).length ≤ 9000000 := by
 have h1 := h.z
 have h2 := h.wt.docs
 obtain ⟨_, h3, _, _⟩ := zlv h.ok h.wt
 have := zpQ h.ok (by omega) (by omega) (by omega)
 omega
def renTm : Go.Shelf.Ren := ⟨fun | 6 => 143 | 14 => 207 | 15 => 129 | 20 => 239 | 21 => 240 | 22 => 241 | 23 => 242 | 24 => 243 | 25 => 244 | 26 => 245 | 27 => 246 | 28 => 187 | 29 => 188 | 46 => 257 | 47 => 226 | 48 => 227 | 49 => 258 | 50 => 259 | 57 => 267 | n => n, fun | 0 => 0 | 3 => 3 | 4 => 4 | 5 => 5 | 9 => 9 | 22 => 63 | 24 => 141 | 25 => 172 | 39 => 153 | 45 => 197 | 46 => 198 | 50 => 104 | 53 => 204 | 55 => 206 | 66 => 236 | 70 => 234 | 76 => 259 | 77 => 61 | n => n, fun | n => n⟩
theorem laysTm : Go.Proofs.SlLaysF0.n6 Tryz.prog renTm := {
 mixed := by kernel_rfl
 f6 := ⟨Tryz.f143.name, by decide, Tryz.func143.trans (congrArg some (by kernel_rfl))⟩
 f14 := ⟨Tryz.f207.name, by decide, Tryz.func207.trans (congrArg some (by kernel_rfl))⟩
 f15 := Tryz.func129.trans (congrArg some (by kernel_rfl))
 f20 := ⟨Tryz.f239.name, by decide, Tryz.func239.trans (congrArg some (by kernel_rfl))⟩
 f21 := ⟨Tryz.f240.name, by decide, Tryz.func240.trans (congrArg some (by kernel_rfl))⟩
 f22 := ⟨Tryz.f241.name, by decide, Tryz.func241.trans (congrArg some (by kernel_rfl))⟩
 f23 := ⟨Tryz.f242.name, by decide, Tryz.func242.trans (congrArg some (by kernel_rfl))⟩
 f24 := ⟨Tryz.f243.name, by decide, Tryz.func243.trans (congrArg some (by kernel_rfl))⟩
 f25 := ⟨Tryz.f244.name, by decide, Tryz.func244.trans (congrArg some (by kernel_rfl))⟩
 f26 := ⟨Tryz.f245.name, by decide, Tryz.func245.trans (congrArg some (by kernel_rfl))⟩
 f27 := ⟨Tryz.f246.name, by decide, Tryz.func246.trans (congrArg some (by kernel_rfl))⟩
 f28 := Tryz.func187.trans (congrArg some (by kernel_rfl))
 f29 := Tryz.func188.trans (congrArg some (by kernel_rfl))
 f46 := ⟨Tryz.f257.name, by decide, Tryz.func257.trans (congrArg some (by kernel_rfl))⟩
 f47 := Tryz.func226.trans (congrArg some (by kernel_rfl))
 f48 := Tryz.func227.trans (congrArg some (by kernel_rfl))
 f49 := ⟨Tryz.f258.name, by decide, Tryz.func258.trans (congrArg some (by kernel_rfl))⟩
 f50 := ⟨Tryz.f259.name, by decide, Tryz.func259.trans (congrArg some (by kernel_rfl))⟩
 f57 := ⟨Tryz.f267.name, by decide, Tryz.func267.trans (congrArg some (by kernel_rfl))⟩
 t0 := Tryz.underlying0
 a0 := Tryz.isAgg0
 z0 := Tryz.sizeOf0
 v0 := Tryz.zeroValue0
 t3 := Tryz.underlying3
 a3 := Tryz.isAgg3
 z3 := Tryz.sizeOf3
 v3 := Tryz.zeroValue3
 t4 := Tryz.underlying4
 a4 := Tryz.isAgg4
 z4 := Tryz.sizeOf4
 v4 := Tryz.zeroValue4
 t5 := Tryz.underlying5
 a5 := Tryz.isAgg5
 z5 := Tryz.sizeOf5
 v5 := Tryz.zeroValue5
 t9 := Tryz.underlying9
 a9 := Tryz.isAgg9
 z9 := Tryz.sizeOf9
 v9 := Tryz.zeroValue9
 t22 := Tryz.underlying63
 a22 := Tryz.isAgg63
 z22 := Tryz.sizeOf63
 v22 := Tryz.zeroValue63
 t25 := Tryz.underlying172
 a25 := Tryz.isAgg172
 z25 := Tryz.sizeOf172
 v25 := Tryz.zeroValue172
 t39 := Tryz.underlying153
 a39 := Tryz.isAgg153
 z39 := Tryz.sizeOf153
 v39 := Tryz.zeroValue153
 t45 := Tryz.underlying197
 a45 := Tryz.isAgg197
 z45 := Tryz.sizeOf197
 v45 := Tryz.zeroValue197
 t46 := Tryz.underlying198
 a46 := Tryz.isAgg198
 z46 := Tryz.sizeOf198
 v46 := Tryz.zeroValue198
 t50 := Tryz.underlying104
 a50 := Tryz.isAgg104
 z50 := Tryz.sizeOf104
 v50 := Tryz.zeroValue104
 t53 := Tryz.underlying204
 a53 := Tryz.isAgg204
 z53 := Tryz.sizeOf204
 v53 := Tryz.zeroValue204
 t55 := Tryz.underlying206
 a55 := Tryz.isAgg206
 z55 := Tryz.sizeOf206
 v55 := Tryz.zeroValue206
 t66 := Tryz.underlying236
 a66 := Tryz.isAgg236
 z66 := Tryz.sizeOf236
 v66 := Tryz.zeroValue236
 t70 := Tryz.underlying234
 a70 := Tryz.isAgg234
 z70 := Tryz.sizeOf234
 v70 := Tryz.zeroValue234
 t76 := Tryz.underlying259
 a76 := Tryz.isAgg259
 z76 := Tryz.sizeOf259
 v76 := Tryz.zeroValue259
 t77 := Tryz.underlying61
 a77 := Tryz.isAgg61
 z77 := Tryz.sizeOf61
 v77 := Tryz.zeroValue61 }
end Go.Proofs.YtennokckmjcefaaGreatDoor
namespace Go.Proofs.YtennokckmjcefaaGreatDoor
open Go.Shelf Go.RowKit Go.Pw Go.Vc Go.Cs Go.Lib Go.Cd Go.Mg Go.Sort
def Gr (w w' : World) : Prop := ∃ q os, w' = grow (w.drewN q) os
theorem Gr.refl (w : World) : Gr w w := ⟨0, #[], by unfold grow; simp [World.drewN_zero]⟩
theorem Gr.trans {a b c : World} (h : Gr a b) (k : Gr b c) : Gr a c := by
 obtain ⟨q, os, rfl⟩ := h
 obtain ⟨q2, os2, rfl⟩ := k
 refine ⟨q + q2, os ++ os2, ?_⟩
 rw [← World.drewN_drewN, ← grow_grow]; rfl
theorem Gr.drew (w : World) : Gr w w.drew := ⟨1, #[], by unfold grow; simp; rfl⟩
theorem Gr.alloc (w : World) (o : Obj) : Gr w (w.alloc o) := ⟨0, #[o], by rw [alloc_eq_grow]; rfl⟩
section
variable {w : World}
theorem zsO {b : Nat} (x y : Int) (hat : At w b 0 [.int .i64 x, .int .i64 y]) : Calls Tryz.prog 208 #[.slice (some ⟨b, 0, none⟩) 2 2] w fun e w' => e = .returned (.int .i64 (if x ≠ 0 then x else y)) ∧ w' = w := by
 refine zaa (args := [.slice (some ⟨b, 0, none⟩) 2 2]) Tryz.func208 rfl NL ?_; refine GW ?_
 have c0 : w.cell? ⟨b, 0 + 0, none⟩ = some (.int .i64 x) := hat 0 _ rfl
 have c1 : w.cell? ⟨b, 0 + 1, none⟩ = some (.int .i64 y) := hat 1 _ rfl
 refine Loop.intro (ι := Nat) (fun i => [(3, .int .i64 0), (6, .slice (some ⟨b, 0, none⟩) 2 2), (7, .int .i64 2), (8, .int .i64 (i : Nat))])
  (fun i wr => wr = w ∧ i ≤ 2 ∧ (1 ≤ i → x = 0) ∧ (2 ≤ i → y = 0)) (fun i => 2 - i) 0 ⟨rfl, rfl, rfl, rfl, trivial⟩ ⟨rfl, Nat.zero_le _, fun h => by omega, fun h => by omega⟩ ?_
 rintro i gg wr ⟨hW, hi, h1, h2⟩
 subst hW
 have hK := Kp.refl wr n_
 refine GW ?_
 have hc : i = 0 ∨ i = 1 ∨ i = 2 := by omega
 rcases hc with rfl | rfl | rfl
 ·by_cases hx : x = 0
  ·refine KGO ?_
   exact ⟨1, ⟨rfl, rfl, rfl, rfl, trivial⟩, ⟨rfl, by omega, fun _ => hx, fun h => by omega⟩, by dsimp only; omega⟩
  ·refine KGO ?_
   exact ⟨by rw [if_pos hx], rfl⟩
 ·have hx := h1 (by omega)
  by_cases hy : y = 0
  ·refine KGO ?_
   exact ⟨2, ⟨rfl, rfl, rfl, rfl, trivial⟩, ⟨rfl, by omega, fun _ => hx, fun _ => hy⟩, by dsimp only; omega⟩
  ·refine KGO ?_
   exact ⟨by rw [if_neg (by omega)], rfl⟩
 ·have hx := h1 (by omega)
  have hy := h2 (by omega)
  refine KGO ?_
  exact ⟨by rw [hx, hy]; rfl, rfl⟩
theorem zsY (x y : Int) : Calls Tryz.prog 209 #[.int .i64 x, .int .i64 y] w fun e w' => e = .returned (.int .i64 (cmpI x y)) ∧ w = w' := by
 refine zaa (args := [.int .i64 x, .int .i64 y]) Tryz.func209 rfl NL ?_; refine GW ?_
 refine CallS.of (Tryz.call189 _ _) (ziL x) ?_
 rintro e _ ⟨rfl, rfl⟩
 refine RT ?_
 refine CallS.of (Tryz.call189 _ _) (ziL y) ?_
 rintro e _ ⟨rfl, rfl⟩
 refine RT ?_
 unfold cmpI
 by_cases h1 : x < y
 ·refine KGO ?_
  exact ⟨by rw [if_pos h1], rfl⟩
 by_cases h2 : y < x
 ·refine KGO ?_
  exact ⟨by rw [if_neg h1, if_pos h2], rfl⟩
 ·refine KGO ?_
  exact ⟨by rw [if_neg h1, if_neg h2], rfl⟩
theorem zmf (x y : Trm) : Calls Tryz.prog 144 #[.agg (tmC x).toArray, .agg (tmC y).toArray] w fun e w' => e = .returned (.int .i64 (cmpT x y)) ∧ Gr w w' := by
 refine zaa (args := [.agg (tmC x).toArray, .agg (tmC y).toArray]) Tryz.func144 rfl NL ?_; refine GW ?_
 have g1 := Gr.alloc w (.cells (List.toArray (tmC x)) 141)
 obtain ⟨a_b1, v_b1, k_w1, z_w1, r_w1⟩ := new5 w 141 (tmC x)
 generalize w.alloc (.cells (List.toArray (tmC x)) 141) = w1 at *
 generalize hs_b1 : w.heap.size = b1 at *
 have g2 := Gr.alloc w1 (.cells (List.toArray (tmC y)) 141)
 obtain ⟨a_b2, v_b2, k_w2, z_w2, r_w2⟩ := new5 w1 141 (tmC y)
 generalize w1.alloc (.cells (List.toArray (tmC y)) 141) = w2 at *
 generalize hs_b2 : w1.heap.size = b2 at *
 have G2 := g1.trans g2
 have a1 := zai a_b1 k_w2
 clear a_b1 g1 g2
 refine KGO ?_
 refine Draw.held (fun u => Kp w2 u n_ ∧ Gr w2 u) (fun _ => true) (by decide +kernel) ⟨(Kp.refl w2 n_).drew, Gr.drew w2⟩ ?_
 refine KGO ?_
 refine Held.one (by rfl) (fun u hu => (zai a1 hu.1) 0 _ rfl) ?_
 refine KGO ?_
 refine Held.one (by rfl) (fun u hu => (zai a_b2 hu.1) 0 _ rfl) ?_
 refine KGO ?_
 refine CallS.of (Tryz.call209 _ _) (zsY (w := w2.drew) x.field y.field) ?_
 rintro e _ ⟨rfl, rfl⟩
 have k23 : Kp w2 w2.drew n_ := (Kp.refl w2 n_).drew
 have g23 := Gr.drew w2
 obtain ⟨w3, hw3⟩ : ∃ w3, w2.drew = w3 := ⟨_, rfl⟩
 rw [hw3] at k23 g23 ⊢
 refine RT ?_
 refine ⟨⟨k23, g23⟩, ?_⟩
 refine KGO ?_
 refine Held.one (by rfl) (fun u hu => (zai a1 hu.1) 1 _ rfl) ?_
 refine KGO ?_
 refine Held.one (by rfl) (fun u hu => (zai a_b2 hu.1) 1 _ rfl) ?_
 refine KGO ?_
 refine CallS.of (Tryz.call210 _ _) (ziM (str x.word) (str y.word) w3) ?_
 rintro e _ ⟨rfl, rfl⟩
 refine RT ?_
 refine ⟨⟨k23, g23⟩, ?_⟩
 refine KGO ?_
 refine RunV.of (bs2I _ _ _) ?_
 have g4 := Gr.alloc w3 (.cells (List.toArray [.int .i64 (cmpI x.field y.field), .int .i64 (compareBytes (L (str x.word)) (L (str y.word)))]) 3)
 obtain ⟨a_b4, v_b4, k_w4, z_w4, r_w4⟩ := new5 w3 3 ([.int .i64 (cmpI x.field y.field), .int .i64 (compareBytes (L (str x.word)) (L (str y.word)))])
 generalize w3.alloc (.cells (List.toArray ([.int .i64 (cmpI x.field y.field), .int .i64 (compareBytes (L (str x.word)) (L (str y.word)))])) 3) = w4 at *
 generalize hs_b4 : w3.heap.size = b4 at *
 refine ⟨⟨k23.trans0 k_w4, g23.trans g4⟩, ?_⟩
 refine KGO ?_
 refine CallS.of (Tryz.call208 _ _) (zsO _ _ a_b4) ?_
 rintro e _ ⟨rfl, rfl⟩
 refine RT ?_
 refine ⟨⟨k23.trans0 k_w4, g23.trans g4⟩, ?_⟩
 refine KGO ?_
 exact ⟨rfl, G2.trans (g23.trans g4)⟩
end
end Go.Proofs.YtennokckmjcefaaGreatDoor
namespace Go.Vc
open Go Go.Pw Go.Sort Go.Proofs
section
variable {α : Type} [Inhabited α] {enc : α → List Value} {w : World} {g q k : Nat} {os : Array Obj} {e : TypeId}
theorem zgK (hk : ∀ x, (enc x).length = k) (l : List α) : flatK enc k l.toArray = (l.flatMap enc).toArray := by
 have hlen : (l.flatMap enc).length = l.length * k := zaU enc k hk l
 apply Array.ext
 ·rw [size_flatK]; simp only [List.size_toArray]; exact hlen.symm
 ·intro t h1 h2
  have ht : t < l.length * k := by rw [size_flatK] at h1; simpa using h1
  have hk0 : 0 < k := by
   rcases Nat.eq_zero_or_pos k with h | h
   ·subst h; simp at ht
   ·exact h
  have hi : t / k < l.length := Nat.div_lt_of_lt_mul (by rwa [Nat.mul_comm] at ht)
  have hm : t % k < k := Nat.mod_lt _ hk0
  have h3 := get_flatK enc k l.toArray t (by simpa using ht)
  rw [getElem!_pos _ t h1] at h3
  rw [h3]
  have hd := zbR enc k hk l (t / k)
  have e1 : (l.flatMap enc)[t]? = ((l.drop (t / k)).flatMap enc)[t % k]? := by
   rw [← hd, List.getElem?_drop, Nat.mul_comm, Nat.div_add_mod]
  rw [List.drop_eq_getElem_cons hi, List.flatMap_cons, List.getElem?_append_left (by rw [hk]; exact hm)] at e1
  have e2 : l.toArray[t / k]! = l[t / k] := by rw [getElem!_pos _ _ (by simpa using hi)]; simp
  rw [e2]
  have e3 : (l.flatMap enc)[t]? = some ((l.flatMap enc).toArray[t]) := by
   rw [List.getElem?_eq_getElem (by simpa using h2)]; simp
  rw [e3] at e1
  have e4 : (enc l[t / k])[t % k]? = some (enc l[t / k])[t % k]! := by
   rw [List.getElem?_eq_getElem (by rw [hk]; exact hm), getElem!_pos _ _ (by rw [hk]; exact hm)]
  rw [e4] at e1
  injection e1 with e1
  exact e1.symm
theorem zlR {l : List α} {cells : List Value} (hk : ∀ x, (enc x).length = k) (h : VarK w g e cells) (ht : cells.take (l.length * k) = l.flatMap enc) : HoldsK enc k w g 0 l.toArray := by
 unfold HoldsK
 rw [zgK hk]
 exact zfC (enc := id) h (by rw [zaU enc k hk, ht, List.map_id])
theorem zpq {B n cap : Nat} {xs : List Value} (hk : ∀ x, (enc x).length = k) (ho : w.ownsRow B e k (.slice (some ⟨g, 0, none⟩) n cap) n xs) (l : List α) (hl : l.length = n) :
  (sortWorldK enc k w g 0 q l.toArray os).ownsRow B e k (.slice (some ⟨g, 0, none⟩) n cap) n (l.flatMap enc) := by
 unfold sortWorldK putRowK
 rw [zgK hk]
 have hF : (l.flatMap enc).length = n * k := by rw [zaU enc k hk, hl]
 rcases ho.2 with ⟨h, _⟩ | ⟨g', cap', cur, h1, h2, h3, h4, h5, h6, h7⟩
 ·cases h
 ·injection h1 with h1 _ hc
  injection h1 with h1
  injection h1 with h1
  subst h1; subst hc
  refine ⟨hF, .inr ⟨g, cap, _, rfl, h2, zjV _ h3, by omega, h5, by simp [putCells, h6], ?_⟩⟩
  have := zkj (enc := id) cur (l.flatMap enc) (by rw [hF, h6]; exact Nat.mul_le_mul_right _ h4)
  rw [hF, List.map_id] at this
  exact this
theorem zlC (d : Array α) : Kp w (sortWorldK enc k w g 0 q d os) (one_ g) := zfF (enc := id) _
end
end Go.Vc
namespace Go.Proofs.YtennokckmjcefaaGreatDoor
open Go.Shelf Go.RowKit Go.Pw Go.Vc Go.Cs Go.Lib Go.Cd Go.Mg Go.Sort
instance : Inhabited Trm := ⟨⟨0, [], []⟩⟩
theorem zkg (x y : Trm) : ltOf cmpT x y = ltK x.key y.key := by
 have h := zfk x y
 unfold ltOf
 cases hk : ltK x.key y.key with
 | true => exact decide_eq_true (h.2 hk)
 | false => exact decide_eq_false fun e => by rw [h.1 e] at hk; cases hk
theorem swoT : SWO (ltOf cmpT) where
 irrefl x := by rw [zkg]; exact stoK.irr _
 trans x y z h1 h2 := by rw [zkg] at *; exact stoK.tr _ _ _ h1 h2
 ntrans x y z h1 h2 := by
  rw [zkg] at *
  cases h : ltK x.key z.key with
  | false => rfl
  | true =>
   cases h3 : ltK y.key x.key with
   | true =>
    have := stoK.tr _ _ _ h3 h
    rw [h2] at this; cases this
   | false =>
    have e := stoK.tri _ _ h1 h3
    rw [e] at h; rw [h2] at h; cases h
theorem zlT (blk off size : Nat) (w : World) : CmpLays Tryz.prog 144 #[] tmC 3 cmpT blk off size w := fun m os dk hs x y => zmf x y
section
variable {w : World} {B : Nat}
theorem zts {v : Value} (l : List Trm) (ho : OwnR 141 tmC 3 w B v l) (hl : l.length ≤ 17592186044416) :
  Calls Tryz.prog 143 #[v, .func (.func 144) #[] #[]] w fun e w' => e = .returned (.tuple #[]) ∧ ∃ l', l'.Perm l ∧ l'.Pairwise (fun a b => ltK b.key a.key = false) ∧ OwnR 141 tmC 3 w' B v l' ∧ Kp w w' (own_ v) := by
 rcases own_blockK ho with ⟨rfl, h0⟩ | ⟨g, cap, cells, rfl, hBg, hv, hnc, hcm, hcl, htk⟩
 ·obtain rfl : l = [] := List.eq_nil_of_length_eq_zero h0
  refine (AnyF.slices_SortFunc_none laysTm none 0 _ w).mono ?_
  rintro e w' ⟨rfl, rfl⟩
  exact ⟨rfl, [], .refl _, .nil, ho, Kp.refl _ _⟩
 ·refine (AnyQ.slices_SortFunc laysTm 3 Tryz.isAgg141 Tryz.sizeOf141 tmC lenTm (fun x v hv => by simp [tmC] at hv; rcases hv with rfl | rfl | rfl <;> rfl) cmpT swoT 144 #[] g 0 cap l.toArray w (fun _ _ => rfl) (zlT _ _ _ _) (zlR lenTm hv htk) hv.lt (by simp; omega)).mono ?_
  rintro e w' ⟨rfl, d', n, os, ⟨hp1, _, hp3⟩, hs, rfl⟩
  have hsz : d'.size = l.length := by simpa using hp1
  have e1 : d'.extract 0 l.toArray.size = d' := by rw [← hp1]; exact Array.extract_size
  have e2 : l.toArray.extract 0 l.toArray.size = l.toArray := Array.extract_size
  rw [e1, e2] at hp3
  have hd : d'.toList.toArray = d' := by simp
  refine ⟨rfl, d'.toList, by simpa using hp3, ?_, ?_, ?_⟩
  ·rw [List.pairwise_iff_getElem]
   intro i j hi hj hij
   have hi' : i < d'.size := by simpa using hi
   have hj' : j < d'.size := by simpa using hj
   have h := hs i j (Nat.zero_le _) hij (by rw [List.size_toArray]; omega)
   rw [getElem!_pos d' j hj', getElem!_pos d' i hi', zkg] at h
   exact h
  ·have h := zpq (q := n) (os := os) lenTm ho d'.toList (by simpa using hsz)
   rw [hd] at h
   unfold OwnR
   rw [show d'.toList.length = l.length by simpa using hsz]
   exact h
  ·exact (zlC d').mono fun q _ hq => by have hq : q = g := hq; rw [hq]; rfl
end
end Go.Proofs.YtennokckmjcefaaGreatDoor
