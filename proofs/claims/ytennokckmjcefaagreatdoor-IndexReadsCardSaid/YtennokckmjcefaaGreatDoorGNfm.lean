/- Helper lemmas; no conditions of their own. -/
import Derived.Test.YtennokckmjcefaaGreatDoorGMm0
import Derived.Test.YtennokckmjcefaaGreatDoorGNfl
set_option linter.unusedVariables false
set_option maxHeartbeats 8000000
set_option maxRecDepth 100000
namespace Go.Proofs.YtennokckmjcefaaGreatDoor
open Go.Shelf Go.RowKit Go.Pw Go.Vc Go.Cs Go.Lib Go.Cd Go.Mg
section
variable {w : World}
theorem zgF (h : Sv) (s : Sgm) (hr : RdS w h s) (hs : SmS s) (hd : s.docs.length ≤ 1000000) (hl : (serS s).length ≤ 1000000000000) : Calls Tryz.prog 74 #[.agg (sgC h).toArray] w fun e w' => e = .returned (.string (str (serS s))) ∧ Kp w w' n_ := by
 obtain ⟨⟨at_, ct, et, hrt⟩, ⟨ad, cd, ed, hrd⟩, _, _⟩ := id hr
 obtain ⟨⟨ta, tn, tc⟩, ⟨da, dn, dc⟩⟩ := h
 injection et with q1 q2 q3
 injection ed with r1 r2 r3
 dsimp only at q1 q2 q3 r1 r2 r3
 subst q1 q2 q3 r1 r2 r3
 refine zaa (args := [.agg (sgC ⟨⟨ta, s.terms.length, tc⟩, ⟨da, s.docs.length, dc⟩⟩).toArray]) Tryz.func74 rfl NL ?_; refine GW ?_
 obtain ⟨a_b1, v_b1, k_w1, z_w1, r_w1⟩ := new5 w 65 (sgC ⟨⟨ta, s.terms.length, tc⟩, ⟨da, s.docs.length, dc⟩⟩)
 generalize w.alloc (.cells (List.toArray (sgC ⟨⟨ta, s.terms.length, tc⟩, ⟨da, s.docs.length, dc⟩⟩)) 65) = w1 at *
 generalize hs_b1 : w.heap.size = b1 at *
 refine KGO ?_
 refine Ya (Tryz.call120 _ _) (zeB (w := w1) ⟨⟨ta, s.terms.length, tc⟩, ⟨da, s.docs.length, dc⟩⟩ s (hr.keep k_w1) hs OM) ?_
 rintro e w2 ⟨rfl, k2⟩
 have K2 := k_w1.trans0 k2
 have v2 := v_b1.keep0 k2
 unfold sgC at v2
 dsimp only at v2
 have a1 := v2.at
 clear a_b1 v_b1
 refine RT ?_
 unfold serS at hl ⊢
 cases hq : rightS s with
 | false =>
  refine KGO ?_
  exact ⟨rfl, K2⟩
 | true =>
 rw [hq, if_pos rfl] at hl
 rw [if_pos rfl]
 obtain ⟨⟨_, r0⟩, r2, _⟩ := zah.1 hq
 have hdn := docs_nat hq
 have hNl : (toN s.docs).length = s.docs.length := by unfold toN; exact List.length_map _
 have hNb : ∀ n ∈ toN s.docs, n < 2 ^ 63 := fun n hn => by
  obtain ⟨d, hd, rfl⟩ := yay.1 hn
  have := r0 d hd
  omega
 have d0 : ∀ u, Kp w2 u n_ → u.cell? ⟨b1, 0, none⟩ = some (.slice ta s.terms.length tc) := fun u hu => zao (a1 0 _ rfl) hu
 have d1 : ∀ u, Kp w2 u n_ → u.cell? ⟨b1, 0 + 1, none⟩ = some (.slice da s.docs.length dc) := fun u hu => zao (a1 1 _ rfl) hu
 have q2 := Yb w2 n_
 refine KGO ?_
 refine Yo (fun u => Kp w2 u n_) (fun _ => true) (by decide +kernel) q2.drew ?_
 refine KGO ?_
 have kd := q2.drew
 have hrow : RowI w2.drew (.slice da s.docs.length dc) (iL (toN s.docs)) := by rw [hdn]; exact hr.d.keep (K2.trans0 kd)
 refine Ya (Tryz.call75 _ _) (ziW (w := w2.drew) (toN s.docs) hrow hNb OM) ?_
 rintro e w4 ⟨rfl, k4⟩
 have k34 := kd.trans0 k4
 refine RT ?_
 refine ⟨k34, ?_⟩
 refine KGO ?_
 refine Ya (Tryz.call72 _ _) (zbR (w := w4) s.terms.length (by have := hs.t; omega)) ?_
 rintro e w5 ⟨rfl, k5⟩
 have k35 := k34.trans0 k5
 refine RT ?_
 refine ⟨k35, ?_⟩
 have hn1 := zap (n := s.terms.length) (by have := hs.t; omega)
 have hn2 : (numsE (toN s.docs)).length ≤ 9 + 9 * s.docs.length := by
  unfold numsE
  have h2 := zap (n := (toN s.docs).length) OM
  have h3 := zbC (toN s.docs) hNb
  rw [yaa]; omega
 rw [← yap] at hl ⊢
 rw [yaa, yaa] at hl
 refine KGO ?_
 refine Ym (by show (numsE (toN s.docs)).length + (numE s.terms.length).length ≤ _; omega) ?_
 rw [zcm]
 have hpl : (numsE (toN s.docs) ++ numE s.terms.length).length ≤ 10000000000 := by rw [yaa]; omega
 generalize numsE (toN s.docs) ++ numE s.terms.length = PRE at *
 refine KGO ?_
 have hstl := hs.t
 have hall : (s.terms.flatMap termE).length ≤ 1000000000000 := OM
 refine Yc (ι := Nat) (fun i => [(1, .pointer (some ⟨b1, 0, none⟩)), (3, .string (str (PRE ++ (s.terms.take i).flatMap termE))), (4, .int .i64 (i : Nat))])
  (fun i wr => Kp w2 wr n_ ∧ i ≤ s.terms.length) (fun i => s.terms.length - i) 0 ⟨rfl, by rw [ybG, ybQ, yaA]; rfl, rfl, trivial⟩ ⟨k35, yal _⟩ ?_
 rintro i gg wr ⟨hK, hi⟩
 have hKw := K2.trans0 hK
 have c0 := d0 wr hK
 refine GW ?_
 by_cases hlt : i < s.terms.length
 ·obtain ⟨gt, ot, rfl, hgt, hat⟩ := hrt OM
  have hst : (s.terms.take (i + 1)).flatMap termE = (s.terms.take i).flatMap termE ++ termE s.terms[i] := by
   rw [yad hlt, yaC]; simp
  have hft := zcb termE s.terms (i + 1)
  rw [hst, yaa] at hft
  have hok := r2 s.terms[i] (yak hlt)
  have hsm := hs.x s.terms[i] (yak hlt)
  have hel := zea (at_mono hat hKw) lenTm hlt
  clear hat
  generalize (s.terms.take i).flatMap termE = PT at *
  generalize s.terms[i] = t at *
  obtain ⟨f, wd, ls⟩ := t
  obtain ⟨n, rfl⟩ : ∃ n : Nat, f = n := by
   unfold zax at hok
   rw [yaq, yaq] at hok
   have := of_decide_eq_true hok.1.1
   exact ⟨f.toNat, by dsimp only at this; omega⟩
  have hn5 : n ≤ 5 := by
   unfold zax at hok
   rw [yaq, yaq] at hok
   have := of_decide_eq_true hok.1.1
   dsimp only at this; omega
  have hwl := hsm.w
  have hll := hsm.l
  dsimp only at hwl hll
  have hte : termE ⟨(n : Int), wd, ls⟩ = numE n ++ (textE wd ++ textE ls) := rfl
  rw [hte, yaa, yaa] at hft
  have e0 : ∀ u, Kp wr u n_ → u.cell? ⟨gt, ot + i * 3, none⟩ = some (.int .i64 (n : Nat)) := fun u hu => zao (hel 0 _ rfl) hu
  have e1 : ∀ u, Kp wr u n_ → u.cell? ⟨gt, ot + i * 3 + 1, none⟩ = some (.string (str wd)) := fun u hu => zao (hel 1 _ rfl) hu
  have e2 : ∀ u, Kp wr u n_ → u.cell? ⟨gt, ot + i * 3 + 2, none⟩ = some (.string (str ls)) := fun u hu => zao (hel 2 _ rfl) hu
  have d0r : ∀ u, Kp wr u n_ → u.cell? ⟨b1, 0, none⟩ = some (.slice (some ⟨gt, ot, none⟩) s.terms.length tc) := fun u hu => d0 u (hK.trans0 hu)
  have qr := Yb wr n_
  clear d0 d1 hel
  refine KGO ?_
  refine Yo (fun u => Kp wr u n_) (fun _ => true) (by decide +kernel) qr.drew ?_
  refine KGO ?_
  refine Yf (by rfl) e0 ?_
  refine KGO ?_
  have J0 := qr.drew
  generalize wr.drew = w6 at *
  refine Ya (Tryz.call72 _ _) (zbR (w := w6) n OM) ?_
  rintro e w7 ⟨rfl, k7⟩
  have J7 := J0.trans0 k7
  refine RT ?_
  refine ⟨J7, ?_⟩
  refine KGO ?_
  refine Ym (by show (PRE ++ PT).length + (numE n).length ≤ _; rw [yaa]; omega) ?_
  rw [zcm]
  refine KGO ?_
  refine Yf (by rfl) e1 ?_
  refine KGO ?_
  refine Ya (Tryz.call73 _ _) (zfL (w := w7) wd OM) ?_
  rintro e w8 ⟨rfl, k8⟩
  have J8 := J7.trans0 k8
  refine RT ?_
  refine ⟨J8, ?_⟩
  refine KGO ?_
  refine Ym (by show (PRE ++ PT ++ numE n).length + (textE wd).length ≤ _; rw [yaa, yaa]; omega) ?_
  rw [zcm]
  refine KGO ?_
  refine Yf (by rfl) e2 ?_
  refine KGO ?_
  refine Ya (Tryz.call73 _ _) (zfL (w := w8) ls OM) ?_
  rintro e w9 ⟨rfl, k9⟩
  have J9 := J8.trans0 k9
  refine RT ?_
  refine ⟨J9, ?_⟩
  refine KGO ?_
  refine Ym (by show (PRE ++ PT ++ numE n ++ textE wd).length + (textE ls).length ≤ _; rw [yaa, yaa, yaa]; omega) ?_
  rw [zcm]
  refine KGO ?_
  exact ⟨i + 1, ⟨rfl, by rw [hst, hte]; simp only [yap]; rfl, VS, trivial⟩, ⟨hK.trans0 J9, OM⟩, DO⟩
 obtain rfl : i = s.terms.length := OM
 rw [yaD]
 refine KGO ?_
 exact ⟨rfl, hKw⟩
end
def wtT (t : Trm) : Nat := t.word.length + t.list.length + 1
def wtL (l : List Trm) : Nat := (l.map wtT).sum
theorem zkG (l : List Trm) (t : Trm) : wtL (l ++ [t]) = wtL l + wtT t := by unfold wtL; rw [List.map_append, List.sum_append]; simp
theorem zkM (n : Nat) (s : St) : (takeR n s).1.length + stL (takeR n s).2 ≤ stL s := by
 cases s with
 | none => exact yag _
 | some u =>
  unfold takeR
  dsimp only
  split
  ·simp only [stL, yar, yau]; omega
  exact yal _
theorem zlZ (s : St) : (textR s).1.length + stL (textR s).2 ≤ stL s := by
 have h1 := zkM (numR s).1 (numR s).2
 have h2 := zbs s
 unfold textR
 omega
theorem zlS {s : St} (h : stL s ≠ 0) : wtT (termR s).1 + stL (termR s).2 ≤ stL s := by
 have h1 := zcj h
 have h2 := zlZ (numR s).2
 have h3 := zlZ (textR (numR s).2).2
 unfold termR wtT
 dsimp only
 omega
theorem zkw : ∀ (k : Nat) (s : St), (numsG k s).1.length + stL (numsG k s).2 ≤ stL s
 | 0, s => by unfold numsG; simp
 | k + 1, s => by
  unfold numsG
  cases hq : numR s with
  | mk n r =>
   cases r with
   | none => exact yal _
   | some r =>
    have ih := zkw k (some r)
    have hl : stL (some r) < stL s := by
     have hs : stL s ≠ 0 := fun e => by
      cases s with
      | none => rw [show numR none = (0, none) from rfl] at hq; cases hq
      | some u =>
       obtain rfl : u = [] := yan e
       rw [show numR (some []) = (0, none) from rfl] at hq; cases hq
     have := zcj hs
     rw [hq] at this
     exact this
    dsimp only
    cases hg : numsG k (some r) with
    | mk l s' =>
     rw [hg] at ih
     dsimp only at ih ⊢
     rw [yab]; omega
theorem zff (s : St) : (numsR s).1.length + stL (numsR s).2 ≤ stL s := by
 unfold numsR
 have h0 := zbs s
 cases hq : numR s with
 | mk n r =>
  cases r with
  | none => exact yal _
  | some r =>
   rw [hq] at h0
   dsimp only at h0 ⊢
   split
   ·exact yal _
   have h1 := zkw n (some r)
   cases hg : numsG n (some r) with
   | mk l s' =>
    rw [hg] at h1
    cases s' with
    | none => exact yal _
    | some x => dsimp only at h1 ⊢; omega
theorem zjs {l : List Trm} : ∀ t ∈ l, wtT t ≤ wtL l := by
 unfold wtL
 induction l with
 | nil => intro t h; cases h
 | cons a l ih =>
  intro t h
  rw [yas, yaY]
  rcases yah.1 h with rfl | h
  ·omega
  have := ih t h; omega
theorem zjN (l : List Trm) : l.length ≤ wtL l := by
 unfold wtL
 induction l with
 | nil => exact yag _
 | cons a l ih => rw [List.map_cons, List.sum_cons, List.length_cons]; unfold wtT at *; omega
theorem zni {s : Sgm} {c : Nat} (hw : wtL s.terms ≤ c) (hd : s.docs.length ≤ c) (hc : c ≤ 1000000000) : (serS s).length ≤ 18 + 40 * c := by
 unfold serS
 split
 ·rename_i h
  obtain ⟨⟨_, r0⟩, r2, _⟩ := zah.1 h
  have h1 : (numsE (toN s.docs)).length ≤ 9 + 9 * s.docs.length := by
   unfold numsE
   have hl : (toN s.docs).length = s.docs.length := by unfold toN; exact List.length_map _
   have h2 := zap (n := (toN s.docs).length) OM
   have h3 := zbC (toN s.docs) fun n hn => by
    obtain ⟨d, hd, rfl⟩ := yay.1 hn
    have := r0 d hd
    omega
   rw [yaa]; omega
  have ht := zjN s.terms
  have h2 := zap (n := s.terms.length) OM
  have h3 : ∀ l : List Trm, (∀ t ∈ l, t ∈ s.terms) → (l.flatMap termE).length ≤ 28 * wtL l := by
   intro l
   induction l with
   | nil => intro _; exact yal _
   | cons a l ih =>
    intro hm
    have i1 := ih fun t ht => hm t (yai _ ht)
    have ha := hm a yae
    have i2 := zjs a ha
    have hok := r2 a ha
    unfold zax at hok
    rw [yaq, yaq] at hok
    have hf := of_decide_eq_true hok.1.1
    have j1 := zap (n := a.field.toNat) OM
    have j2 := zcH (u := a.word) (by unfold wtT at i2; omega)
    have j3 := zcH (u := a.list) (by unfold wtT at i2; omega)
    have j4 : (termE a).length = (numE a.field.toNat).length + ((textE a.word).length + (textE a.list).length) := by unfold termE; rw [List.length_append, List.length_append]
    unfold wtL at i1 ⊢
    rw [yao, yaa, yas, yaY]
    unfold wtT
    unfold wtT at i1
    omega
  have h4 := h3 s.terms fun t h => h
  rw [yaa, yaa]
  omega
 exact yal _
theorem zjj (a : Option Addr) (n c : Nat) (w : World) : (Instr.build 65 [(1, .slice a n c)].toArray).run Tryz.prog w = .ok (.agg #[.slice none 0 0, .slice a n c]) w := by
 simp [Instr.build, go_sem, Tryz.runUnderlying65]
theorem zdz (w : World) : (Instr.build 65 #[]).run Tryz.prog w = .ok (.agg #[.slice none 0 0, .slice none 0 0]) w := by
 simp [Instr.build, go_sem, Tryz.runUnderlying65]
def zeroSv : Sv := ⟨⟨none, 0, 0⟩, ⟨none, 0, 0⟩⟩
section
variable {w : World}
theorem zss (u : List UInt8) (hu : u.length ≤ 10000000) (hE : CEnv w) : Calls Tryz.prog 53 #[.string (str u)] w fun e w' =>
  (∃ h', e = .returned (.tuple #[.agg (sgC h').toArray, .bool (readS u).isSome]) ∧ ∀ s, readS u = some s → OwS w' w.heap.size h' s) ∧ Kp w w' n_ := by
 refine zaa (args := [.string (str u)]) Tryz.func53 rfl NL ?_; refine GW ?_
 obtain ⟨a_b2, v_b2, k_w1, z_w1, r_w1⟩ := new5 w 65 ([.slice none 0 0, .slice none 0 0])
 generalize w.alloc (.cells (List.toArray ([.slice none 0 0, .slice none 0 0])) 65) = w1 at *
 generalize hs_b2 : w.heap.size = b2 at *
 refine KGO ?_
 refine Ya (Tryz.call50 _ _) (zjG (w := w1) (str u)) ?_
 rintro e w2 ⟨rfl, h2, k2⟩
 have hstr : L (str u) = u := rfl
 rw [hstr] at h2
 obtain ⟨rb, hrb⟩ : ∃ rb, w1.heap.size = rb := ⟨_, rfl⟩
 rw [hrb] at h2 ⊢
 have K2 := k_w1.trans0 k2
 have vb2 := v_b2.keep0 k2
 have z2 := K2.size
 refine RT ?_
 refine KGO ?_
 refine Ya (Tryz.call55 _ _) (zkt (w := w2) (some u) h2 (by show u.length ≤ _; omega)) ?_
 rintro e w3 ⟨v3, rfl, o3, h3, k3⟩
 have vb3 := vb2.keep k3 (show ¬ b2 = rb by omega)
 have K3 : Kp w w3 n_ := keeps_new K2 k3 OM
 have hpar : parS u = (⟨(termsR (numR (numsR (some u)).2).1 (numR (numsR (some u)).2).2).1, iL (numsR (some u)).1⟩, (termsR (numR (numsR (some u)).2).1 (numR (numsR (some u)).2).2).2) := rfl
 have hwd := zff (some u)
 rw [show stL (some u) = u.length from rfl] at hwd
 generalize numsR (some u) = q at *
 obtain ⟨D, s1⟩ := q
 dsimp only at o3 h3 hpar hwd ⊢
 obtain ⟨da, dc, rfl⟩ := zab o3
 rw [zbl] at *
 refine RT ?_
 refine KGO ?_
 refine Ye (zjj _ _ _ _) ?_
 refine KGO ?_
 have v_b5 := Yk w3 65 [.slice none 0 0, .slice da D.length dc]
 refine Yg (vs := [.slice none 0 0, .slice da D.length dc]) (by rfl) rfl (zak (by rfl)) ?_
 obtain ⟨a_b5, k_w4, z_w4⟩ := new3 w3 65 ([.slice none 0 0, .slice da D.length dc])
 generalize w3.alloc (.cells (List.toArray ([.slice none 0 0, .slice da D.length dc])) 65) = w4 at *
 generalize hs_b5 : w3.heap.size = b5 at *
 have h4 := h3.keep0 k_w4
 have vb4 := vb3.keep0 k_w4
 have o4 := own_keep0 o3 k_w4
 have K4 := K3.trans0 k_w4
 refine KGO ?_
 have hu1 : ∀ x, s1 = some x → x.length ≤ 140737488355328 := fun x e => by subst e; simp only [stL] at hwd; omega
 refine Ya (Tryz.call51 _ _) (zcx s1 h4 hu1) ?_
 rintro e w5 ⟨rfl, h5, k5⟩
 have hn63 := zaW s1
 have hnl := zbs s1
 have z3 := K3.size
 have hrb5 : rb < b5 := by have := h3.lt; omega
 have v55 := v_b5.keep k5 (show ¬ b5 = rb by omega)
 have vb5 := vb4.keep k5 (show ¬ b2 = rb by omega)
 have o5 := zad (D := [3]) o4 k5 (zag h4 (by decide)) (by decide)
 have K5 : Kp w w5 n_ := keeps_new K4 k5 OM
 generalize numR s1 = q at *
 obtain ⟨n0, s2⟩ := q
 dsimp only at h5 hpar hn63 hnl ⊢
 refine RT ?_
 clear h2 h3 h4 k2 k3 k5 vb2 vb3 vb4 o3 o4 K2 K3 K4 v_b5 v_b2 a_b2 a_b5 hu1
 refine Yc (ι := St × Sl × List Trm) (fun q => [(0, .string (str u)), (2, .pointer (some ⟨b2, 0, none⟩)), (4, .pointer (some ⟨rb, 0, none⟩)), (5, .pointer (some ⟨b5, 0, none⟩)), (6, .int .i64 (n0 : Nat))])
  (fun q wr => Kp w wr n_ ∧ VarK wr b2 65 [.slice none 0 0, .slice none 0 0] ∧ VarK wr rb 139 (rdC q.1) ∧ VarK wr b5 65 [.slice q.2.1.a q.2.1.n q.2.1.c, .slice da D.length dc] ∧ OwnR 141 tmC 3 wr w.heap.size q.2.1.v q.2.2 ∧ OwnI wr w.heap.size (.slice da D.length dc) (iL D) ∧ q.2.2.length ≤ n0 ∧ q.2.2 ++ (termsR (n0 - q.2.2.length) q.1).1 = (termsR n0 s2).1 ∧ (termsR (n0 - q.2.2.length) q.1).2 = (termsR n0 s2).2 ∧ wtL q.2.2 + stL q.1 ≤ u.length)
  (fun q => n0 - q.2.2.length) (s2, ⟨none, 0, 0⟩, []) FR ⟨K5, vb5, h5, v55, World.ownsRow_nil _ _ _ _, own_base o5 OM, yal _, by simp, by simp, by show 0 + stL s2 ≤ _; omega⟩ ?_
 clear h5 v55 vb5 o5 K5 k_w4 k_w1
 rintro ⟨st, so, ts⟩ gg wr ⟨hK, hv2, hv, h5, ho, hod, htl, ht1, ht2, hwt⟩
 dsimp only at hv h5 ho hod htl ht1 ht2 hwt ⊢
 obtain ⟨aj, cj, ej⟩ := zab ho
 obtain ⟨ja, jn, jc⟩ := so
 injection ej with e1 e2 e3
 dsimp only at e1 e2 e3
 subst e1 e2 e3
 dsimp only at h5 ho
 have a5 := h5.at
 have htw := zjN ts
 have zr := hK.size
 have qr := Yb wr n_
 refine GW ?_
 by_cases hx : ts.length < n0 ∧ stL st ≠ 0
 ·obtain ⟨hlt, hs0⟩ := hx
  obtain ⟨k, hk⟩ : ∃ k, n0 - ts.length = k + 1 := ⟨n0 - ts.length - 1, OM⟩
  rw [hk, termsR, if_neg hs0] at ht1 ht2
  dsimp only at ht1 ht2
  have hwr := zlS hs0
  have htr : termR st = (⟨((numR st).1 : Nat), (textR (numR st).2).1, (textR (textR (numR st).2).2).1⟩, (textR (textR (numR st).2).2).2) := rfl
  have hsu : ∀ s x, s = some x → stL s ≤ stL st → x.length ≤ 140737488355328 := fun s x e h => by subst e; have h : x.length ≤ stL st := h; omega
  have l1 := zbs st
  have l2 := (zkS (numR st).2).2
  refine KGO ?_
  refine Ya (Tryz.call52 _ _) (zeO (w := wr) st hv) ?_
  rintro e w6 ⟨rfl, k6⟩
  have hv6 := hv.keep0 k6
  have h56 := h5.keep0 k6
  have hv26 := hv2.keep0 k6
  have ho6 := own_keep0 ho k6
  have hod6 := own_keep0 hod k6
  have K6 := hK.trans0 k6
  have hown : ∀ q, own_ (.slice ja ts.length jc) q → w.heap.size ≤ q := fun q e => (ho6.lt q e).1
  have hn5 : ¬ own_ (.slice ja ts.length jc) b5 := zac ho6 h56 (by decide)
  have hnr : ¬ own_ (.slice ja ts.length jc) rb := zac ho6 hv6 (by decide)
  have hn2 : ¬ own_ (.slice ja ts.length jc) b2 := zac ho6 hv26 (by decide)
  have hS5 : ∀ v, Kp w6 v (fun q => q = rb ∨ own_ (.slice ja ts.length jc) q) → At v b5 0 [.slice ja ts.length jc, .slice da D.length dc] := fun v hv => zaI h56.at hv fun e => e.elim (fun e => OM) hn5
  clear hv h5 hv2 ho hod a5 k6
  refine RT ?_
  refine KGO ?_
  refine Yh (fun v => Kp w6 v (fun q => q = rb ∨ own_ (.slice ja ts.length jc) q)) (fun _ => true) (by simp) (by decide +kernel) (by decide +kernel) (Yb _ _).drew ?_
  refine KGO ?_
  refine Yf (by rfl) (fun v hv => hS5 v hv 0 _ rfl) ?_
  refine KGO ?_
  have kd := (Yb w6 n_).drew
  refine Ya (Tryz.call51 _ _) (zcx (w := w6.drew) st (hv6.keep0 kd) (fun x e => hsu st x e (yag _))) ?_
  rintro e w7 ⟨rfl, h7, k7⟩
  have S7 : Kp w6 w7 (one_ rb) := kd.of_none.trans' k7
  refine RT ?_
  refine ⟨S7.mono fun q _ e => .inl e, ?_⟩
  refine KGO ?_
  refine Ya (Tryz.call54 _ _) (zhx (w := w7) (numR st).2 h7 (fun x e => hsu _ x e l1)) ?_
  rintro e w8 ⟨rfl, h8, k8⟩
  have S8 := S7.trans' k8
  refine RT ?_
  refine ⟨S8.mono fun q _ e => .inl e, ?_⟩
  refine KGO ?_
  refine Ya (Tryz.call54 _ _) (zhx (w := w8) (textR (numR st).2).2 h8 (fun x e => hsu _ x e OM)) ?_
  rintro e w9 ⟨rfl, h9, k9⟩
  have S9 := S8.trans' k9
  refine RT ?_
  refine ⟨S9.mono fun q _ e => .inl e, ?_⟩
  rw [htr] at ht1 ht2 hwr
  dsimp only at ht1 ht2 hwr
  generalize (numR st).1 = fN at *
  generalize (textR (textR (numR st).2).2).1 = lsN at *
  generalize (textR (textR (numR st).2).2).2 = stN at *
  generalize (textR (numR st).2).1 = wdN at *
  refine KGO ?_
  refine Ye (zig (fN : Nat) (str wdN) (str lsN) _) ?_
  refine KGO ?_
  refine Ye (bs1Tm ⟨(fN : Nat), wdN, lsN⟩ _) ?_
  obtain ⟨a_b10, v_b10, k_w10, z_w10, r_w10⟩ := new5 w9 141 (tmC ⟨(fN : Nat), wdN, lsN⟩)
  generalize w9.alloc (.cells (List.toArray (tmC ⟨(fN : Nat), wdN, lsN⟩)) 141) = w10 at *
  generalize hs_b10 : w9.heap.size = b10 at *
  have S10 := S9.trans' k_w10.of_none
  refine ⟨S10.mono fun q _ e => .inl e, ?_⟩
  have ho10 := own_keep0 (zad (D := [141]) ho6 S9 (zag hv6 (by decide)) (by decide)) k_w10
  have hod10 := own_keep0 (zad (D := [3]) hod6 S9 (zag hv6 (by decide)) (by decide)) k_w10
  have h10 := h9.keep0 k_w10
  have h510 := (h56.keep S9 (show ¬ b5 = rb by omega)).keep0 k_w10
  have h210 := (hv26.keep S9 (show ¬ b2 = rb by omega)).keep0 k_w10
  have K10 : Kp w w10 n_ := (K6.trans S10 fun q hq e => by have e : q = rb := e; omega)
  have z10 := K10.size
  refine KGO ?_
  refine tyTm.app1 ⟨(fN : Nat), wdN, lsN⟩ ho10 OM a_b10 OM OM fun v11 w11 o11 k11 => ?_
  have h511 := h510.keep k11 hn5
  have h11 := h10.keep k11 hnr
  have h211 := h210.keep k11 hn2
  have hod11 := zad (D := [3]) hod10 k11 (zaC ho10 (by decide)) (by decide)
  have K11 := zav ho10 k11 K10 (yag _)
  obtain ⟨a11, c11, rfl⟩ := zab o11
  refine ⟨(S10.mono fun q _ e => .inl e).trans' (k11.mono fun q _ e => .inr e), ?_⟩
  refine KGO ?_
  refine Yd (i := 0) h511 (by simp) (by rfl) ⟨rfl, by simp, by simp⟩ fun w12 v12 k12 => ?_
  refine KGO ?_
  refine ⟨(stN, ⟨a11, _, c11⟩, ts ++ [⟨(fN : Nat), wdN, lsN⟩]), FR, ⟨keeps_new K11 k12 OM, h211.keep k12 (show ¬ b2 = b5 by omega), h11.keep k12 (show ¬ rb = b5 by omega), v12, zad (D := [141]) o11 k12 (zag h511 (by decide)) (by decide), zad (D := [3]) hod11 k12 (zag h511 (by decide)) (by decide), ?_, ?_, ?_, ?_⟩, ?_⟩
  ·dsimp only; rw [List.length_append, List.length_singleton]; omega
  ·dsimp only; rw [List.length_append, List.length_singleton, show n0 - (ts.length + 1) = k by omega, List.append_assoc]; exact ht1
  ·dsimp only; rw [List.length_append, List.length_singleton, show n0 - (ts.length + 1) = k by omega]; exact ht2
  ·dsimp only; rw [zkG]; omega
  dsimp only; rw [List.length_append, List.length_singleton]; omega
 have hfin : ts = (termsR n0 s2).1 ∧ st = (termsR n0 s2).2 := by
  by_cases hlt : ts.length < n0
  ·have hs0 : stL st = 0 := Decidable.byContradiction fun h => hx ⟨hlt, h⟩
   have : termsR (n0 - ts.length) st = ([], st) := by
    obtain ⟨k, hk⟩ : ∃ k, n0 - ts.length = k + 1 := ⟨n0 - ts.length - 1, OM⟩
    rw [hk, termsR, if_pos hs0]
   rw [this] at ht1 ht2
   exact ⟨by rw [← ht1]; simp, ht2⟩
  have : termsR (n0 - ts.length) st = ([], st) := by rw [show n0 - ts.length = 0 by omega]; rfl
  rw [this] at ht1 ht2
  exact ⟨by rw [← ht1]; simp, ht2⟩
 rw [← hfin.1, ← hfin.2] at hpar
 clear hfin ht1 ht2
 have hrd : readS u = if st = some [] ∧ rightS ⟨ts, iL D⟩ = true ∧ serS ⟨ts, iL D⟩ = u then some ⟨ts, iL D⟩ else none := by unfold readS; rw [hpar]
 have hil : (iL D).length = D.length := zbl D
 have hsm : SmS ⟨ts, iL D⟩ := ⟨DO, DO, fun t ht => by
  have : wtT t ≤ wtL ts := zjs t ht
  unfold wtT at this
  exact ⟨OM, OM⟩⟩
 have hsl : (serS ⟨ts, iL D⟩).length ≤ 1000000000000 := yaw (zni (c := u.length) DO DO OM) OM
 have hdu : ∀ x, st = some x → x.length ≤ 140737488355328 := fun x e => by subst e; simp only [stL] at hwt; omega
 have hb2w : w.heap.size ≤ b2 := OM
 have hDl : D.length ≤ 10000000 := OM
 clear hpar hwd hnl htl
 by_cases hlt : ts.length < n0
 rotate_left
 refine KGO ?_
 clear a5 qr
 generalize wr = wz at *
 rotate_left
 have hs0 : stL st = 0 := Decidable.byContradiction fun h => hx ⟨hlt, h⟩
 refine KGO ?_
 refine Ya (Tryz.call52 _ _) (zeO (w := wr) st hv) ?_
 rintro e wz ⟨rfl, kz⟩
 replace hv := hv.keep0 kz
 replace h5 := h5.keep0 kz
 replace hv2 := hv2.keep0 kz
 replace ho := own_keep0 ho kz
 replace hod := own_keep0 hod kz
 replace hK := hK.trans0 kz
 clear a5 qr kz
 refine RT ?_
 refine KGO ?_
 all_goals
  clear hx hlt
  refine Ya (Tryz.call56 _ _) (zhV (w := wz) st hv hdu) ?_
  rintro e w6 ⟨rfl, k6⟩
  have K6 := hK.trans0 k6
  have h56 := h5.keep0 k6
  have hv26 := hv2.keep0 k6
  have os6 : OwS w6 w.heap.size ⟨⟨ja, ts.length, jc⟩, ⟨da, D.length, dc⟩⟩ ⟨ts, iL D⟩ := ⟨own_keep0 ho k6, own_keep0 hod k6⟩
  have a56 := h56.at
  have q6 := Yb w6 n_
  clear hv h5 hv2 ho hod hK k6
  refine RT ?_
  by_cases hdone : st = some []
  rotate_left
  ·have hno : readS u = none := by rw [hrd]; exact if_neg fun h => hdone h.1
   rw [decide_eq_false hdone]
   refine KGO ?_
   refine Ye (zdz _) ?_
   refine KGO ?_
   refine Yi [.slice none 0 0, .slice none 0 0] hv26 (by rfl) rfl (zak (by rfl)) fun wy v2y k2y => ?_
   have a2y := v2y.at
   have qy := Yb wy n_
   refine KGO ?_
   refine GW ?_
   refine KGO ?_
   refine GW ?_
   exact ⟨⟨zeroSv, by rw [hno]; rfl, fun s h => by rw [hno] at h; cases h⟩, keeps_new K6 k2y hb2w⟩
  rw [decide_eq_true hdone]
  refine KGO ?_
  refine Ya (Tryz.call116 _ _) (zfh (w := w6) ⟨⟨ja, ts.length, jc⟩, ⟨da, D.length, dc⟩⟩ ⟨ts, iL D⟩ os6.rd hsm (hE.keep K6)) ?_
  rintro e w7 ⟨rfl, k7⟩
  have K7 := K6.trans0 k7
  have h57 := h56.keep0 k7
  have hv27 := hv26.keep0 k7
  have os7 := os6.keep k7
  have a57 := h57.at
  have q7 := Yb w7 n_
  refine RT ?_
  cases hri : rightS ⟨ts, iL D⟩ with
  | false =>
   have hno : readS u = none := by rw [hrd]; exact if_neg fun h => by rw [hri] at h; cases h.2.1
   refine KGO ?_
   refine Ye (zdz _) ?_
   refine KGO ?_
   refine Yi [.slice none 0 0, .slice none 0 0] hv27 (by rfl) rfl (zak (by rfl)) fun wy v2y k2y => ?_
   have a2y := v2y.at
   have qy := Yb wy n_
   refine KGO ?_
   refine GW ?_
   refine KGO ?_
   refine GW ?_
   exact ⟨⟨zeroSv, by rw [hno]; rfl, fun s h => by rw [hno] at h; cases h⟩, keeps_new K7 k2y hb2w⟩
  | true =>
  clear a56 q6 os6 h56 hv26 K6
  refine KGO ?_
  refine Ya (Tryz.call69 _ _) (zlt (w := w7) ⟨⟨ja, ts.length, jc⟩, ⟨da, D.length, dc⟩⟩ ⟨ts, iL D⟩ os7.rd hsm (hE.keep K7) DO hsl) ?_
  rintro e w8 ⟨rfl, k8⟩
  have K8 := K7.trans0 k8
  have h58 := h57.keep0 k8
  have hv28 := hv27.keep0 k8
  have os8 := os7.keep k8
  have a58 := h58.at
  have q8 := Yb w8 n_
  clear a57 q7 os7 h57 hv27 K7
  refine RT ?_
  by_cases heq : serS ⟨ts, iL D⟩ = u
  rotate_left
  ·have hno : readS u = none := by rw [hrd]; exact if_neg fun h => heq h.2.2
   refine KGO ?_
   refine Br.dec_no (fun h => heq (zbB.1 h)) ?_
   refine GW ?_
   refine KGO ?_
   refine Ye (zdz _) ?_
   refine KGO ?_
   refine Yi [.slice none 0 0, .slice none 0 0] hv28 (by rfl) rfl (zak (by rfl)) fun wy v2y k2y => ?_
   have a2y := v2y.at
   have qy := Yb wy n_
   refine KGO ?_
   refine GW ?_
   refine KGO ?_
   refine GW ?_
   exact ⟨⟨zeroSv, by rw [hno]; rfl, fun s h => by rw [hno] at h; cases h⟩, keeps_new K8 k2y hb2w⟩
  have hyes : readS u = some ⟨ts, iL D⟩ := by rw [hrd]; exact if_pos ⟨hdone, hri, heq⟩
  rw [heq]
  refine KGO ?_
  refine SVK (sgC ⟨⟨ja, ts.length, jc⟩, ⟨da, D.length, dc⟩⟩) hv28 fun wy v2y k2y => ?_
  have a2y := v2y.at
  have qy := Yb wy n_
  refine KGO ?_
  refine GW ?_
  refine KGO ?_
  refine GW ?_
  refine ⟨⟨⟨⟨ja, ts.length, jc⟩, ⟨da, D.length, dc⟩⟩, by rw [hyes]; rfl, fun s h => ?_⟩, keeps_new K8 k2y hb2w⟩
  rw [hyes] at h
  injection h with h
  subst h
  exact ⟨own_base (zad (D := [141]) os8.t k2y (zag hv28 (by decide)) (by decide)) OM, own_base (zad (D := [3]) os8.d k2y (zag hv28 (by decide)) (by decide)) OM⟩
end
end Go.Proofs.YtennokckmjcefaaGreatDoor
