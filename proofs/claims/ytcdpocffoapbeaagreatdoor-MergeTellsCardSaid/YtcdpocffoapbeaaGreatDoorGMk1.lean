/- Helper text of this claim: lemmas and contracts that the proved statement rests on; no conditions of its own. -/
import Derived.Test.YtcdpocffoapbeaaGreatDoorGMm0
namespace Go.Proofs.YtcdpocffoapbeaaGreatDoor
set_option linter.unusedVariables false
open Go.Shelf Go.RowKit Go.Pw Go.Vc Go.Cs Go.Lib Go.Cd Go.Mg
set_option linter.unusedVariables false
theorem zoc {a b : List Int} (dead : List Int) (ha : AscB ltI a) : (b.foldl withL a).filter (fun d => !decide (d ∈ dead)) = sortI ((a ++ b).filter fun d => !decide (d ∈ dead)) := by
 have h1 := zdo b a (zee.1 ha)
 refine zjX stoI (zkC _ (zee.2 h1.1)) fun z => ?_
 rw [List.mem_filter, List.mem_filter, h1.2, List.mem_append]
theorem zaT : ∀ (n : Nat) (a b : List Trm), a.length + b.length ≤ n → namesL a b = (mergeT a b).map (·.1)
 | _, [], [], _ => by rw [namesL, zcP]; rfl
 | n, x :: a, [], h => by
  cases n with
  | zero => simp at h
  | succ n => rw [namesL, zbW, List.map_cons, zaT n a [] (by simp at h ⊢; omega)]
 | n, [], y :: b, h => by
  cases n with
  | zero => simp at h
  | succ n => rw [namesL, zcq, List.map_cons, zaT n [] b (by simp at h ⊢; omega)]
 | n, x :: a, y :: b, h => by
  cases n with
  | zero => simp at h
  | succ n =>
   have l1 := zdV x y
   have l2 := zgP x y
   simp only [List.length_cons] at h
   rw [namesL, zbV]
   by_cases h1 : ltK x.key y.key = true
   ·rw [if_pos h1, if_pos (l1.2 h1), List.map_cons, zaT n a (y :: b) (by rw [List.length_cons]; omega)]
   ·rw [if_neg h1, if_neg (fun e => h1 (l1.1 e))]
    by_cases h2 : ltK y.key x.key = true
    ·have hne : ¬ cmpT x y = 0 := fun e => by
      rw [l2.1 e, stoK.irr] at h2; cases h2
     rw [if_pos h2, if_neg hne, List.map_cons, zaT n (x :: a) b (by rw [List.length_cons]; omega)]
    ·have he := stoK.tri _ _ (by simpa using h1) (by simpa using h2)
     rw [if_neg h2, if_pos (l2.2 he), List.map_cons, zaT n a b (by omega)]
def postsT (l : List Trm) (k : Int × List UInt8) : List Pst := match l.find? (fun t => decide (t.key = k)) with | some t => plT t | none => []
theorem zaw (x : Trm) (l : List Trm) (k : Int × List UInt8) : postsT (x :: l) k = if x.key = k then plT x else postsT l k := by
 unfold postsT
 rw [List.find?_cons]
 by_cases h : x.key = k
 ·rw [if_pos h, decide_eq_true h]
 ·rw [if_neg h, decide_eq_false h]
theorem zfX {l : List Trm} {k : Int × List UInt8} (h : ∀ t ∈ l, ltK k t.key = true) : postsT l k = [] := by
 unfold postsT
 rw [List.find?_eq_none.2 fun t ht => ?_]
 have := h t ht
 simp only [decide_eq_true_eq]
 intro e
 rw [e, stoK.irr] at this; cases this
def AscK (l : List Trm) : Prop := l.Pairwise fun a b => ltK a.key b.key = true
theorem merge_mem : ∀ (n : Nat) (a b : List Trm), a.length + b.length ≤ n → ∀ z ∈ mergeT a b, (∃ t ∈ a, t.key = z.1.key) ∨ ∃ t ∈ b, t.key = z.1.key := by
 intro n a b _ z hz
 obtain ⟨⟨o1, o2⟩, hm, rfl⟩ := List.mem_map.1 hz
 obtain ⟨h1, h2, h3⟩ := (zbb cmpT a b).1 _ hm
 dsimp only at h1 h2 h3
 cases o2 with
 | some t => exact .inr ⟨t, h3 t rfl, by cases o1 <;> rfl⟩
 | none =>
  cases o1 with
  | none => simp at h1
  | some s => exact .inl ⟨s, h2 s rfl, rfl⟩
theorem zbe : ∀ (n : Nat) (a b : List Trm), a.length + b.length ≤ n → AscK a → AscK b → ∀ z ∈ mergeT a b, z.2 = orP (postsT a z.1.key) (postsT b z.1.key)
 | _, [], [], _, _, _, z, hz => by rw [zcP] at hz; cases hz
 | 0, x :: a, b, h, _, _, _, _ => by simp at h
 | 0, [], y :: b, h, _, _, _, _ => by simp at h
 | n + 1, x :: a, [], h, ha, hb, z, hz => by
  have hc := List.pairwise_cons.1 ha
  rw [zbW] at hz
  rcases List.mem_cons.1 hz with rfl | hz
  ·rw [zaw, if_pos rfl]; rfl
  ·have hl : a.length + ([] : List Trm).length ≤ n := by simp at h ⊢; omega
   have ih := zbe n a [] hl hc.2 hb z hz
   rw [zaw, if_neg, ih]
   intro e
   rcases merge_mem n a [] hl z hz with ⟨t, ht, e2⟩ | ⟨t, ht, _⟩
   ·have := hc.1 t ht
    rw [e2, e, stoK.irr] at this; cases this
   ·cases ht
 | n + 1, [], y :: b, h, ha, hb, z, hz => by
  have hc := List.pairwise_cons.1 hb
  rw [zcq] at hz
  rcases List.mem_cons.1 hz with rfl | hz
  ·rw [zaw, if_pos rfl]; rfl
  ·have hl : ([] : List Trm).length + b.length ≤ n := by simp at h ⊢; omega
   have ih := zbe n [] b hl ha hc.2 z hz
   rw [zaw, if_neg, ih]
   intro e
   rcases merge_mem n [] b hl z hz with ⟨t, ht, _⟩ | ⟨t, ht, e2⟩
   ·cases ht
   ·have := hc.1 t ht
    rw [e2, e, stoK.irr] at this; cases this
 | n + 1, x :: a, y :: b, h, ha, hb, z, hz => by
  have hca := List.pairwise_cons.1 ha
  have hcb := List.pairwise_cons.1 hb
  have l1 := zdV x y
  have l2 := zgP x y
  simp only [List.length_cons] at h
  rw [zbV] at hz
  by_cases h1 : cmpT x y < 0
  ·rw [if_pos h1] at hz
   have hxy := l1.1 h1
   have hyb : ∀ t ∈ y :: b, ltK x.key t.key = true := fun t ht => by
    rcases List.mem_cons.1 ht with rfl | ht
    ·exact hxy
    ·exact stoK.tr _ _ _ hxy (hcb.1 t ht)
   rcases List.mem_cons.1 hz with rfl | hz
   ·rw [zfX hyb, zaw, if_pos rfl]
   ·have hl : a.length + (y :: b).length ≤ n := by rw [List.length_cons]; omega
    have ih := zbe n a (y :: b) hl hca.2 hb z hz
    rw [zaw x, if_neg, ih]
    intro e
    rcases merge_mem n a (y :: b) hl z hz with ⟨t, ht, e2⟩ | ⟨t, ht, e2⟩
    ·have := hca.1 t ht
     rw [e2, e, stoK.irr] at this; cases this
    ·have := hyb t ht
     rw [e2, e, stoK.irr] at this; cases this
  ·rw [if_neg h1] at hz
   by_cases h2 : cmpT x y = 0
   ·rw [if_pos h2] at hz
    have he := l2.1 h2
    rcases List.mem_cons.1 hz with rfl | hz
    ·rw [zaw, if_pos he, zaw, if_pos rfl]
    ·have hl : a.length + b.length ≤ n := by omega
     have ih := zbe n a b hl hca.2 hcb.2 z hz
     have hne : ¬ y.key = z.1.key := fun e => by
      rcases merge_mem n a b hl z hz with ⟨t, ht, e2⟩ | ⟨t, ht, e2⟩
      ·have := hca.1 t ht
       rw [e2, he, e, stoK.irr] at this; cases this
      ·have := hcb.1 t ht
       rw [e2, e, stoK.irr] at this; cases this
     rw [zaw x, if_neg (by rw [he]; exact hne), zaw y, if_neg hne, ih]
   ·rw [if_neg h2] at hz
    have hyx : ltK y.key x.key = true := by
     cases hk : ltK y.key x.key with
     | true => rfl
     | false => exact absurd (l2.2 (stoK.tri _ _ (by cases hq : ltK x.key y.key with | false => rfl | true => exact absurd (l1.2 hq) h1) hk)) h2
    have hxa : ∀ t ∈ x :: a, ltK y.key t.key = true := fun t ht => by
     rcases List.mem_cons.1 ht with rfl | ht
     ·exact hyx
     ·exact stoK.tr _ _ _ hyx (hca.1 t ht)
    rcases List.mem_cons.1 hz with rfl | hz
    ·rw [zfX hxa, zaw, if_pos rfl]
    ·have hl : (x :: a).length + b.length ≤ n := by rw [List.length_cons]; omega
     have ih := zbe n (x :: a) b hl ha hcb.2 z hz
     rw [zaw y, if_neg, ih]
     intro e
     rcases merge_mem n (x :: a) b hl z hz with ⟨t, ht, e2⟩ | ⟨t, ht, e2⟩
     ·have := hxa t ht
      rw [e2, e, stoK.irr] at this; cases this
     ·have := hcb.1 t ht
      rw [e2, e, stoK.irr] at this; cases this
theorem zjt {α β : Type} {f g : α → Option β} : ∀ l : List α, (∀ x ∈ l, f x = g x) → l.filterMap f = l.filterMap g
 | [], _ => rfl
 | x :: l, h => by rw [List.filterMap_cons, List.filterMap_cons, h x List.mem_cons_self, zjt l fun y hy => h y (List.mem_cons_of_mem _ hy)]
theorem zdi (t : Trm) : rightP (plT t) = true := by
 unfold plT
 cases h : decP t.list with
 | none => rfl
 | some l => exact (zcM.1 h).1
theorem zao (l : List Trm) (k : Int × List UInt8) : rightP (postsT l k) = true := by
 unfold postsT
 cases l.find? fun t => decide (t.key = k) with
 | none => rfl
 | some t => exact zdi t
theorem zbx (s : Sgm) : rightS (validS s) = true := by
 unfold validS
 cases h : rightS s with
 | true => rw [if_pos rfl]; exact h
 | false => rw [if_neg (by decide)]; rfl
def twoR (a b : Sgm) (dead : List Int) : Sgm := ⟨(namesL (validS a).terms (validS b).terms).filterMap fun t => termOf dead (t, orF (postsT (validS a).terms t.key) (postsT (validS b).terms t.key)), ((validS b).docs.foldl withL (validS a).docs).filter fun d => !decide (d ∈ dead)⟩
theorem zhR (a b : Sgm) (dead : List Int) : twoR a b dead = twoS a b dead := by
 have ha := zan.1 (zbx a)
 have hb := zan.1 (zbx b)
 unfold twoR twoS
 rw [zoc dead ha.1.1, zaT _ _ _ (Nat.le_refl _), List.filterMap_map]
 congr 1
 refine zjt _ fun z hz => ?_
 have h := zbe _ _ _ (Nat.le_refl _) ha.2.2 hb.2.2 z hz
 obtain ⟨t, p⟩ := z
 dsimp only [Function.comp] at h ⊢
 rw [zeN (zao _ _) (zao _ _), ← h]
set_option maxRecDepth 100000
theorem zod {l : List Trm} {i : Nat} {k : Int × List UInt8} (hi : i < l.length) (hno : ∀ t ∈ l.take i, t.key ≠ k) (he : l[i].key = k) : postsT l k = plT l[i] := by
 induction i generalizing l with
 | zero =>
  cases l with
  | nil => exact absurd hi (Nat.not_lt_zero _)
  | cons x l =>
   have he : x.key = k := he
   rw [zaw, if_pos he]; rfl
 | succ i ih =>
  cases l with
  | nil => exact absurd hi (Nat.not_lt_zero _)
  | cons x l =>
   have h0 : x.key ≠ k := hno x (by simp)
   rw [zaw, if_neg h0]
   exact ih (l := l) (by simpa using hi) (fun t ht => hno t (by rw [List.take_succ_cons]; exact List.mem_cons_of_mem _ ht)) he
theorem zng {l : List Trm} {k : Int × List UInt8} (hno : ∀ t ∈ l, t.key ≠ k) : postsT l k = [] := by
 induction l with
 | nil => rfl
 | cons x l ih => rw [zaw, if_neg (hno x List.mem_cons_self)]; exact ih fun t ht => hno t (List.mem_cons_of_mem _ ht)
section
variable {w : World}
theorem zaQ (h : Sv) (s : Sgm) (f : Int) (wd : List UInt8) (hr : RowO w h.t.v tmC s.terms) (hl : s.terms.length ≤ 1000000000) (hsm : ∀ t ∈ s.terms, t.list.length ≤ 10000000) :
  Calls Tryz.prog 43 #[.agg (sgC h).toArray, .int .i64 f, .string (str wd)] w fun e w' => ∃ v, e = .returned v ∧ OwnP w' w.heap.size v (postsT s.terms (f, wd)) ∧ Kp w w' n_ := by
 have hn1 := RowO.len hr
 obtain ⟨at_, ct, et, hrt⟩ := hr
 obtain ⟨⟨ta, tn, tc⟩, ⟨da, dn, dc⟩⟩ := h
 injection et with q1 q2 q3
 dsimp only at q1 q2 q3
 subst q1 q2 q3
 clear hn1
 refine zaa (args := [.agg (sgC ⟨⟨ta, s.terms.length, tc⟩, ⟨da, dn, dc⟩⟩).toArray, .int .i64 f, .string (str wd)]) Tryz.func43 rfl NL ?_; refine GW ?_
 obtain ⟨a_b1, v_b1, k_w1, z_w1, r_w1⟩ := new5 w 31 (sgC ⟨⟨ta, s.terms.length, tc⟩, ⟨da, dn, dc⟩⟩)
 generalize w.alloc (.cells (List.toArray (sgC ⟨⟨ta, s.terms.length, tc⟩, ⟨da, dn, dc⟩⟩)) 31) = w1 at *
 generalize hs_b1 : w.heap.size = b1 at *
 unfold sgC at a_b1
 dsimp only at a_b1
 refine KGO ?_
 refine Loop.intro (ι := Nat) (fun i => [(1, .int .i64 f), (2, .string (str wd)), (3, .pointer (some ⟨b1, 0, none⟩)), (7, .int .i64 (i : Nat))])
  (fun i wr => Kp w1 wr n_ ∧ i ≤ s.terms.length ∧ ∀ t ∈ s.terms.take i, t.key ≠ (f, wd)) (fun i => s.terms.length - i) 0 ⟨rfl, rfl, rfl, rfl, trivial⟩ ⟨Kp.refl _ _, Nat.zero_le _, by simp⟩ ?_
 rintro i gg wr ⟨hK, hi, hno⟩
 have hKw := k_w1.trans0 hK
 clear r_w1
 refine GW ?_
 by_cases hlt : i < s.terms.length
 rotate_left
 ·rw [List.take_of_length_le (by omega)] at hno
  have hz := zng hno
  clear hno
  refine KGO ?_
  rw [hz]
  exact ⟨_, rfl, zaY _ _, hKw⟩
 obtain ⟨g, o, rfl, hg, hat⟩ := hrt (by omega)
 have qr := Kp.refl wr n_
 have hsm1 := hsm _ (List.getElem_mem hlt)
 have hnext : s.terms[i].key ≠ (f, wd) → ∀ t ∈ s.terms.take (i + 1), t.key ≠ (f, wd) := fun hne t ht => by
  rw [List.take_succ_eq_append_getElem hlt, List.mem_append, List.mem_singleton] at ht
  rcases ht with ht | rfl
  ·exact hno t ht
  ·exact hne
 have hyes : s.terms[i].key = (f, wd) → postsT s.terms (f, wd) = plT s.terms[i] := zod hlt hno
 clear hno
 by_cases h1 : s.terms[i].field = f
 ·by_cases h2 : str s.terms[i].word = str wd
  ·have hy := hyes (by unfold Trm.key; rw [h1, zce.1 h2])
   clear hyes hnext
   refine KGO ?_
   refine CallS.of (Tryz.call78 _ _) (zeV (w := wr) s.terms[i].list hsm1) ?_
   rintro e w2 ⟨⟨v, rfl, ho, hnn⟩, k2⟩
   obtain ⟨a2, c2, e2⟩ := OwnP.shape ho
   subst e2
   refine RT ?_
   refine KGO ?_
   rw [hy]
   exact ⟨_, rfl, ho.base (by have := hKw.size; omega), hKw.trans0 k2⟩
  ·have hnx := hnext (fun e => h2 (by injection e with _ e; rw [e]))
   clear hyes hnext
   refine KGO ?_
   exact ⟨i + 1, ⟨rfl, rfl, rfl, v_int (by simp), trivial⟩, ⟨hK, by omega, hnx⟩, by dsimp only; omega⟩
 ·have hnx := hnext (fun e => h1 (by injection e))
  clear hyes hnext
  refine KGO ?_
  exact ⟨i + 1, ⟨rfl, rfl, rfl, v_int (by simp), trivial⟩, ⟨hK, by omega, hnx⟩, by dsimp only; omega⟩
end
theorem zlm {x y : List Int} (hx : AscB ltI x) (hy : AscB ltI y) : AscB ltI (unI x y) := (zcD _ x y (Nat.le_refl _) hx hy).1
theorem zno {x y : List Int} (hx : AscB ltI x) (hy : AscB ltI y) : unI x y = unI y x :=
 zbL stoI _ _ (zlm hx hy) (zlm hy hx) fun z => by rw [ziV hx hy, ziV hy hx, or_comm]
theorem zcO {docs : List Int} {t : Trm} (h : okTerm docs t = true) : plT t ≠ [] ∧ t.list = encP (plT t) := by
 unfold okTerm at h
 rw [Bool.and_eq_true] at h
 have h := h.2
 unfold okList at h
 unfold plT
 cases hd : decP t.list with
 | none => rw [hd] at h; cases h
 | some l =>
  rw [hd] at h
  refine ⟨fun e => ?_, (zcM.1 hd).2.symm⟩
  have e : l = [] := e
  rw [e] at h
  simp at h
theorem zfM {x y : Int × List UInt8} (h : ltK x y = true) : x ≠ y := fun e => by
 rw [e, stoK.irr] at h; cases h
theorem zhD : ∀ a b : List Trm, AscK a → AscK b → (∀ t, t ∈ a ↔ t ∈ b) → a = b
 | [], [], _, _, _ => rfl
 | [], y :: b, _, _, h => by have := (h y).2 List.mem_cons_self; cases this
 | x :: a, [], _, _, h => by have := (h x).1 List.mem_cons_self; cases this
 | x :: a, y :: b, ha, hb, h => by
  have hca := List.pairwise_cons.1 ha
  have hcb := List.pairwise_cons.1 hb
  have e : x = y := by
   rcases List.mem_cons.1 ((h x).1 List.mem_cons_self) with e | h1
   ·exact e
   ·rcases List.mem_cons.1 ((h y).2 List.mem_cons_self) with e | h2
    ·exact e.symm
    ·exact absurd rfl (zfM (stoK.tr _ _ _ (hca.1 y h2) (hcb.1 x h1)))
  subst e
  rw [zhD a b hca.2 hcb.2 fun t => ⟨fun ht => ?_, fun ht => ?_⟩]
  ·rcases List.mem_cons.1 ((h t).1 (List.mem_cons_of_mem _ ht)) with e | h1
   ·rw [e] at ht; exact absurd rfl (zfM (hca.1 x ht))
   ·exact h1
  ·rcases List.mem_cons.1 ((h t).2 (List.mem_cons_of_mem _ ht)) with e | h1
   ·rw [e] at ht; exact absurd rfl (zfM (hcb.1 x ht))
   ·exact h1
theorem zcf : ∀ (l : List Trm), AscK l → ∀ t ∈ l, postsT l t.key = plT t
 | x :: l, h, t, ht => by
  have hc := List.pairwise_cons.1 h
  rw [zaw]
  rcases List.mem_cons.1 ht with rfl | ht
  ·rw [if_pos rfl]
  ·rw [if_neg (zfM (hc.1 t ht)), zcf l hc.2 t ht]
theorem zdQ {l : List Trm} {k : Int × List UInt8} (h : postsT l k ≠ []) : ∃ t ∈ l, t.key = k ∧ plT t = postsT l k := by
 unfold postsT at h ⊢
 cases hf : l.find? fun t => decide (t.key = k) with
 | none => rw [hf] at h; exact absurd rfl h
 | some t => exact ⟨t, List.mem_of_find?_eq_some hf, of_decide_eq_true (List.find?_some (p := fun t => decide (Trm.key t = k)) hf), rfl⟩
theorem zmj {a b : Sgm} (ha : rightS a = true) (hb : rightS b = true) (h : ∀ k, postsT a.terms k = postsT b.terms k) : ∀ t ∈ a.terms, t ∈ b.terms := fun t ht => by
 have ha := zan.1 ha
 have hb := zan.1 hb
 have h1 := zcO (ha.2.1 t ht)
 have h2 := zcf _ ha.2.2 t ht
 obtain ⟨u, hu, e1, e2⟩ := zdQ (l := b.terms) (k := t.key) (by rw [← h, h2]; exact h1.1)
 have h3 := zcO (hb.2.1 u hu)
 have e3 : plT u = plT t := by rw [e2, ← h, h2]
 have e4 : u.list = t.list := by rw [h3.2, h1.2, e3]
 have e5 : u = t := by
  obtain ⟨f, wd, ls⟩ := u
  obtain ⟨f2, wd2, ls2⟩ := t
  unfold Trm.key at e1
  injection e1 with e6 e7
  dsimp only at e4 e6 e7
  rw [e4, e6, e7]
 exact e5 ▸ hu
theorem zmY {a b : Sgm} (ha : rightS a = true) (hb : rightS b = true) (hd : a.docs = b.docs) (h : ∀ k, postsT a.terms k = postsT b.terms k) : a = b := by
 have ht := zhD a.terms b.terms (zan.1 ha).2.2 (zan.1 hb).2.2 fun t => ⟨zmj ha hb h t, zmj hb ha (fun k => (h k).symm) t⟩
 cases a
 cases b
 dsimp only at ht hd
 rw [ht, hd]
end Go.Proofs.YtcdpocffoapbeaaGreatDoor
