/- Helper lemmas that the proved statement rests on; no conditions of their own. -/
import Derived.Test.YtennokckmjcefaaGreatDoorGNd9
set_option linter.unusedVariables false
namespace Go.Pw
open Go
set_option linter.unusedSectionVars false
section
variable {P : Program} {ops : Array Oper} {S : World → Prop} {hs : Option Tmp → Bool} {m : Array Nat}
def need (m : Array Nat) (i j : Nat) : Bool := (m.getD i 0).testBit j
structure OkU (P : Program) (hs : Option Tmp → Bool) (ops : Array Oper) (m : Array Nat) : Prop where
 sel : ∀ (i : Nat) (o : Oper), ops[i]? = some o → NoSel o
 back : ∀ (i : Nat) (o : Oper), ops[i]? = some o → ∀ e ∈ o.after, Region.binds .any e = true → e.on < i
 dep : ∀ (i : Nat) (o : Oper), ops[i]? = some o → ∀ j, j < i → need m i j = true → ∃ e ∈ o.after, Region.binds .any e = true ∧ (e.on = j ∨ (j < e.on ∧ need m e.on j = true))
 low : ∀ i j, i < ops.size → i ≤ j → need m i j = false
 comm : ∀ (i : Nat) (o : Oper), ops[i]? = some o → ∀ (j : Nat) (p : Oper), ops[j]? = some p → j ≠ i → need m i j = false → need m j i = false → (other P hs ops i = false ∨ other P hs ops j = false) → commH P hs ops p o = true
 trans : ∀ i j k, i < ops.size → need m i j = true → need m j k = true → need m i k = true
theorem ziw {listed : Array Bool} (ok : OkU P hs ops m) (hcl : Closed ops listed) : ∀ (n i : Nat) (o : Oper), i ≤ n → ops[i]? = some o →
  (∀ e ∈ o.after, Region.binds .any e = true → listed.getD e.on false = true) → ∀ j, j < i → need m i j = true → listed.getD j false = true := by
 intro n
 induction n with
 | zero => intro i o hi _ _ j hj; omega
 | succ n ih =>
  intro i o hi ho hdeps j hj hm
  obtain ⟨e, he, hb, hor⟩ := ok.dep i o ho j hj hm
  have hlt := ok.back i o ho e he hb
  have hl := hdeps e he hb
  rcases hor with rfl | hor
  ·exact hl
  ·obtain ⟨o', ho'⟩ : ∃ o', ops[e.on]? = some o' := by
    obtain ⟨hi', _⟩ := Array.getElem?_eq_some_iff.1 ho
    exact ⟨ops[e.on], Array.getElem?_eq_getElem (by omega)⟩
   exact ih e.on o' (by omega) ho' (hcl e.on o' ho' hl) j hor.1 hor.2
theorem bubbleU {Q : Act → World → Prop} (ok : OkU P hs ops m) {i : Nat} {o : Oper} (ho : ops[i]? = some o) (hio : other P hs ops i = false) : ∀ (pre post : List Nat),
  (∀ j ∈ pre, j ≠ i ∧ need m i j = false ∧ need m j i = false) → ∀ (a : Act) (w : World), S w → wpIh P S hs ops Q (pre ++ i :: post) a w → TIh P S hs ops i (wpIh P S hs ops Q (pre ++ post)) a w
 | [], post, _, a, w, hw0, h => h
 | j :: pre, post, hp, a, w, hw0, h => by
  have ih := bubbleU (Q := Q) ok ho hio pre post (fun k hk => hp k (List.mem_cons_of_mem _ hk))
  have h' : TIh P S hs ops j (TIh P S hs ops i (wpIh P S hs ops Q (pre ++ post))) a w := TIh_mono hw0 (fun a w hS => ih a w hS) h
  show TIh P S hs ops i (TIh P S hs ops j (wpIh P S hs ops Q (pre ++ post))) a w
  obtain ⟨hj, hm1, hm2⟩ := hp j List.mem_cons_self
  exact swapTI hw0 (fun p hp => ok.sel j p hp) (fun p hp => ok.sel i p hp) (fun p o' hp ho' => ok.comm i o' ho' j p hp hj hm1 hm2 (.inl hio)) h'
def wpTr (P : Program) (S : World → Prop) (hs : Option Tmp → Bool) (ops : Array Oper) (m : Array Nat) (Q : Act → World → Prop) : Nat → List Nat → List Nat → Act → World → Prop
 | 0, _, fls => wpIh P S hs ops Q fls
 | k + 1, rem, fls => fun a w => ∀ i, (i ∈ rem ∧ (rem.all fun j => !need m i j) = true) →
   wpIh P S hs ops (TIh P S hs ops i (wpTr P S hs ops m Q k (rem.filter fun j => j != i) (fls.filter fun j => !need m i j))) (fls.filter fun j => need m i j) a w
theorem zdR {L : List Nat} {i : Nat} (h : L.Pairwise (· < ·)) (hi : i ∈ L) : ∃ pre post, L = pre ++ i :: post ∧ (L.filter fun j => j != i) = pre ++ post ∧ (∀ j ∈ pre, j < i) ∧ (∀ j ∈ post, i < j) := by
 obtain ⟨pre, post, rfl⟩ := List.append_of_mem hi
 have h1 : ∀ j ∈ pre, j < i := fun j hj => (List.pairwise_append.1 h).2.2 j hj i List.mem_cons_self
 have h2 : ∀ j ∈ post, i < j := fun j hj => (List.pairwise_cons.1 (List.pairwise_append.1 h).2.1).1 j hj
 refine ⟨pre, post, rfl, ?_, h1, h2⟩
 rw [List.filter_append, List.filter_cons_of_neg (by simp), List.filter_eq_self.2, List.filter_eq_self.2]
 ·intro j hj; have := h2 j hj; simp; omega
 ·intro j hj; have := h1 j hj; simp; omega
theorem floatOut {Q : Act → World → Prop} (ok : OkU P hs ops m) {i : Nat} {o : Oper} (ho : ops[i]? = some o) (hio : other P hs ops i = false) : ∀ (k : Nat) (rem fls : List Nat), rem.length = k → rem.Pairwise (· < ·) → (∀ j ∈ rem, j < ops.size ∧ j ≠ i ∧ need m i j = false) →
  fls.Pairwise (· < ·) → (∀ j ∈ fls, j < ops.size ∧ need m i j = false) → i ∈ fls → ∀ (a : Act) (w : World), S w → wpTr P S hs ops m Q k rem fls a w → TIh P S hs ops i (wpTr P S hs ops m Q k rem (fls.filter fun j => j != i)) a w := by
 have hfl : floats P hs o = true := by
  unfold other at hio
  rw [ho] at hio
  simpa using hio
 intro k
 induction k with
 | zero =>
  intro rem fls _ _ _ hpw hfls hi a w hw h
  obtain ⟨pre, post, rfl, he, h1, h2⟩ := zdR hpw hi
  rw [he]
  exact bubbleU ok ho hio pre post (fun j hj => ⟨by have := h1 j hj; omega, (hfls j (by simp [hj])).2, ok.low j i (hfls j (by simp [hj])).1 (Nat.le_of_lt (h1 j hj))⟩) a w hw h
 | succ k ih =>
  intro rem fls hlen hrp hrem hpw hfls hi a w hw h
  obtain ⟨i0, r, rfl⟩ : ∃ i0 r, rem = i0 :: r := by
   cases rem with
   | nil => cases hlen
   | cons a b => exact ⟨a, b, rfl⟩
  have hav0 : ((i0 :: r).all fun j => !need m i0 j) = true := List.all_eq_true.2 fun j hj => by
   rw [ok.low i0 j (hrem i0 List.mem_cons_self).1]
   ·rfl
   ·rcases List.mem_cons.1 hj with rfl | hj
    ·exact Nat.le_refl _
    ·exact Nat.le_of_lt ((List.pairwise_cons.1 hrp).1 j hj)
  refine TIh_conj ho hw (.inl hfl) i0 ⟨List.mem_cons_self, hav0⟩ fun i' hi' => ?_
  have h' := h i' hi'
  obtain ⟨hi's, hi'ne, hi'n⟩ := hrem i' hi'.1
  by_cases hn : need m i' i = true
  ·obtain ⟨pre, post, rfl, he, h1, h2⟩ := zdR hpw hi
   rw [he]
   have e3 : ((pre ++ i :: post).filter fun j => need m i' j) = (pre.filter fun j => need m i' j) ++ i :: (post.filter fun j => need m i' j) := by
    rw [List.filter_append, List.filter_cons_of_pos hn]
   have e4 : ((pre ++ i :: post).filter fun j => !need m i' j) = (pre.filter fun j => !need m i' j) ++ (post.filter fun j => !need m i' j) := by
    rw [List.filter_append, List.filter_cons_of_neg (by simp [hn])]
   rw [e3, e4] at h'
   rw [List.filter_append, List.filter_append]
   exact bubbleU ok ho hio _ _ (fun j hj => by
    have hj := (List.mem_filter.1 hj).1
    exact ⟨by have := h1 j hj; omega, (hfls j (by simp [hj])).2, ok.low j i (hfls j (by simp [hj])).1 (Nat.le_of_lt (h1 j hj))⟩) a w hw h'
  ·have hn : need m i' i = false := by simpa using hn
   have e1 : ((fls.filter fun j => j != i).filter fun j => need m i' j) = fls.filter fun j => need m i' j := by
    rw [List.filter_filter]
    refine List.filter_congr fun j _ => ?_
    by_cases hji : j = i
    ·subst hji; simp [hn]
    ·simp [hji]
   have e2 : ((fls.filter fun j => j != i).filter fun j => !need m i' j) = (fls.filter fun j => !need m i' j).filter fun j => j != i := by
    rw [List.filter_filter, List.filter_filter]
    exact List.filter_congr fun j _ => Bool.and_comm _ _
   rw [e1, e2]
   have h2 : wpIh P S hs ops (TIh P S hs ops i (TIh P S hs ops i' (wpTr P S hs ops m Q k ((i0 :: r).filter fun j => j != i') ((fls.filter fun j => !need m i' j).filter fun j => j != i)))) (fls.filter fun j => need m i' j) a w := by
    refine zdN _ hw (fun a w hS hh => ?_) h'
    refine swapTI hS (fun p hp => ok.sel i' p hp) (fun p hp => ok.sel i p hp) (fun p o' hp ho' => ok.comm i o' ho' i' p hp hi'ne hi'n hn (.inl hio)) ?_
    obtain ⟨pre, post, er, he, _, _⟩ := zdR hrp hi'.1
    refine TIh_mono hS (fun a w hS hh => ih _ _ ?_ (hrp.filter _) (fun j hj => hrem j (List.mem_filter.1 hj).1) (hpw.filter _) (fun j hj => hfls j (List.mem_filter.1 hj).1) (List.mem_filter.2 ⟨hi, by simp [hn]⟩) a w hS hh) hh
    rw [he]; rw [er] at hlen; simp at hlen ⊢; omega
   rw [zev] at h2
   have h3 := bubbleU (post := []) ok ho hio _ (fun j hj => by
    obtain ⟨hj1, hj2⟩ := List.mem_filter.1 hj
    refine ⟨fun e => ?_, (hfls j hj1).2, ?_⟩
    ·subst e; rw [hn] at hj2; cases hj2
    ·cases hc : need m j i with
     | false => rfl
     | true =>
      have := ok.trans i' j i hi's hj2 hc
      rw [hn] at this; cases this) a w hw h2
   rw [List.append_nil] at h3
   exact h3
theorem anyOrderU {Q : Exit → Act → World → Prop} (ok : OkU P hs ops m) : ∀ (fuel : Nat) (rem fls : List Nat) (listed : Array Bool) (a : Act) (w : World),
  rem.length + fls.length = fuel → listed.size = ops.size → Closed ops listed → rem.Pairwise (· < ·) → fls.Pairwise (· < ·) → (∀ j, j ∈ rem ↔ (j < ops.size ∧ listed.getD j false = false) ∧ other P hs ops j = true) →
  (∀ j, j ∈ fls ↔ (j < ops.size ∧ listed.getD j false = false) ∧ other P hs ops j = false) → S w → wpTr P S hs ops m (fun a w => S w → Q .normal a w) rem.length rem fls a w → wpAnyX P .any ops (Q .normal) fuel listed a w := by
 intro fuel
 induction fuel with
 | zero =>
  intro rem fls listed a w hlen hsz hcl hrp hfp hr hf hw h
  obtain rfl : rem = [] := List.eq_nil_of_length_eq_zero (by omega)
  obtain rfl : fls = [] := List.eq_nil_of_length_eq_zero (by omega)
  refine ⟨?_, h hw⟩
  refine List.eq_nil_iff_forall_not_mem.2 fun i hi => ?_
  obtain ⟨h0, o, ho, _⟩ := mem_ready.1 hi
  have hlt : i < ops.size := (Array.getElem?_eq_some_iff.1 ho).1
  have h0' : listed.getD i false = false := by
   have : i < listed.size := by omega
   simp [this] at h0 ⊢; exact h0
  cases hc : other P hs ops i with
  | true => have := (hr i).2 ⟨⟨hlt, h0'⟩, hc⟩; cases this
  | false => have := (hf i).2 ⟨⟨hlt, h0'⟩, hc⟩; cases this
 | succ fuel ih =>
  intro rem fls listed a w hlen hsz hcl hrp hfp hr hf hw h
  refine ⟨fun hrd => ?_, fun i hi => ?_⟩
  ·have hex : ∃ k, k < ops.size ∧ listed.getD k false = false ∧ ∀ j, j < k → ¬ (j < ops.size ∧ listed.getD j false = false) := by
    obtain ⟨x, hx⟩ : ∃ x, x < ops.size ∧ listed.getD x false = false := by
     cases rem with
     | cons x l => exact ⟨x, ((hr x).1 List.mem_cons_self).1⟩
     | nil =>
      cases fls with
      | cons x l => exact ⟨x, ((hf x).1 List.mem_cons_self).1⟩
      | nil => cases hlen
    have : ∀ n x, x ≤ n → x < ops.size ∧ listed.getD x false = false → ∃ k, k < ops.size ∧ listed.getD k false = false ∧ ∀ j, j < k → ¬ (j < ops.size ∧ listed.getD j false = false) := by
     intro n
     induction n with
     | zero => intro x hx hp; exact ⟨x, hp.1, hp.2, fun j hj => by omega⟩
     | succ n ih =>
      intro x hx hp
      by_cases hj : ∃ j, j < x ∧ j < ops.size ∧ listed.getD j false = false
      ·obtain ⟨j, h1, h2⟩ := hj; exact ih j (by omega) h2
      ·exact ⟨x, hp.1, hp.2, fun j h1 h2 => hj ⟨j, h1, h2⟩⟩
    exact this x x (Nat.le_refl _) hx
   obtain ⟨k, hk, hkl, hmin⟩ := hex
   have hrdy : k ∈ Region.ready .any ops listed := by
    refine mem_ready.2 ⟨?_, ops[k], Array.getElem?_eq_getElem hk, fun e he hb => ?_⟩
    ·have : k < listed.size := by omega
     simp [this] at hkl ⊢; exact hkl
    ·have hlt' := ok.back k _ (Array.getElem?_eq_getElem hk) e he hb
     cases hl : listed.getD e.on false with
     | true => rfl
     | false => exact (hmin e.on hlt' ⟨by omega, hl⟩).elim
   rw [hrd] at hrdy; cases hrdy
  ·obtain ⟨h0, o, ho, hdeps⟩ := mem_ready.1 hi
   have hlt : i < ops.size := (Array.getElem?_eq_some_iff.1 ho).1
   have hil : i < listed.size := by omega
   have h0' : listed.getD i false = false := by simp [hil] at h0 ⊢; exact h0
   have hfree : ∀ j, j < ops.size → listed.getD j false = false → need m i j = false := fun j hj hl => by
    by_cases hji : i ≤ j
    ·exact ok.low i j hlt hji
    ·cases hm : need m i j with
     | false => rfl
     | true =>
      have := ziw ok hcl i i o (Nat.le_refl _) ho hdeps j (by omega) hm
      rw [hl] at this; cases this
   have hcl' : Closed ops (listed.setIfInBounds i true) := by
    intro k p hk hl e he hb
    by_cases hki : k = i
    ·subst hki
     obtain rfl : p = o := Option.some.inj (hk.symm.trans ho)
     exact getD_set_true (hdeps e he hb)
    ·rw [getD_set_ne false (fun h => hki h.symm)] at hl
     exact getD_set_true (hcl k p hk hl e he hb)
   have hset : ∀ j, (listed.setIfInBounds i true).getD j false = false ↔ j ≠ i ∧ listed.getD j false = false := fun j => by
    by_cases hji : j = i
    ·subst hji; simp [hil]
    ·rw [getD_set_ne false (fun h => hji h.symm)]; simp [hji]
   have hmem' : ∀ (L : List Nat) (b : Bool), (∀ j, j ∈ L ↔ (j < ops.size ∧ listed.getD j false = false) ∧ other P hs ops j = b) → ∀ j, j ∈ (L.filter fun j => j != i) ↔ (j < ops.size ∧ (listed.setIfInBounds i true).getD j false = false) ∧ other P hs ops j = b := fun L b hL j => by
    rw [List.mem_filter, hL, hset]
    simp only [bne_iff_ne, ne_eq]
    constructor
    ·rintro ⟨⟨⟨a, b⟩, c⟩, d⟩; exact ⟨⟨a, d, b⟩, c⟩
    ·rintro ⟨⟨a, d, b⟩, c⟩; exact ⟨⟨⟨a, b⟩, c⟩, d⟩
   have hno : ∀ (L : List Nat) (b : Bool), other P hs ops i ≠ b → (∀ j, j ∈ L ↔ (j < ops.size ∧ listed.getD j false = false) ∧ other P hs ops j = b) → (L.filter fun j => j != i) = L := fun L b hb hL => by
    refine List.filter_eq_self.2 fun j hj => ?_
    have := ((hL j).1 hj).2
    simp only [bne_iff_ne, ne_eq]
    rintro rfl
    exact hb this
   cases hoi : other P hs ops i with
   | false =>
    have hin := (hf i).2 ⟨⟨hlt, h0'⟩, hoi⟩
    have hc := floatOut ok ho hoi rem.length rem fls rfl hrp (fun j hj => by
     obtain ⟨⟨a1, a2⟩, a3⟩ := (hr j).1 hj
     exact ⟨a1, (fun e => by subst e; rw [hoi] at a3; cases a3), hfree j a1 a2⟩) hfp (fun j hj => by
     obtain ⟨⟨a1, a2⟩, a3⟩ := (hf j).1 hj
     exact ⟨a1, hfree j a1 a2⟩) hin a w hw h
    refine zbu (fun a w hK => ?_) (zbt hc hw)
    have hr' := hmem' rem true hr
    rw [hno rem true (by simp [hoi]) hr] at hr'
    obtain ⟨pre, post, er, he, _, _⟩ := zdR hfp hin
    exact ih rem _ _ a w (by rw [he]; rw [er] at hlen; simp at hlen ⊢; omega) (by simp [hsz]) hcl' hrp (hfp.filter _) hr' (hmem' fls false hf) hK.1 hK.2
   | true =>
    have hin := (hr i).2 ⟨⟨hlt, h0'⟩, hoi⟩
    obtain ⟨pre, post, er, he, _, _⟩ := zdR hrp hin
    obtain ⟨k, hk⟩ : ∃ k, rem.length = k + 1 := ⟨pre.length + post.length, by rw [er]; simp; omega⟩
    have hk2 : (rem.filter fun j => j != i).length = k := by rw [he]; rw [er] at hk; simp at hk ⊢; omega
    rw [hk] at h
    have h1 := h i ⟨hin, List.all_eq_true.2 fun j hj => by
     obtain ⟨⟨a1, a2⟩, _⟩ := (hr j).1 hj
     rw [hfree j a1 a2]; rfl⟩
    have e1 : (fls.filter fun j => need m i j) = [] := List.filter_eq_nil_iff.2 fun j hj => by
     obtain ⟨⟨a1, a2⟩, _⟩ := (hf j).1 hj
     rw [hfree j a1 a2]; simp
    have e2 : (fls.filter fun j => !need m i j) = fls := List.filter_eq_self.2 fun j hj => by
     obtain ⟨⟨a1, a2⟩, _⟩ := (hf j).1 hj
     rw [hfree j a1 a2]; rfl
    rw [e1, e2] at h1
    have hf' := hmem' fls false hf
    rw [hno fls false (by simp [hoi]) hf] at hf'
    refine zbu (fun a w hK => ?_) (zbt h1 hw)
    refine ih _ fls _ a w (by rw [hk2]; omega) (by simp [hsz]) hcl' (hrp.filter _) hfp (hmem' rem true hr) hf' hK.1 ?_
    rw [hk2]; exact hK.2
def treeB (P : Program) (hs : Option Tmp → Bool) (ops : Array Oper) (k : Nat) (R F : List Nat) : Bool :=
 let m := Region.before ops
 let ot := other P hs ops
 ((List.range ops.size).all fun i =>
  let o := ops.getD i default
  selB o && o.after.all (fun e => !Region.binds .any e || decide (e.on < i)) && decide ((m.getD i 0) < 2 ^ i) &&
  (List.range i).all fun j =>
   if need m i j then o.after.any (fun e => Region.binds .any e && (e.on == j || (decide (j < e.on) && need m e.on j))) && (List.range j).all (fun k => !need m j k || need m i k)
   else (ot i && ot j) || (commH P hs ops (ops.getD j default) o && commH P hs ops o (ops.getD j default))) &&
 (R == (List.range ops.size).filter ot && F == (List.range ops.size).filter (fun i => !ot i) && R.length == k)
theorem zri {k : Nat} {R F : List Nat} (h : treeB P hs ops k R F = true) : OkU P hs ops (Region.before ops) := by
 unfold treeB at h
 simp only [Bool.and_eq_true] at h
 have h := h.1
 simp only [List.all_eq_true, List.mem_range, Bool.and_eq_true] at h
 have lt : ∀ (i : Nat) (o : Oper), ops[i]? = some o → i < ops.size ∧ ops.getD i default = o := fun i o ho => by
  obtain ⟨hi, he⟩ := Array.getElem?_eq_some_iff.1 ho
  exact ⟨hi, by simp [hi, he]⟩
 have low : ∀ i j, i < ops.size → i ≤ j → need (Region.before ops) i j = false := fun i j hi hij => by
  have := (h i hi).1.2
  simp only [decide_eq_true_eq] at this
  exact Nat.testBit_lt_two_pow (Nat.lt_of_lt_of_le this (Nat.pow_le_pow_right (by omega) hij))
 refine ⟨fun i o ho => ?_, fun i o ho e he hb => ?_, fun i o ho j hj hm => ?_, low, fun i o ho j p hp hne hm1 hm2 hot => ?_, fun i j k hi h1 h2 => ?_⟩
 ·obtain ⟨hi, he⟩ := lt i o ho
  have := (h i hi).1.1.1
  rw [he] at this; exact zgX this
 ·obtain ⟨hi, he'⟩ := lt i o ho
  have := (h i hi).1.1.2
  rw [he'] at this
  have := (Array.all_eq_true_iff_forall_mem.1 this) e he
  simpa [hb] using this
 ·obtain ⟨hi, he'⟩ := lt i o ho
  have := (h i hi).2 j hj
  rw [he', if_pos hm, Bool.and_eq_true] at this
  obtain ⟨e, he, hb⟩ := Array.any_eq_true'.1 this.1
  simp only [Bool.and_eq_true, Bool.or_eq_true, beq_iff_eq, decide_eq_true_eq] at hb
  exact ⟨e, he, hb.1, hb.2⟩
 ·obtain ⟨hi, he'⟩ := lt i o ho
  obtain ⟨hj, hp'⟩ := lt j p hp
  rcases Nat.lt_or_gt_of_ne hne with hlt | hlt
  ·have := (h i hi).2 j hlt
   rw [he', hp', hm1] at this
   simp only [Bool.false_eq_true, if_false, Bool.or_eq_true, Bool.and_eq_true] at this
   rcases this with ⟨a, b⟩ | ⟨a, b⟩
   ·rcases hot with e | e <;> simp_all
   ·exact a
  ·have := (h j hj).2 i hlt
   rw [he', hp', hm2] at this
   simp only [Bool.false_eq_true, if_false, Bool.or_eq_true, Bool.and_eq_true] at this
   rcases this with ⟨a, b⟩ | ⟨a, b⟩
   ·rcases hot with e | e <;> simp_all
   ·exact b
 ·have hji : j < i := Nat.lt_of_not_le fun hle => by rw [low i j hi hle] at h1; cases h1
  have hkj : k < j := Nat.lt_of_not_le fun hle => by rw [low j k (by omega) hle] at h2; cases h2
  have := (h i hi).2 j hji
  rw [if_pos h1, Bool.and_eq_true] at this
  have := List.all_eq_true.1 this.2 k (List.mem_range.2 hkj)
  rw [h2] at this
  simpa using this
theorem zfK {Q : Exit → Act → World → Prop} {id : Nat} {l : List Oper} {a : Act} {w : World} (hm : P.follows .mixedOrders = true) (hs : Option Tmp → Bool) (S : World → Prop) (hw0 : S w.drew) (k : Nat) (R F : List Nat) (hB : treeB P hs l.toArray k R F = true)
  (h : wpTr P S hs l.toArray (Region.before l.toArray) (fun a w => S w → Q .normal a w) k R F a w.drew) : (Code.region id l.toArray true).wpX P Q a w := by
 refine zbg hm ?_
 have ok := zri hB
 have hz : ∀ j, (Array.replicate l.toArray.size false).getD j false = false := fun j => by
  simp only [Array.getD_eq_getD_getElem?, Array.getElem?_replicate]; split <;> rfl
 have hB' := hB
 unfold treeB at hB'
 simp only [Bool.and_eq_true, beq_iff_eq] at hB'
 obtain ⟨_, ⟨rfl, rfl⟩, rfl⟩ := hB'
 have hcount : ∀ (L : List Nat) (f : Nat → Bool), (L.filter f).length + (L.filter fun i => !f i).length = L.length := fun L f => by
  induction L with
  | nil => rfl
  | cons x L ih =>
   cases hx : f x
   ·rw [List.filter_cons_of_neg (by simp [hx]), List.filter_cons_of_pos (by simp [hx])]; simp; omega
   ·rw [List.filter_cons_of_pos hx, List.filter_cons_of_neg (by simp [hx])]; simp; omega
 refine anyOrderU (S := S) (hs := hs) ok _ _ _ _ a _ ?_ (by simp) ?_ (List.pairwise_lt_range.filter _) (List.pairwise_lt_range.filter _) (fun j => ?_) (fun j => ?_) hw0 h
 ·rw [hcount]; simp
 ·intro i o _ hl; rw [hz] at hl; cases hl
 ·rw [List.mem_filter, hz]; simp
 ·rw [List.mem_filter, hz]; simp
end
end Go.Pw
namespace Go.Vc
open Go Go.Pw
def TreeS (P : Program) (n : Nat) (K : Exit → Fr → World → Prop) (S : World → Prop) (hs : Option Tmp → Bool) (ops : Array Oper) (t : List It) : Nat → List Nat → List Nat → Fr → World → Prop
 | 0, _, fls => fun f w => Sat P n K .normal (.opsH S hs ops.toList (fls.map fun i => ops.getD i default) :: t) f w
 | k + 1, rem, fls => fun f w => ∀ i ∈ rem, (rem.all fun j => !need (Region.before ops) i j) = true →
   Sat P n (fun e g u => e = .normal ∧ TreeS P n K S hs ops t k (rem.filter fun j => j != i) (fls.filter fun j => !need (Region.before ops) i j) g u) .normal
    [.opsH S hs ops.toList (((fls.filter fun j => need (Region.before ops) i j) ++ [i]).map fun i => ops.getD i default)] f w
theorem TreeS.wp {P : Program} {n : Nat} {K : Exit → Fr → World → Prop} {S : World → Prop} {hs : Option Tmp → Bool} {l : List Oper} {t : List It} : ∀ (k : Nat) (rem fls : List Nat), (∀ i ∈ rem, i < l.toArray.size) → (∀ i ∈ fls, i < l.toArray.size) → ∀ (g : Fr) (u : World), TreeS P n K S hs l.toArray t k rem fls g u → Ok n g → S u →
  wpTr P S hs l.toArray (Region.before l.toArray) (fun c w => S w → LiftE n (after P n t K) .normal c w) k rem fls (act n g) u := by
 have sat : ∀ {K' : Exit → Fr → World → Prop} {t' : List It} {L : List Nat} {g : Fr} {u : World}, Sat P n K' .normal (.opsH S hs l (L.map fun i => l.toArray.getD i default) :: t') g u → Ok n g → S u → (∀ i ∈ L, i < l.toArray.size) →
   wpIh P S hs l.toArray (fun c w => S w → Lift n (after P n t' K' .normal) c w) L (act n g) u := fun {K' t' L g u} hh hg hS hL => by
  rw [zjF L hL]
  exact hh.h hg hS
 intro k
 induction k with
 | zero => intro rem fls _ hF g u h hg hS; exact sat h hg hS hF
 | succ k ih =>
  intro rem fls hR hF g u h hg hS i ⟨hi, hav⟩
  have h1 := sat (h i hi hav) hg hS (fun j hj => by
   rcases List.mem_append.1 hj with hj | hj
   ·exact hF j (List.mem_filter.1 hj).1
   ·rw [List.mem_singleton.1 hj]; exact hR i hi)
  rw [← zev] at h1
  refine zdN _ hS (fun c u hS hh => ?_) h1
  refine TIh_mono hS (fun c u hS hh => ?_) hh
  obtain ⟨g', hg', rfl, _, hT⟩ := hh hS
  exact ih _ _ (fun j hj => hR j (List.mem_filter.1 hj).1) (fun j hj => hF j (List.mem_filter.1 hj).1) g' u hT hg' hS
theorem Draw.tree {P : Program} {n : Nat} {K : Exit → Fr → World → Prop} {id : Nat} {ops : Array Oper} {t : List It} {f : Fr} {w : World} (S : World → Prop) (hs : Option Tmp → Bool) (k : Nat) (R F : List Nat) (hB : treeB P hs ops k R F = true) (hw : S w.drew)
  (h : TreeS P n K S hs ops t k R F f w.drew) : Draw P n K id ops t f w :=
 ⟨fun hm hf => by
  obtain ⟨l⟩ := ops
  refine zfK hm hs S hw k R F hB ?_
  have hB' := hB
  unfold treeB at hB'
  simp only [Bool.and_eq_true, beq_iff_eq] at hB'
  obtain ⟨_, ⟨eR, eF⟩, _⟩ := hB'
  refine TreeS.wp k R F (fun i hi => ?_) (fun i hi => ?_) f _ h hf hw
  ·rw [eR] at hi; simpa using (List.mem_filter.1 hi).1
  ·rw [eF] at hi; simpa using (List.mem_filter.1 hi).1⟩
theorem TreeS.node {P : Program} {n : Nat} {K : Exit → Fr → World → Prop} {S : World → Prop} {hs : Option Tmp → Bool} {ops : Array Oper} {t : List It} {k : Nat} {rem fls : List Nat} {f : Fr} {w : World} (Ls : List (Nat × List Nat × List Nat × List Nat))
  (hB : ((rem.filter fun i => rem.all fun j => !need (Region.before ops) i j).map fun i => (i, (fls.filter fun j => need (Region.before ops) i j) ++ [i], (rem.filter fun j => j != i), fls.filter fun j => !need (Region.before ops) i j)) = Ls)
  (h : ∀ p ∈ Ls, Sat P n (fun e g u => e = .normal ∧ TreeS P n K S hs ops t k p.2.2.1 p.2.2.2 g u) .normal [.opsH S hs ops.toList (p.2.1.map fun i => ops.getD i default)] f w) : TreeS P n K S hs ops t (k + 1) rem fls f w := fun i hi hav =>
 h _ (hB ▸ List.mem_map.2 ⟨i, List.mem_filter.2 ⟨hi, hav⟩, rfl⟩)
theorem TreeS.leaf {P : Program} {n : Nat} {K : Exit → Fr → World → Prop} {S : World → Prop} {hs : Option Tmp → Bool} {ops : Array Oper} {t : List It} {rem fls : List Nat} {f : Fr} {w : World} (h : Sat P n K .normal (.opsH S hs ops.toList (fls.map fun i => ops.getD i default) :: t) f w) : TreeS P n K S hs ops t 0 rem fls f w := h
end Go.Vc
