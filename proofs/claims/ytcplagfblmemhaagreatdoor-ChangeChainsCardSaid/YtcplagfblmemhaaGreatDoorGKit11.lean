/- Helper text of this claim: lemmas and contracts that the proved statement rests on; no conditions of its own. -/
import Derived.Test.YtcplagfblmemhaaGreatDoorGCd3
namespace Go.Pw
set_option linter.unusedVariables false
set_option maxHeartbeats 1000000
open Go
set_option linter.unusedVariables false
set_option linter.unusedSectionVars false
section
variable {P : Program} {ops : Array Oper} {S : World → Prop} {hs : Option Tmp → Bool}
structure OkF (P : Program) (hs : Option Tmp → Bool) (ops : Array Oper) (m : Array Nat) (a z : Nat) : Prop where
 sel : ∀ (i : Nat) (o : Oper), ops[i]? = some o → NoSel o
 back : ∀ (i : Nat) (o : Oper), ops[i]? = some o → ∀ e ∈ o.after, Region.binds .any e = true → e.on < i
 dep : ∀ (i : Nat) (o : Oper), ops[i]? = some o → ∀ j, j < i → (m.getD i 0).testBit j = true → ∃ e ∈ o.after, Region.binds .any e = true ∧ (e.on = j ∨ (j < e.on ∧ (m.getD e.on 0).testBit j = true))
 comm : ∀ (i : Nat) (o : Oper), ops[i]? = some o → i ≠ a → ∀ (j : Nat) (p : Oper), ops[j]? = some p → j ≠ a → j < i → (m.getD i 0).testBit j = false → commH P hs ops p o = true
 rd : ∀ (i : Nat) (o : Oper), ops[i]? = some o → kindOf P o = .read → floats P hs o = true
 az : a < z
 sz : z + 1 = ops.size
 last : ∀ j, j < z → (m.getD z 0).testBit j = true
 free : ∀ (o : Oper), ops[a]? = some o → ∀ e ∈ o.after, Region.binds .any e = false
 ca : ∀ (i : Nat) (o : Oper), ops[i]? = some o → i ≠ a → i ≠ z → floats P hs o = true → ∀ (p : Oper), ops[a]? = some p → commH P hs ops o p = true ∧ commH P hs ops p o = true
def okFB (P : Program) (hs : Option Tmp → Bool) (ops : Array Oper) (a z : Nat) : Bool :=
 let m := Region.before ops
 ((List.range ops.size).all fun i =>
  let o := ops.getD i default
  (selB o && (!(kindOf P o == .read) || floats P hs o)) && o.after.all (fun e => !Region.binds .any e || decide (e.on < i)) &&
  ((List.range i).all fun j =>
   if (m.getD i 0).testBit j then o.after.any (fun e => Region.binds .any e && (e.on == j || (decide (j < e.on) && (m.getD e.on 0).testBit j)))
   else (i == a || j == a || commH P hs ops (ops.getD j default) o)) &&
  (i == a || i == z || !floats P hs o || (commH P hs ops o (ops.getD a default) && commH P hs ops (ops.getD a default) o))) &&
 (decide (a < z) && decide (z + 1 = ops.size) && ((List.range z).all fun j => (m.getD z 0).testBit j) && (ops.getD a default).after.all (fun e => !Region.binds .any e))
theorem zqA {a z : Nat} (h : okFB P hs ops a z = true) : OkF P hs ops (Region.before ops) a z := by
 unfold okFB at h
 simp only [Bool.and_eq_true, List.all_eq_true, List.mem_range, decide_eq_true_eq] at h
 obtain ⟨h, ⟨⟨haz, hsz⟩, hlast⟩, hfree⟩ := h
 have lt : ∀ (i : Nat) (o : Oper), ops[i]? = some o → i < ops.size ∧ ops.getD i default = o := fun i o ho => by
  obtain ⟨hi, he⟩ := Array.getElem?_eq_some_iff.1 ho
  exact ⟨hi, by simp [hi, he]⟩
 refine ⟨fun i o ho => ?_, fun i o ho e he hb => ?_, fun i o ho j hj hm => ?_, fun i o ho hia j p hp hja hj hm => ?_, fun i o ho hk => ?_, haz, hsz, hlast, fun o ho e he => ?_, fun i o ho hia hiz hf p hp => ?_⟩
 ·obtain ⟨hi, he⟩ := lt i o ho
  have := (h i hi).1.1.1.1
  rw [he] at this; exact zdU this
 ·obtain ⟨hi, he'⟩ := lt i o ho
  have := (h i hi).1.1.2
  rw [he'] at this
  have := (Array.all_eq_true_iff_forall_mem.1 this) e he
  simpa [hb] using this
 ·obtain ⟨hi, he'⟩ := lt i o ho
  have := (h i hi).1.2 j hj
  rw [he', if_pos hm] at this
  obtain ⟨e, he, hb⟩ := Array.any_eq_true'.1 this
  simp only [Bool.and_eq_true, Bool.or_eq_true, beq_iff_eq, decide_eq_true_eq] at hb
  exact ⟨e, he, hb.1, hb.2⟩
 ·obtain ⟨hi, he'⟩ := lt i o ho
  obtain ⟨_, hp'⟩ := lt j p hp
  have := (h i hi).1.2 j hj
  rw [he', hp', hm] at this
  simp only [Bool.false_eq_true, if_false, Bool.or_eq_true, beq_iff_eq] at this
  rcases this with (h | h) | h
  ·exact absurd h hia
  ·exact absurd h hja
  ·exact h
 ·obtain ⟨hi, he'⟩ := lt i o ho
  have := (h i hi).1.1.1.2
  rw [he', Bool.or_eq_true] at this
  rcases this with h | h
  ·rw [hk] at h; cases h
  ·exact h
 ·obtain ⟨hi, he'⟩ := lt a o ho
  rw [he'] at hfree
  simpa using (Array.all_eq_true_iff_forall_mem.1 hfree) e he
 ·obtain ⟨hi, he'⟩ := lt i o ho
  obtain ⟨_, hp'⟩ := lt a p hp
  have := (h i hi).2
  rw [he', hp'] at this
  simp only [Bool.or_eq_true, Bool.and_eq_true, beq_iff_eq, Bool.not_eq_true'] at this
  rcases this with ((h | h) | h) | h
  ·exact absurd h hia
  ·exact absurd h hiz
  ·rw [hf] at h; cases h
  ·exact h
variable {m : Array Nat} {a z : Nat}
theorem zdo {listed : Array Bool} (ok : OkF P hs ops m a z) (hcl : Closed ops listed) : ∀ (n i : Nat) (o : Oper), i ≤ n → ops[i]? = some o →
  (∀ e ∈ o.after, Region.binds .any e = true → listed.getD e.on false = true) → ∀ j, j < i → (m.getD i 0).testBit j = true → listed.getD j false = true := by
 intro n
 induction n with
 | zero => intro i o hi _ _ j hj; omega
 | succ n ih =>
  intro i o hi ho hdeps j hj hm
  obtain ⟨e, he, hb, hor⟩ := ok.dep i o ho j hj hm
  have hlt := ok.back i o ho e he hb
  have hl := hdeps e he hb
  rcases hor with rfl | hor
  ·exact hl
  ·obtain ⟨o', ho'⟩ : ∃ o', ops[e.on]? = some o' := by
    obtain ⟨hi', _⟩ := Array.getElem?_eq_some_iff.1 ho
    exact ⟨ops[e.on], Array.getElem?_eq_getElem (by omega)⟩
   exact ih e.on o' (by omega) ho' (hcl e.on o' ho' hl) j hor.1 hor.2
theorem bubbleF {Q : Act → World → Prop} (ok : OkF P hs ops m a z) {i : Nat} {o : Oper} (ho : ops[i]? = some o) (hia : i ≠ a) : ∀ (pre post : List Nat),
  (∀ j ∈ pre, j < i ∧ j ≠ a ∧ (m.getD i 0).testBit j = false) → ∀ (c : Act) (w : World), S w → wpIh P S hs ops Q (pre ++ i :: post) c w → TIh P S hs ops i (wpIh P S hs ops Q (pre ++ post)) c w
 | [], post, _, c, w, hw0, h => h
 | j :: pre, post, hp, c, w, hw0, h => by
  have ih := bubbleF (Q := Q) ok ho hia pre post (fun k hk => hp k (List.mem_cons_of_mem _ hk))
  have h' : TIh P S hs ops j (TIh P S hs ops i (wpIh P S hs ops Q (pre ++ post))) c w := TIh_mono hw0 (fun c w hS => ih c w hS) h
  show TIh P S hs ops i (TIh P S hs ops j (wpIh P S hs ops Q (pre ++ post))) c w
  obtain ⟨hj, hja, hm⟩ := hp j List.mem_cons_self
  unfold TIh at h' ⊢
  simp only [ho] at h' ⊢
  cases hpj : ops[j]? with
  | none => simp only [hpj] at h' ⊢; exact h'
  | some p =>
   simp only [hpj] at h' ⊢
   exact swapH hw0 (ok.sel j p hpj) (ok.sel i o ho) (ok.comm i o ho hia j p hpj hja hj hm) h'
theorem swapTI {i j : Nat} {K : Act → World → Prop} {c : Act} {w : World} (hw0 : S w) (hsx : ∀ p, ops[j]? = some p → NoSel p) (hsy : ∀ p, ops[i]? = some p → NoSel p) (hc : ∀ p o, ops[j]? = some p → ops[i]? = some o → commH P hs ops p o = true)
  (h : TIh P S hs ops j (TIh P S hs ops i K) c w) : TIh P S hs ops i (TIh P S hs ops j K) c w := by
 unfold TIh at h ⊢
 cases hi : ops[i]? with
 | none =>
  simp only [hi] at h ⊢; exact h
 | some o =>
  cases hj : ops[j]? with
  | none => simp only [hi, hj] at h ⊢; exact h
  | some p =>
   simp only [hi, hj] at h ⊢
   exact swapH hw0 (hsx p hj) (hsy o hi) (hc p o hj hi) h
theorem TIh_and {i : Nat} {o : Oper} (ho : ops[i]? = some o) (hf : floats P hs o = true) {K K' : Act → World → Prop} {c : Act} {w : World} (hw0 : S w) (h : TIh P S hs ops i K c w) (h' : TIh P S hs ops i K' c w) : TIh P S hs ops i (fun c w => K c w ∧ K' c w) c w := by
 unfold TIh at h h' ⊢
 simp only [ho] at h h' ⊢
 obtain ⟨u, hu, k1⟩ := zbh hw0 hf h
 obtain ⟨v, hv, k2⟩ := zbh hw0 hf h'
 obtain rfl := hu.uniq hw0 hv
 exact hu.t1 hw0 ⟨k1, k2⟩
def wpG (P : Program) (S : World → Prop) (hs : Option Tmp → Bool) (ops : Array Oper) (a z : Nat) (Q : Act → World → Prop) : List Nat → Act → World → Prop
 | [] => TIh P S hs ops a (wpIh P S hs ops Q [z])
 | i :: R => if floats P hs (ops.getD i default) = true then TIh P S hs ops i (wpG P S hs ops a z Q R)
  else fun c w => TIh P S hs ops a (wpIh P S hs ops Q (i :: R ++ [z])) c w ∧ TIh P S hs ops i (wpG P S hs ops a z Q R) c w
theorem zmQ {Q : Act → World → Prop} {i : Nat} {R : List Nat} {c : Act} {w : World} (h : wpG P S hs ops a z Q (i :: R) c w) : TIh P S hs ops i (wpG P S hs ops a z Q R) c w := by
 unfold wpG at h
 split at h
 ·exact h
 ·exact h.2
theorem zlz {i : Nat} {o : Oper} (ho : ops[i]? = some o) : ops.getD i default = o := by
 obtain ⟨hi, he⟩ := Array.getElem?_eq_some_iff.1 ho
 simp [hi, he]
theorem aFirst {Q : Act → World → Prop} (ok : OkF P hs ops m a z) : ∀ (R : List Nat), (∀ j ∈ R, j ≠ a ∧ j < z) → ∀ (c : Act) (w : World), S w → wpG P S hs ops a z Q R c w → TIh P S hs ops a (wpIh P S hs ops Q (R ++ [z])) c w
 | [], _, c, w, hw, h => h
 | i :: R, hR, c, w, hw, h => by
  obtain ⟨hia, hiz⟩ := hR i List.mem_cons_self
  unfold wpG at h
  split at h
  ·rename_i hf
   have h1 : TIh P S hs ops i (TIh P S hs ops a (wpIh P S hs ops Q (R ++ [z]))) c w := TIh_mono hw (fun c w hS hh => aFirst ok R (fun j hj => hR j (List.mem_cons_of_mem _ hj)) c w hS hh) h
   refine swapTI hw (fun p hp => ok.sel i p hp) (fun p hp => ok.sel a p hp) (fun p o hp ho => ?_) h1
   exact (ok.ca i p hp hia (by omega) (by rw [zlz hp] at hf; exact hf) o ho).1
  ·exact h.1
theorem bubbleG {Q : Act → World → Prop} (ok : OkF P hs ops m a z) {i : Nat} {o : Oper} (ho : ops[i]? = some o) (hia : i ≠ a) (hiz : i < z) : ∀ (pre post : List Nat),
  (∀ j ∈ pre, j < i ∧ j ≠ a ∧ (m.getD i 0).testBit j = false) → (floats P hs o = true ∨ ∀ j ∈ pre, floats P hs (ops.getD j default) = true) → ∀ (c : Act) (w : World), S w →
  wpG P S hs ops a z Q (pre ++ i :: post) c w → TIh P S hs ops i (wpG P S hs ops a z Q (pre ++ post)) c w
 | [], post, _, _, c, w, hw0, h => zmQ h
 | j :: pre, post, hp, hor, c, w, hw0, h => by
  have hor' : floats P hs o = true ∨ ∀ j ∈ pre, floats P hs (ops.getD j default) = true := hor.imp id fun h k hk => h k (List.mem_cons_of_mem _ hk)
  have ih := bubbleG (Q := Q) ok ho hia hiz pre post (fun k hk => hp k (List.mem_cons_of_mem _ hk)) hor'
  obtain ⟨hj, hja, hm⟩ := hp j List.mem_cons_self
  have hsw : ∀ {K : Act → World → Prop} {c : Act} {w : World}, S w → TIh P S hs ops j (TIh P S hs ops i K) c w → TIh P S hs ops i (TIh P S hs ops j K) c w := fun hw h =>
   swapTI hw (fun p hp => ok.sel j p hp) (fun p hp => ok.sel i p hp) (fun p o' hp ho' => ok.comm i o' ho' hia j p hp hja hj hm) h
  have h2 : TIh P S hs ops i (TIh P S hs ops j (wpG P S hs ops a z Q (pre ++ post))) c w := hsw hw0 (TIh_mono hw0 (fun c w hS hh => ih c w hS hh) (zmQ (R := pre ++ i :: post) h))
  show TIh P S hs ops i (wpG P S hs ops a z Q (j :: (pre ++ post))) c w
  by_cases hf : floats P hs (ops.getD j default) = true
  ·unfold wpG
   rw [if_pos hf]
   exact h2
  ·have hfo : floats P hs o = true := by
    rcases hor with h | h
    ·exact h
    ·exact absurd (h j List.mem_cons_self) hf
   have h1 : TIh P S hs ops a (wpIh P S hs ops Q (j :: (pre ++ i :: post) ++ [z])) c w := by
    have h' : wpG P S hs ops a z Q (j :: (pre ++ i :: post)) c w := h
    unfold wpG at h'
    rw [if_neg hf] at h'
    exact h'.1
   have h3 : TIh P S hs ops a (TIh P S hs ops i (wpIh P S hs ops Q (j :: (pre ++ post) ++ [z]))) c w := TIh_mono hw0 (fun c w hS hh => by
    have e : j :: (pre ++ i :: post) ++ [z] = (j :: pre) ++ i :: (post ++ [z]) := by simp
    rw [e] at hh
    have := bubbleF (Q := Q) ok ho hia (j :: pre) (post ++ [z]) hp c w hS hh
    simpa using this) h1
   have h4 : TIh P S hs ops i (TIh P S hs ops a (wpIh P S hs ops Q (j :: (pre ++ post) ++ [z]))) c w :=
    swapTI hw0 (fun p hp => ok.sel a p hp) (fun p hp => ok.sel i p hp) (fun p o' hp ho' => (ok.ca i o' ho' hia (by omega) (by
     obtain rfl : o' = o := Option.some.inj (ho'.symm.trans ho)
     exact hfo) p hp).2) h3
   have h5 := TIh_and ho hfo hw0 h4 h2
   refine TIh_mono hw0 (fun c w hS hh => ?_) h5
   unfold wpG
   rw [if_neg hf]
   exact hh
theorem anyOrderB {Q : Exit → Act → World → Prop} (ok : OkF P hs ops m a z) : ∀ (fuel : Nat) (L : List Nat) (listed : Array Bool) (c : Act) (w : World),
  L.length = fuel → listed.size = ops.size → Closed ops listed → L.Pairwise (· < ·) → a ∉ L → (∀ j, j ∈ L ↔ j < ops.size ∧ listed.getD j false = false) →
  S w → wpIh P S hs ops (fun c w => S w → Q .normal c w) L c w → wpAnyX P .any ops (Q .normal) fuel listed c w := by
 intro fuel
 induction fuel with
 | zero =>
  intro L listed c w hlen hsz hcl hpw hna hmem hw0 h
  obtain rfl : L = [] := List.eq_nil_of_length_eq_zero hlen
  refine ⟨?_, h hw0⟩
  refine List.eq_nil_iff_forall_not_mem.2 fun i hi => ?_
  obtain ⟨h0, o, ho, _⟩ := mem_ready.1 hi
  have hlt : i < ops.size := (Array.getElem?_eq_some_iff.1 ho).1
  have h0' : listed.getD i false = false := by
   have : i < listed.size := by omega
   simp [this] at h0 ⊢; exact h0
  have := (hmem i).2 ⟨hlt, h0'⟩
  cases this
 | succ fuel ih =>
  intro L listed c w hlen hsz hcl hpw hna hmem hw0 h
  refine ⟨fun hr => ?_, fun i hi => ?_⟩
  ·cases L with
   | nil => cases hlen
   | cons i L =>
    exfalso
    obtain ⟨hlt, h0⟩ := (hmem i).1 List.mem_cons_self
    have hrdy : i ∈ Region.ready .any ops listed := by
     refine mem_ready.2 ⟨?_, ops[i], Array.getElem?_eq_getElem hlt, fun e he hb => ?_⟩
     ·have : i < listed.size := by omega
      simp [this] at h0 ⊢; exact h0
     ·have hlt' := ok.back i _ (Array.getElem?_eq_getElem hlt) e he hb
      cases hl : listed.getD e.on false with
      | true => rfl
      | false =>
       have hin := (hmem e.on).2 ⟨by omega, hl⟩
       rcases List.mem_cons.1 hin with heq | hin
       ·omega
       ·have := (List.pairwise_cons.1 hpw).1 _ hin; omega
    rw [hr] at hrdy; cases hrdy
  ·obtain ⟨h0, o, ho, hdeps⟩ := mem_ready.1 hi
   have hlt : i < ops.size := (Array.getElem?_eq_some_iff.1 ho).1
   have hil : i < listed.size := by omega
   have h0' : listed.getD i false = false := by simp [hil] at h0 ⊢; exact h0
   have hin := (hmem i).2 ⟨hlt, h0'⟩
   have hia : i ≠ a := fun e => hna (e ▸ hin)
   obtain ⟨pre, post, rfl⟩ := List.append_of_mem hin
   have hpre : ∀ j ∈ pre, j < i := fun j hj => (List.pairwise_append.1 hpw).2.2 j hj i List.mem_cons_self
   have hpost : ∀ j ∈ post, i < j := fun j hj => (List.pairwise_cons.1 (List.pairwise_append.1 hpw).2.1).1 j hj
   refine zaP (fun c w h => ?_) (zaK (bubbleF ok ho hia pre post (fun j hj => ⟨hpre j hj, fun e => hna (e ▸ List.mem_append_left _ hj), ?_⟩) c w hw0 h) hw0)
   ·refine ih (pre ++ post) _ c w (by simp at hlen ⊢; omega) (by simp [hsz]) ?_ ?_ ?_ ?_ h.1 h.2
    ·intro k p hk hl e he hb
     by_cases hki : k = i
     ·subst hki
      obtain rfl : p = o := Option.some.inj (hk.symm.trans ho)
      exact getD_set_true (hdeps e he hb)
     ·rw [getD_set_ne false (fun h => hki h.symm)] at hl
      exact getD_set_true (hcl k p hk hl e he hb)
    ·exact hpw.sublist (List.Sublist.append_left (List.sublist_cons_self _ _) _)
    ·intro h
     apply hna
     rcases List.mem_append.1 h with h | h <;> simp [h]
    ·intro j
     constructor
     ·intro hj
      have hji : j ≠ i := by
       rcases List.mem_append.1 hj with hj | hj
       ·have := hpre j hj; omega
       ·have := hpost j hj; omega
      obtain ⟨k1, k2⟩ := (hmem j).1 (by rcases List.mem_append.1 hj with h | h <;> simp [h])
      exact ⟨k1, by rw [getD_set_ne false (fun h => hji h.symm)]; exact k2⟩
     ·rintro ⟨k1, k2⟩
      have hji : j ≠ i := fun e => by subst e; simp [hil] at k2
      rw [getD_set_ne false (fun h => hji h.symm)] at k2
      have := (hmem j).2 ⟨k1, k2⟩
      rcases List.mem_append.1 this with hj | hj
      ·exact List.mem_append_left _ hj
      ·rcases List.mem_cons.1 hj with rfl | hj
       ·exact absurd rfl hji
       ·exact List.mem_append_right _ hj
   ·cases hm : (m.getD i 0).testBit j with
    | false => rfl
    | true =>
     have hl := zdo ok hcl i i o (Nat.le_refl _) ho hdeps j (hpre j hj) hm
     have := ((hmem j).1 (List.mem_append_left _ hj)).2
     rw [hl] at this; cases this
theorem anyStep {Q : Exit → Act → World → Prop} (ok : OkF P hs ops m a z) (n : Nat) (R : List Nat) (listed : Array Bool) (c : Act) (w : World)
  (hlen : R.length = n) (hsz : listed.size = ops.size) (hcl : Closed ops listed) (hpw : R.Pairwise (· < ·)) (hmem : ∀ j, (j ∈ R ∨ j = a ∨ j = z) ↔ j < ops.size ∧ listed.getD j false = false) (hR : ∀ j ∈ R, j ≠ a ∧ j < z)
  (hw0 : S w) (h : wpG P S hs ops a z (fun c w => S w → Q .normal c w) R c w)
  (go : ∀ (pre post : List Nat) (i : Nat) (o : Oper), R = pre ++ i :: post → ops[i]? = some o → Closed ops (listed.setIfInBounds i true) → (∀ j, (j ∈ pre ++ post ∨ j = a ∨ j = z) ↔ j < ops.size ∧ (listed.setIfInBounds i true).getD j false = false) → ∀ c w, S w → wpG P S hs ops a z (fun c w => S w → Q .normal c w) (pre ++ post) c w → wpAnyX P .any ops (Q .normal) (n + 1) (listed.setIfInBounds i true) c w) :
  wpAnyX P .any ops (Q .normal) (n + 2) listed c w := by
 have hasz : a < ops.size := by have := ok.az; have := ok.sz; omega
 have hzsz : z < ops.size := by have := ok.sz; omega
 have ha0 : listed.getD a false = false := ((hmem a).1 (.inr (.inl rfl))).2
 have hz0 : listed.getD z false = false := ((hmem z).1 (.inr (.inr rfl))).2
 refine ⟨fun hr => ?_, fun i hi => ?_⟩
 ·have hrdy : a ∈ Region.ready .any ops listed := by
   refine mem_ready.2 ⟨?_, ops[a], Array.getElem?_eq_getElem hasz, fun e he hb => ?_⟩
   ·have : a < listed.size := by omega
    simp [this] at ha0 ⊢; exact ha0
   ·have := ok.free _ (Array.getElem?_eq_getElem hasz) e he
    rw [hb] at this; cases this
  rw [hr] at hrdy; cases hrdy
 ·obtain ⟨h0, o, ho, hdeps⟩ := mem_ready.1 hi
  have hlt : i < ops.size := (Array.getElem?_eq_some_iff.1 ho).1
  have hil : i < listed.size := by omega
  have h0' : listed.getD i false = false := by simp [hil] at h0 ⊢; exact h0
  have hcl' : Closed ops (listed.setIfInBounds i true) := by
   intro k p hk hl e he hb
   by_cases hki : k = i
   ·subst hki
    obtain rfl : p = o := Option.some.inj (hk.symm.trans ho)
    exact getD_set_true (hdeps e he hb)
   ·rw [getD_set_ne false (fun h => hki h.symm)] at hl
    exact getD_set_true (hcl k p hk hl e he hb)
  have hset : ∀ j, (j < ops.size ∧ (listed.setIfInBounds i true).getD j false = false) ↔ j ≠ i ∧ (j ∈ R ∨ j = a ∨ j = z) := fun j => by
   rw [hmem]
   constructor
   ·rintro ⟨k1, k2⟩
    have hji : j ≠ i := fun e => by subst e; simp [hil] at k2
    rw [getD_set_ne false (fun h => hji h.symm)] at k2
    exact ⟨hji, k1, k2⟩
   ·rintro ⟨hji, k1, k2⟩
    exact ⟨k1, by rw [getD_set_ne false (fun h => hji h.symm)]; exact k2⟩
  rcases (hmem i).2 ⟨hlt, h0'⟩ with hin | rfl | rfl
  ·obtain ⟨hia, hiz⟩ := hR i hin
   obtain ⟨pre, post, hRe⟩ := List.append_of_mem hin
   have hpw2 := hpw
   rw [hRe] at hpw2
   have hpre : ∀ j ∈ pre, j < i := fun j hj => (List.pairwise_append.1 hpw2).2.2 j hj i List.mem_cons_self
   have hpost : ∀ j ∈ post, i < j := fun j hj => (List.pairwise_cons.1 (List.pairwise_append.1 hpw2).2.1).1 j hj
   have hfree : ∀ j ∈ pre, (m.getD i 0).testBit j = false := fun j hj => by
    cases hm : (m.getD i 0).testBit j with
    | false => rfl
    | true =>
     have hl := zdo ok hcl i i o (Nat.le_refl _) ho hdeps j (hpre j hj) hm
     have := ((hmem j).1 (.inl (by rw [hRe]; simp [hj]))).2
     rw [hl] at this; cases this
   have hmem' : ∀ j, (j ∈ pre ++ post ∨ j = a ∨ j = z) ↔ j < ops.size ∧ (listed.setIfInBounds i true).getD j false = false := fun j => by
    rw [hset, hRe]
    constructor
    ·rintro (hj | hj | hj)
     ·refine ⟨?_, .inl ?_⟩
      ·rcases List.mem_append.1 hj with hj | hj
       ·have := hpre j hj; omega
       ·have := hpost j hj; omega
      ·rcases List.mem_append.1 hj with hj | hj <;> simp [hj]
     ·exact ⟨fun e => hia (by omega), .inr (.inl hj)⟩
     ·exact ⟨by omega, .inr (.inr hj)⟩
    ·rintro ⟨hji, hj | hj | hj⟩
     ·rcases List.mem_append.1 hj with hj | hj
      ·exact .inl (List.mem_append_left _ hj)
      ·rcases List.mem_cons.1 hj with rfl | hj
       ·exact absurd rfl hji
       ·exact .inl (List.mem_append_right _ hj)
     ·exact .inr (.inl hj)
     ·exact .inr (.inr hj)
   rw [hRe] at h
   by_cases hor : floats P hs o = true ∨ ∀ j ∈ pre, floats P hs (ops.getD j default) = true
   ·exact zaP (fun c w hh => go pre post i o hRe ho hcl' hmem' c w hh.1 hh.2) (zaK (bubbleG ok ho hia hiz pre post (fun j hj => ⟨hpre j hj, (hR j (by rw [hRe]; simp [hj])).1, hfree j hj⟩) hor c w hw0 h) hw0)
   ·-- a call does not come ahead of another
    exfalso
    apply hor
    by_cases hf : floats P hs o = true
    ·exact .inl hf
    ·right
     intro j hj
     obtain ⟨hja, hjz⟩ := hR j (by rw [hRe]; simp [hj])
     have hjs : j < ops.size := by omega
     have := ok.comm i o ho hia j _ (Array.getElem?_eq_getElem hjs) hja (hpre j hj) (hfree j hj)
     unfold commH at this
     rw [Bool.and_eq_true, Bool.or_eq_true, Bool.or_eq_true] at this
     rw [zlz (Array.getElem?_eq_getElem hjs)]
     rcases this.2 with (h | h) | h
     ·exact h
     ·exact absurd h hf
     ·exfalso
      rw [Bool.and_eq_true, beq_iff_eq, beq_iff_eq] at h
      exact hf (ok.rd i o ho h.2)
  ·-- the maker
   have h1 := aFirst ok R hR c w hw0 h
   refine zaP (fun c w hh => ?_) (zaK h1 hw0)
   refine anyOrderB ok (n + 1) (R ++ [z]) _ c w (by simp [hlen]) (by simp [hsz]) hcl' ?_ ?_ ?_ hh.1 hh.2
   ·rw [List.pairwise_append]
    exact ⟨hpw, by simp, fun x hx y hy => by rw [List.mem_singleton.1 hy]; exact (hR x hx).2⟩
   ·intro hm
    rcases List.mem_append.1 hm with hm | hm
    ·exact (hR i hm).1 rfl
    ·have := ok.az
     have : i = z := by simpa using hm
     omega
   ·intro j
    rw [hset]
    have := ok.az
    constructor
    ·intro hj
     rcases List.mem_append.1 hj with hj | hj
     ·exact ⟨(hR j hj).1, .inl hj⟩
     ·have hj : j = z := by simpa using hj
      exact ⟨by omega, .inr (.inr hj)⟩
    ·rintro ⟨hji, hj | hj | hj⟩
     ·exact List.mem_append_left _ hj
     ·exact absurd hj hji
     ·exact List.mem_append_right _ (by simp [hj])
  ·-- the last stands behind the maker
   exfalso
   have hl := zdo ok hcl i i o (Nat.le_refl _) ho hdeps a ok.az (ok.last a ok.az)
   rw [ha0] at hl; cases hl
theorem anyOrderF {Q : Exit → Act → World → Prop} (ok : OkF P hs ops m a z) : ∀ (n : Nat) (R : List Nat) (listed : Array Bool) (c : Act) (w : World),
  R.length = n → listed.size = ops.size → Closed ops listed → R.Pairwise (· < ·) → (∀ j, (j ∈ R ∨ j = a ∨ j = z) ↔ j < ops.size ∧ listed.getD j false = false) → (∀ j ∈ R, j ≠ a ∧ j < z) →
  S w → wpG P S hs ops a z (fun c w => S w → Q .normal c w) R c w → wpAnyX P .any ops (Q .normal) (n + 2) listed c w := by
 intro n
 induction n with
 | zero =>
  intro R listed c w hlen hsz hcl hpw hmem hR hw0 h
  refine anyStep ok 0 R listed c w hlen hsz hcl hpw hmem hR hw0 h fun pre post i o he => ?_
  rw [List.eq_nil_of_length_eq_zero hlen] at he
  simp at he
 | succ n ih =>
  intro R listed c w hlen hsz hcl hpw hmem hR hw0 h
  refine anyStep ok (n + 1) R listed c w hlen hsz hcl hpw hmem hR hw0 h fun pre post i o he ho hcl' hmem' c w hw hh => ?_
  refine ih (pre ++ post) _ c w (by rw [he] at hlen; simp at hlen ⊢; omega) (by simp [hsz]) hcl' ?_ hmem' (fun j hj => hR j (by rw [he]; rcases List.mem_append.1 hj with h | h <;> simp [h])) hw hh
  rw [he] at hpw
  exact hpw.sublist (List.Sublist.append_left (List.sublist_cons_self _ _) _)
def floatB (P : Program) (hs : Option Tmp → Bool) (ops : Array Oper) (k1 k2 : Nat) : Bool :=
 okFB P hs ops (ops.size - 2) (ops.size - 1) && decide (k1 < k2) && decide (k2 + 2 < ops.size) && (List.range (ops.size - 2)).all fun i => i == k1 || i == k2 || floats P hs (ops.getD i default)
theorem zcY {Q : Act → World → Prop} : ∀ (A R : List Nat), (∀ i ∈ A, floats P hs (ops.getD i default) = true) → wpG P S hs ops a z Q (A ++ R) = wpIh P S hs ops (wpG P S hs ops a z Q R) A
 | [], R, _ => rfl
 | i :: A, R, h => by
  have h0 := h i List.mem_cons_self
  show wpG P S hs ops a z Q (i :: (A ++ R)) = TIh P S hs ops i (wpIh P S hs ops (wpG P S hs ops a z Q R) A)
  conv => lhs; unfold wpG
  rw [if_pos h0, zcY A R fun j hj => h j (List.mem_cons_of_mem _ hj)]
end
end Go.Pw
namespace Go.Vc
set_option linter.unusedVariables false
set_option maxHeartbeats 1000000
open Go Go.Pw
def outK {ι : Type} (dl : DL) (slots : ι → List (Nat × Value)) (I : ι → World → Prop) : Exit → Fr → World → Prop
 | .normal, g, w => dsK dl g (Ret (∃ j, Agree g (slots j) ∧ I j w))
 | _, _, _ => False
theorem Draw.cut {P : Program} {n : Nat} {K : Exit → Fr → World → Prop} {id : Nat} {ops : Array Oper} {t : List It} {fg : Nat → Value} {dl : DL} {w : World} {ι : Type} (slots : ι → List (Nat × Value)) (I : ι → World → Prop)
  (h : Draw P n (outK dl slots I) id ops [] ⟨fg, dl⟩ w) (k : ∀ i g w, I i w → Sat P n K .normal t (setL (slots i) ⟨g, dl⟩) w) : Draw P n K id ops t ⟨fg, dl⟩ w :=
 ⟨fun hm hf => zdK (h.h hm hf) fun e a' w' he => by
  obtain ⟨g', hg', rfl, hk⟩ := he
  have hk : outK dl slots I e g' w' := hk
  cases e with
  | normal =>
   obtain ⟨hd, hk⟩ := zoU hk
   obtain ⟨j, h1, h2⟩ := Ret.h hk
   have := (k j g'.g w' h2).h
   rw [zoD hd, zgM h1] at this
   exact ⟨g', hg', rfl, this hg'⟩
  | _ => exact hk.elim⟩
theorem Draw.float2 {P : Program} {n : Nat} {K : Exit → Fr → World → Prop} {id : Nat} {ops : Array Oper} {t : List It} {f : Fr} {w : World} (S : World → Prop) (hs : Option Tmp → Bool) (k1 k2 : Nat) (hB : floatB P hs ops k1 k2 = true) (hw : S w.drew)
  (h : Sat P n (fun e g u => e = .normal ∧ Sat P n K .normal (.opsH S hs ops.toList (((ops.size - 2) :: k1 :: (List.range' (k1 + 1) (ops.size - 2 - (k1 + 1)) ++ [ops.size - 1])).map fun i => ops.getD i default) :: t) g u ∧
   Sat P n (fun e g u => e = .normal ∧ Sat P n K .normal (.opsH S hs ops.toList (((ops.size - 2) :: k2 :: (List.range' (k2 + 1) (ops.size - 2 - (k2 + 1)) ++ [ops.size - 1])).map fun i => ops.getD i default) :: t) g u ∧
    Sat P n K .normal (.opsH S hs ops.toList ((k2 :: (List.range' (k2 + 1) (ops.size - 2 - (k2 + 1)) ++ [ops.size - 2, ops.size - 1])).map fun i => ops.getD i default) :: t) g u)
    .normal [.opsH S hs ops.toList ((k1 :: List.range' (k1 + 1) (k2 - (k1 + 1))).map fun i => ops.getD i default)] g u)
   .normal [.opsH S hs ops.toList ((List.range' 0 k1).map fun i => ops.getD i default)] f w.drew) : Draw P n K id ops t f w := by
 refine ⟨fun hm hf => ?_⟩
 obtain ⟨l⟩ := ops
 unfold floatB at hB
 simp only [Bool.and_eq_true, decide_eq_true_eq, List.all_eq_true, List.mem_range, Bool.or_eq_true, beq_iff_eq] at hB
 obtain ⟨⟨⟨hok, h12⟩, h2s⟩, hfl⟩ := hB
 have ok := zqA hok
 refine zaU hm ?_
 generalize hN : l.toArray.size = N at *
 have hN2 : N = (N - 2) + 2 := by omega
 have hz : ∀ j, (Array.replicate N false).getD j false = false := fun j => by
  simp only [Array.getD_eq_getD_getElem?, Array.getElem?_replicate]; split <;> rfl
 have key := anyOrderF (Q := LiftE n (after P n t K)) (S := S) ok (N - 2) (List.range' 0 (N - 2)) (Array.replicate N false) (act n f) w.drew (by simp) (by simp [hN]) (fun i o _ hl => by rw [hz] at hl; cases hl) (List.pairwise_lt_range') (fun j => by
  rw [hz, hN]
  simp only [List.mem_range'_1]
  constructor
  ·rintro (h | h | h)
   ·exact ⟨by omega, trivial⟩
   ·exact ⟨by omega, trivial⟩
   ·exact ⟨by omega, trivial⟩
  ·rintro ⟨h, _⟩
   by_cases h1 : j < N - 2
   ·exact .inl ⟨by omega, by omega⟩
   ·by_cases h2 : j = N - 2
    ·exact .inr (.inl h2)
    ·exact .inr (.inr (by omega))) (fun j hj => by simp only [List.mem_range'_1] at hj; omega) hw ?_
 ·rw [← hN2] at key
  exact key
 have hsplit : List.range' 0 (N - 2) = List.range' 0 k1 ++ (k1 :: (List.range' (k1 + 1) (k2 - (k1 + 1)) ++ (k2 :: List.range' (k2 + 1) (N - 2 - (k2 + 1))))) := by
  have e1 : List.range' 0 (N - 2) = List.range' 0 k1 ++ List.range' k1 (N - 2 - k1) := by
   have := List.range'_append (s := 0) (m := k1) (n := N - 2 - k1) (step := 1)
   simp only [Nat.one_mul, Nat.zero_add] at this
   rw [this]; congr 1; omega
  have e2 : List.range' k1 (N - 2 - k1) = k1 :: List.range' (k1 + 1) (N - 2 - k1 - 1) := by
   obtain ⟨q, hq⟩ : ∃ q, N - 2 - k1 = q + 1 := ⟨N - 2 - k1 - 1, by omega⟩
   rw [hq, List.range'_succ]; rfl
  have e3 : List.range' (k1 + 1) (N - 2 - k1 - 1) = List.range' (k1 + 1) (k2 - (k1 + 1)) ++ List.range' k2 (N - 2 - k2) := by
   have := List.range'_append (s := k1 + 1) (m := k2 - (k1 + 1)) (n := N - 2 - k2) (step := 1)
   simp only [Nat.one_mul] at this
   rw [show k1 + 1 + (k2 - (k1 + 1)) = k2 by omega] at this
   rw [this]; congr 1; omega
  have e4 : List.range' k2 (N - 2 - k2) = k2 :: List.range' (k2 + 1) (N - 2 - (k2 + 1)) := by
   obtain ⟨q, hq⟩ : ∃ q, N - 2 - k2 = q + 1 := ⟨N - 2 - k2 - 1, by omega⟩
   rw [hq, List.range'_succ, show N - 2 - (k2 + 1) = q by omega]
  rw [e1, e2, e3, e4]
 have hf0 : ∀ A : List Nat, (∀ i ∈ A, i < N - 2 ∧ i ≠ k1 ∧ i ≠ k2) → ∀ i ∈ A, floats P hs (l.toArray.getD i default) = true := fun A hA i hi => by
  obtain ⟨a1, a2, a3⟩ := hA i hi
  rcases hfl i a1 with (h | h) | h
  ·exact absurd h a2
  ·exact absurd h a3
  ·exact h
 have hsub1 : List.range' (k1 + 1) (N - 2 - (k1 + 1)) = List.range' (k1 + 1) (k2 - (k1 + 1)) ++ (k2 :: List.range' (k2 + 1) (N - 2 - (k2 + 1))) := by
  have e3 : List.range' (k1 + 1) (N - 2 - (k1 + 1)) = List.range' (k1 + 1) (k2 - (k1 + 1)) ++ List.range' k2 (N - 2 - k2) := by
   have := List.range'_append (s := k1 + 1) (m := k2 - (k1 + 1)) (n := N - 2 - k2) (step := 1)
   simp only [Nat.one_mul] at this
   rw [show k1 + 1 + (k2 - (k1 + 1)) = k2 by omega] at this
   rw [this]; congr 1; omega
  have e4 : List.range' k2 (N - 2 - k2) = k2 :: List.range' (k2 + 1) (N - 2 - (k2 + 1)) := by
   obtain ⟨q, hq⟩ : ∃ q, N - 2 - k2 = q + 1 := ⟨N - 2 - k2 - 1, by omega⟩
   rw [hq, List.range'_succ, show N - 2 - (k2 + 1) = q by omega]
  rw [e3, e4]
 have sat : ∀ {K' : Exit → Fr → World → Prop} {t' : List It} {L : List Nat} {g : Fr} {u : World}, Sat P n K' .normal (.opsH S hs l (L.map fun i => l.toArray.getD i default) :: t') g u → Ok n g → S u → (∀ i ∈ L, i < N) →
   wpIh P S hs l.toArray (fun c w => S w → Lift n (after P n t' K' .normal) c w) L (act n g) u := fun {K' t' L g u} hh hg hS hL => by
  rw [zez L (fun i hi => by rw [hN]; exact hL i hi)]
  exact hh.h hg hS
 have happ : ∀ {Q : Act → World → Prop} (A B : List Nat), wpIh P S hs l.toArray Q (A ++ B) = wpIh P S hs l.toArray (wpIh P S hs l.toArray Q B) A := fun {Q} A B => by
  induction A with
  | nil => rfl
  | cons i A ih =>
   show TIh P S hs l.toArray i (wpIh P S hs l.toArray Q (A ++ B)) = TIh P S hs l.toArray i _
   rw [ih]
 have cons : ∀ {Q : Act → World → Prop} {i : Nat} {R : List Nat} {c : Act} {u : World}, TIh P S hs l.toArray (N - 2) (wpIh P S hs l.toArray Q (i :: R ++ [N - 1])) c u → TIh P S hs l.toArray i (wpG P S hs l.toArray (N - 2) (N - 1) Q R) c u → wpG P S hs l.toArray (N - 2) (N - 1) Q (i :: R) c u := fun {Q i R c u} h1 h2 => by
  unfold wpG
  split
  ·exact h2
  ·exact ⟨h1, h2⟩
 rw [hsplit, zcY (List.range' 0 k1) _ (hf0 _ fun i hi => by simp only [List.mem_range'_1] at hi; omega)]
 refine zcl (List.range' 0 k1) hw (fun c u hS hh => ?_) (sat h hf hw (fun i hi => by simp only [List.mem_range'_1] at hi; omega))
 obtain ⟨g, hg, rfl, _, s1, s2⟩ := hh hS
 refine cons ?_ ?_
 ·have := sat (L := (N - 2) :: k1 :: (List.range' (k1 + 1) (N - 2 - (k1 + 1)) ++ [N - 1])) s1 hg hS (fun i hi => by
   simp only [List.mem_cons, List.mem_append, List.mem_range'_1, List.not_mem_nil, or_false] at hi; omega)
  rw [hsub1] at this
  exact this
 ·have h2 := sat (L := k1 :: List.range' (k1 + 1) (k2 - (k1 + 1))) s2 hg hS (fun i hi => by
   simp only [List.mem_cons, List.mem_range'_1] at hi; omega)
  refine TIh_mono hS (fun c u hS hh => ?_) h2
  rw [zcY (List.range' (k1 + 1) (k2 - (k1 + 1))) _ (hf0 _ fun i hi => by simp only [List.mem_range'_1] at hi; omega)]
  refine zcl _ hS (fun c u hS hh => ?_) hh
  obtain ⟨g, hg, rfl, _, s3, s4⟩ := hh hS
  refine cons ?_ ?_
  ·exact sat (L := (N - 2) :: k2 :: (List.range' (k2 + 1) (N - 2 - (k2 + 1)) ++ [N - 1])) s3 hg hS (fun i hi => by
    simp only [List.mem_cons, List.mem_append, List.mem_range'_1, List.not_mem_nil, or_false] at hi; omega)
  ·have h4 := sat (L := k2 :: (List.range' (k2 + 1) (N - 2 - (k2 + 1)) ++ [N - 2, N - 1])) s4 hg hS (fun i hi => by
    simp only [List.mem_cons, List.mem_append, List.mem_range'_1, List.not_mem_nil, or_false] at hi; omega)
   refine TIh_mono hS (fun c u hS hh => ?_) h4
   have e : wpG P S hs l.toArray (N - 2) (N - 1) (fun c w => S w → LiftE n (after P n t K) .normal c w) (List.range' (k2 + 1) (N - 2 - (k2 + 1))) = wpIh P S hs l.toArray (TIh P S hs l.toArray (N - 2) (wpIh P S hs l.toArray (fun c w => S w → LiftE n (after P n t K) .normal c w) [N - 1])) (List.range' (k2 + 1) (N - 2 - (k2 + 1))) := by
    have := zcY (P := P) (S := S) (hs := hs) (ops := l.toArray) (a := N - 2) (z := N - 1) (Q := fun c w => S w → LiftE n (after P n t K) .normal c w) (List.range' (k2 + 1) (N - 2 - (k2 + 1))) [] (hf0 _ fun i hi => by simp only [List.mem_range'_1] at hi; omega)
    rw [List.append_nil] at this
    exact this
   rw [e]
   rw [happ] at hh
   exact hh
end Go.Vc
namespace Go.Proofs.YtcplagfblmemhaaGreatDoor
set_option linter.unusedVariables false
set_option maxHeartbeats 1000000
open Go.Shelf Go.RowKit Go.Pw Go.Vc Go.Cs Go.Lib Go.Cd Go.Cx
set_option linter.unusedVariables false
set_option maxRecDepth 100000
structure BkAt (w : World) (B b : Nat) (v : Sl) (hs : List Sl) (k : Bk) : Prop where
 var : VarK w b 78 [.int .i64 k.state, .int .i64 k.kept, v.v]
 own : w.ownsRow B 53 1 v.v hs.length (hs.flatMap shC)
 hl : hs.length = k.notes.length
 row : ∀ i (h : i < hs.length), w.ownsRow B 66 3 hs[i].v (k.notes[i]'(by omega)).length ((k.notes[i]'(by omega)).flatMap chC)
 good : GoodB k
def Foreign (w : World) (q : Nat) : Prop := ∀ cs T f, w.heap[q]? = some (.cells cs T f) → T ≠ 78 ∧ T ≠ 53 ∧ T ≠ 66
theorem _root_.Go.Vc.VarK.foreign {w : World} {r : Nat} {T : TypeId} {cs : List Value} (h : VarK w r T cs) (h1 : T ≠ 78) (h2 : T ≠ 53) (h3 : T ≠ 66) : Foreign w r := fun cs' T' f' e => by
 have h' : w.heap[r]? = some (.cells cs.toArray T) := h
 rw [h'] at e
 injection e with e; injection e with e1 e2 e3
 subst e2; exact ⟨h1, h2, h3⟩
theorem zgO {w : World} {B s n q : Nat} {e : TypeId} {v : Value} {xs : List Value} (h : w.ownsRow B e s v n xs) (hf : ∀ cs T f, w.heap[q]? = some (.cells cs T f) → T ≠ e) : v.ownBlock ≠ some q := fun hq => by
 rcases h.2 with ⟨rfl, _⟩ | ⟨g, cap, cur, rfl, hB, hg, _⟩
 ·cases hq
 ·have e1 : g = q := by simpa [Value.ownBlock] using hq
  subst e1
  exact hf _ _ _ hg rfl
theorem BkAt.keep {w w' : World} {B b : Nat} {v : Sl} {hs : List Sl} {k : Bk} {c : Nat → Prop} (h : BkAt w B b v hs k) (kk : Kp w w' c) (hc : ∀ q, c q → Foreign w q) : BkAt w' B b v hs k := by
 refine ⟨h.var.keep kk fun e => ?_, zad h.own kk fun q hq e => ?_, h.hl, fun i hi => zad (h.row i hi) kk fun q hq e => ?_, h.good⟩
 ·have h' : w.heap[b]? = some (.cells (List.toArray [.int .i64 k.state, .int .i64 k.kept, v.v]) 78) := h.var
  exact (hc _ e _ _ _ h').1 rfl
 ·exact zgO h.own (fun cs T f ht => (hc _ e cs T f ht).2.1) hq
 ·exact zgO (h.row i hi) (fun cs T f ht => (hc _ e cs T f ht).2.2) hq
theorem BkAt.keep0 {w w' : World} {B b : Nat} {v : Sl} {hs : List Sl} {k : Bk} (h : BkAt w B b v hs k) (kk : Kp w w' n_) : BkAt w' B b v hs k := h.keep kk fun _ e => e.elim
theorem zcc {w : World} {B s n : Nat} {e : TypeId} {v : Sl} {xs : List Value} (h : w.ownsRow B e s v.v n xs) : v.n = n := by
 obtain ⟨a, c, e⟩ := zac h
 obtain ⟨va, vn, vc⟩ := v
 injection e
section
variable {w : World}
theorem zjG (n : Int) : Calls Tryz.prog 67 #[.int .i64 n] w fun e w' => e = .returned (.bool (three n)) ∧ Kp w w' n_ := by
 refine zaa (args := [.int .i64 n]) Tryz.func67 rfl NL ?_; refine GW ?_
 unfold three
 by_cases h1 : 1 ≤ n
 ·by_cases h2 : n ≤ 3
  ·refine KGO ?_
   exact ⟨zag (by simp [h1, h2]), Kp.refl _ _⟩
  ·refine KGO ?_
   exact ⟨zag (by simp [h2]), Kp.refl _ _⟩
 ·refine KGO ?_
  exact ⟨zag (by simp [h1]), Kp.refl _ _⟩
theorem zpj (c : Chg) : Calls Tryz.prog 27 #[.agg (chC c).toArray] w fun e w' => e = .returned (.bool (fineA c)) ∧ Kp w w' n_ := by
 refine zaa (args := [.agg (chC c).toArray]) Tryz.func27 rfl NL ?_; refine GW ?_
 obtain ⟨a_b1, v_b1, k_w1, z_w1, r_w1⟩ := new5 w 66 (chC c)
 generalize w.alloc (.cells (List.toArray (chC c)) 66) = w1 at *
 generalize hs_b1 : w.heap.size = b1 at *
 refine KGO ?_
 refine CallS.of (Tryz.call67 _ _) (zjG c.of) ?_
 rintro e w2 ⟨rfl, k2⟩
 refine RT ?_
 have a2 := zaf a_b1 k2
 have q2 := Kp.refl w2 n_
 unfold fineA
 cases h1 : three c.of with
 | false =>
  refine KGO ?_
  exact ⟨zag (by simp), k_w1.trans0 k2⟩
 | true =>
  refine KGO ?_
  refine CallS.of (Tryz.call67 _ _) (zjG c.what) ?_
  rintro e w3 ⟨rfl, k3⟩
  refine RT ?_
  have a3 := zaf a2 k3
  have q3 := Kp.refl w3 n_
  cases h2 : three c.what with
  | false =>
   refine KGO ?_
   exact ⟨zag (by simp), (k_w1.trans0 k2).trans0 k3⟩
  | true =>
   refine KGO ?_
   exact ⟨zag (by simp), (k_w1.trans0 k2).trans0 k3⟩
theorem zke (c : Chg) : Calls Tryz.prog 26 #[.agg (chC c).toArray] w fun e w' => e = .returned (.bool (!fineA c)) ∧ Kp w w' n_ := by
 refine zaa (args := [.agg (chC c).toArray]) Tryz.func26 rfl NL ?_; refine GW ?_
 obtain ⟨a_b1, v_b1, k_w1, z_w1, r_w1⟩ := new5 w 66 (chC c)
 generalize w.alloc (.cells (List.toArray (chC c)) 66) = w1 at *
 generalize hs_b1 : w.heap.size = b1 at *
 refine KGO ?_
 refine CallS.of (Tryz.call27 _ _) (zpj c) ?_
 rintro e w2 ⟨rfl, k2⟩
 refine RT ?_
 exact ⟨rfl, k_w1.trans0 k2⟩
theorem zni (s k : Int) (w : World) : (Instr.build 78 [(0, .int .i64 s), (1, .int .i64 k)].toArray).run Tryz.prog w = .ok (.agg #[.int .i64 s, .int .i64 k, .slice none 0 0]) w := by
 simp [Instr.build, Instr.fill, go_sem, Tryz.runUnderlying78]
theorem zcJ (s k : Int) (hs : s ≤ 9223372036854775807) : Calls Tryz.prog 12 #[.int .i64 s, .int .i64 k] w fun e w' =>
  ((s < 0 ∨ k < 1 ∨ 256 < k) ∧ e = .returned (.pointer none) ∧ Kp w w' n_) ∨
  (¬ (s < 0 ∨ k < 1 ∨ 256 < k) ∧ e = .returned (.pointer (some ⟨w.heap.size, 0, none⟩)) ∧ BkAt w' w.heap.size w.heap.size ⟨none, 0, 0⟩ [] ⟨s, k, []⟩ ∧ Kp w w' n_) := by
 refine zaa (args := [.int .i64 s, .int .i64 k]) Tryz.func12 rfl NL ?_; refine GW ?_
 by_cases h1 : s < 0
 ·refine KGO ?_
  exact ⟨.inl ⟨.inl h1, rfl, Kp.refl _ _⟩⟩
 by_cases h2 : k < 1
 ·refine KGO ?_
  exact ⟨.inl ⟨.inr (.inl h2), rfl, Kp.refl _ _⟩⟩
 by_cases h3 : 256 < k
 ·refine KGO ?_
  exact ⟨.inl ⟨.inr (.inr h3), rfl, Kp.refl _ _⟩⟩
 refine KGO ?_
 refine RunV.of (zni s k w) ?_
 refine GW ?_
 refine ⟨.inr ⟨by omega, rfl, ⟨VarK.new w 78 [.int .i64 s, .int .i64 k, .slice none 0 0], World.ownsRow_nil _ _ _ _, rfl, fun i hi => absurd hi (Nat.not_lt_zero i), zgB (by omega) hs (by omega) (by omega)⟩, (Kp.refl _ _).alloc _⟩⟩
theorem znu {B b : Nat} {v : Sl} {hs : List Sl} {k : Bk} (h : BkAt w B b v hs k) : Calls Tryz.prog 21 #[.pointer (some ⟨b, 0, none⟩)] w fun e w' => e = .returned (.int .i64 k.state) ∧ Kp w w' n_ := by
 have ha := h.var.at
 refine zaa (args := [.pointer (some ⟨b, 0, none⟩)]) Tryz.func21 rfl NL ?_; refine GW ?_
 have q := Kp.refl w n_
 refine KGO ?_
 exact ⟨rfl, q⟩
theorem zdz {B b : Nat} {v : Sl} {hs : List Sl} {k : Bk} (h : BkAt w B b v hs k) : Calls Tryz.prog 20 #[.pointer (some ⟨b, 0, none⟩)] w fun e w' => e = .returned (.int .i64 (firstA k)) ∧ Kp w w' n_ := by
 have hn := zcc h.own
 have g := h.good
 have := g.ns; have := g.s0; have := g.s1
 obtain ⟨a, n, c⟩ := v
 obtain rfl : n = hs.length := hn
 have hl := h.hl
 have ha : At w b 0 [.int .i64 k.state, .int .i64 k.kept, .slice a hs.length c] := h.var.at
 refine zaa (args := [.pointer (some ⟨b, 0, none⟩)]) Tryz.func20 rfl NL ?_; refine GW ?_
 have q := Kp.refl w n_
 refine KGO ?_
 refine ⟨zgG ?_, q.drew⟩
 unfold firstA; omega
end
end Go.Proofs.YtcplagfblmemhaaGreatDoor
