/- Helper text of this claim: lemmas and contracts that the proved statement rests on; no conditions of its own. -/
import Derived.Laws.CopyRow
import Derived.Lib.AppendZerosOnto
import Derived.Lib.Overlaps
import Derived.Laws.Externs
import Derived.Lib.SliceRun
import Derived.Test.YtcplagfblmemhaaGreatDoorGCs0
namespace Go.Pw
set_option linter.unusedVariables false
open Go
set_option linter.unusedVariables false
set_option linter.unusedSectionVars false
section
variable {P : Program} {ops : Array Oper} {S : World → Prop} {hs : Option Tmp → Bool}
def cutAt (i : Nat) (l : List Nat) : List Nat × List Nat := (l.takeWhile (fun x => x != i), (l.dropWhile (fun x => x != i)).drop 1)
theorem zia {i : Nat} {p L : List Nat} (h : i ∉ p) : cutAt i (p ++ i :: L) = (p, L) := by
 unfold cutAt
 have h1 : ∀ x ∈ p, (x != i) = true := fun x hx => by simp; rintro rfl; exact h hx
 rw [List.takeWhile_append_of_pos h1, List.dropWhile_append_of_pos h1]
 simp
def uniqB (P : Program) (hs : Option Tmp → Bool) (ops : Array Oper) (m : Array Nat) (i : Nat) : Bool :=
 let E := exts m ops.size ((List.range ops.size).filter (other P hs ops))
 E.all fun a => E.all fun b => if (cutAt i a).1.all (fun x => (cutAt i b).1.contains x) && (cutAt i b).1.all (fun x => (cutAt i a).1.contains x) then (cutAt i a).2 == (cutAt i b).2 else true
structure OkN (P : Program) (hs : Option Tmp → Bool) (ops : Array Oper) (m : Array Nat) : Prop where
 sel : ∀ (i : Nat) (o : Oper), ops[i]? = some o → NoSel o
 back : ∀ (i : Nat) (o : Oper), ops[i]? = some o → ∀ e ∈ o.after, Region.binds .any e = true → e.on < i
 dep : ∀ (i : Nat) (o : Oper), ops[i]? = some o → ∀ j, j < i → (m.getD i 0).testBit j = true → ∃ e ∈ o.after, Region.binds .any e = true ∧ (e.on = j ∨ (j < e.on ∧ (m.getD e.on 0).testBit j = true))
 low : ∀ i j, i < ops.size → i ≤ j → (m.getD i 0).testBit j = false
 comm : ∀ (i : Nat) (o : Oper), ops[i]? = some o → ∀ (j : Nat) (p : Oper), ops[j]? = some p → j ≠ i → (m.getD i 0).testBit j = false → (m.getD j 0).testBit i = false → (other P hs ops i = false ∨ other P hs ops j = false) → commH P hs ops p o = true
 plain : ∀ (i : Nat) (o : Oper), ops[i]? = some o → (floats P hs o = true ∨ plainB o = true) ∨ uniqB P hs ops m i = true
theorem zeZ {m : Array Nat} {listed : Array Bool} (ok : OkN P hs ops m) (hcl : Closed ops listed) : ∀ (n i : Nat) (o : Oper), i ≤ n → ops[i]? = some o →
  (∀ e ∈ o.after, Region.binds .any e = true → listed.getD e.on false = true) → ∀ j, j < i → (m.getD i 0).testBit j = true → listed.getD j false = true := by
 intro n
 induction n with
 | zero => intro i o hi _ _ j hj; omega
 | succ n ih =>
  intro i o hi ho hdeps j hj hm
  obtain ⟨e, he, hb, hor⟩ := ok.dep i o ho j hj hm
  have hlt := ok.back i o ho e he hb
  have hl := hdeps e he hb
  rcases hor with rfl | hor
  ·exact hl
  ·obtain ⟨o', ho'⟩ : ∃ o', ops[e.on]? = some o' := by
    obtain ⟨hi', _⟩ := Array.getElem?_eq_some_iff.1 ho
    exact ⟨ops[e.on], Array.getElem?_eq_getElem (by omega)⟩
   exact ih e.on o' (by omega) ho' (hcl e.on o' ho' hl) j hor.1 hor.2
theorem bubbleN {Q : Act → World → Prop} {m : Array Nat} (ok : OkN P hs ops m) {i : Nat} {o : Oper} (ho : ops[i]? = some o) : ∀ (pre post : List Nat),
  (∀ j ∈ pre, j ≠ i ∧ (m.getD i 0).testBit j = false ∧ (m.getD j 0).testBit i = false ∧ (other P hs ops i = false ∨ other P hs ops j = false)) → ∀ (a : Act) (w : World), S w → wpIh P S hs ops Q (pre ++ i :: post) a w → TIh P S hs ops i (wpIh P S hs ops Q (pre ++ post)) a w
 | [], post, _, a, w, hw0, h => h
 | j :: pre, post, hp, a, w, hw0, h => by
  have ih := bubbleN (Q := Q) ok ho pre post (fun k hk => hp k (List.mem_cons_of_mem _ hk))
  have h' : TIh P S hs ops j (TIh P S hs ops i (wpIh P S hs ops Q (pre ++ post))) a w := TIh_mono hw0 (fun a w hS => ih a w hS) h
  show TIh P S hs ops i (TIh P S hs ops j (wpIh P S hs ops Q (pre ++ post))) a w
  obtain ⟨hj, hm1, hm2, hoth⟩ := hp j List.mem_cons_self
  unfold TIh at h' ⊢
  simp only [ho] at h' ⊢
  cases hpj : ops[j]? with
  | none => simp only [hpj] at h' ⊢; exact h'
  | some p =>
   simp only [hpj] at h' ⊢
   exact swapH hw0 (ok.sel j p hpj) (ok.sel i o ho) (ok.comm i o ho j p hpj hj hm1 hm2 hoth) h'
theorem zdN {m : Array Nat} (ok : OkN P hs ops m) (listed : Array Bool) : ∃ L, ExtL P hs ops m listed L := by
 refine ⟨(List.range ops.size).filter fun j => !listed.getD j false && other P hs ops j, List.nodup_range.filter _, fun j => ?_, ?_⟩
 ·simp
 ·refine (List.Pairwise.filter _ List.pairwise_lt_range).imp_of_mem ?_
  intro x y hx hy hxy
  exact ok.low x y (by have := (List.mem_filter.1 hx).1; simpa using this) (Nat.le_of_lt hxy)
theorem znH {m : Array Nat} {listed : Array Bool} (ok : OkN P hs ops m) (hcl : Closed ops listed) (hsz : listed.size = ops.size) {i : Nat} {o : Oper} (ho : ops[i]? = some o) (hi : listed.getD i false = false) (hoi : other P hs ops i = true)
  (hfree : ∀ j, j < ops.size → listed.getD j false = false → (m.getD i 0).testBit j = false) (hset : ∀ j, (listed.setIfInBounds i true).getD j false = false ↔ j ≠ i ∧ listed.getD j false = false) (hu : uniqB P hs ops m i = true) {L L' : List Nat}
  (e : ExtL P hs ops m (listed.setIfInBounds i true) L) (e' : ExtL P hs ops m (listed.setIfInBounds i true) L') : L = L' := by
 have hlt : i < ops.size := (Array.getElem?_eq_some_iff.1 ho).1
 have key : ∀ {L : List Nat}, ExtL P hs ops m (listed.setIfInBounds i true) L →
   ((List.range ops.size).filter fun j => listed.getD j false && other P hs ops j) ++ i :: L ∈ exts m ops.size ((List.range ops.size).filter (other P hs ops)) := by
  intro L e
  have hp : ∀ x, x ∈ ((List.range ops.size).filter fun j => listed.getD j false && other P hs ops j) ↔ x < ops.size ∧ listed.getD x false = true ∧ other P hs ops x = true := fun x => by simp
  have hLm := e.mem
  have hn : (((List.range ops.size).filter fun j => listed.getD j false && other P hs ops j) ++ i :: L).Nodup := by
   rw [List.nodup_append]
   refine ⟨List.nodup_range.filter _, List.nodup_cons.2 ⟨fun h => ?_, e.nodup⟩, fun a ha b hb => ?_⟩
   ·have := (hLm i).1 h
    rw [hset] at this; exact this.2.1.1 rfl
   ·rintro rfl
    have h1 := ((hp a).1 ha).2.1
    rcases List.mem_cons.1 hb with rfl | hb
    ·rw [hi] at h1; cases h1
    ·have := (hLm a).1 hb
     rw [hset, h1] at this; cases this.2.1.2
  have hm : ∀ j, j ∈ ((List.range ops.size).filter fun j => listed.getD j false && other P hs ops j) ++ i :: L ↔ j ∈ (List.range ops.size).filter (other P hs ops) := fun j => by
   rw [List.mem_append, List.mem_cons, hp, hLm, hset, List.mem_filter, List.mem_range]
   constructor
   ·rintro (⟨a, _, c⟩ | rfl | ⟨a, _, c⟩)
    ·exact ⟨a, c⟩
    ·exact ⟨hlt, hoi⟩
    ·exact ⟨a, c⟩
   ·rintro ⟨a, c⟩
    cases hl : listed.getD j false with
    | true => exact .inl ⟨a, rfl, c⟩
    | false =>
     by_cases hji : j = i
     ·exact .inr (.inl hji)
     ·exact .inr (.inr ⟨a, ⟨hji, rfl⟩, c⟩)
  refine zgR _ _ _ ?_ hn (List.nodup_range.filter _) hm ?_
  ·have := zmb _ (List.range ops.size) hn fun j hj => by
    have := (hm j).1 hj
    exact (List.mem_filter.1 this).1
   simpa using this
  ·rw [List.pairwise_append]
   refine ⟨?_, List.pairwise_cons.2 ⟨fun y hy => ?_, e.topo⟩, fun x hx y hy => ?_⟩
   ·refine (List.Pairwise.filter _ List.pairwise_lt_range).imp_of_mem ?_
    intro x y hx hy hxy
    exact ok.low x y (by have := (List.mem_filter.1 hx).1; simpa using this) (Nat.le_of_lt hxy)
   ·have := (hLm y).1 hy
    rw [hset] at this
    exact hfree y this.1 this.2.1.2
   ·obtain ⟨x1, x2, x3⟩ := (hp x).1 hx
    have hyl : listed.getD y false = false := by
     rcases List.mem_cons.1 hy with rfl | hy
     ·exact hi
     ·have := (hLm y).1 hy
      rw [hset] at this; exact this.2.1.2
    by_cases hxy : x ≤ y
    ·exact ok.low x y x1 hxy
    ·cases hmb : (m.getD x 0).testBit y with
     | false => rfl
     | true =>
      obtain ⟨o', ho'⟩ : ∃ o', ops[x]? = some o' := ⟨_, Array.getElem?_eq_getElem x1⟩
      have := zeZ ok hcl x x o' (Nat.le_refl _) ho' (hcl x o' ho' x2) y (by omega) hmb
      rw [hyl] at this; cases this
 have hip : i ∉ ((List.range ops.size).filter fun j => listed.getD j false && other P hs ops j) := fun h => by
  have := (List.mem_filter.1 h).2
  rw [hi] at this; simp at this
 unfold uniqB at hu
 have h1 := List.all_eq_true.1 (List.all_eq_true.1 hu _ (key e)) _ (key e')
 rw [zia hip, zia hip] at h1
 have hc : ∀ l : List Nat, (l.all fun x => l.contains x) = true := fun l => List.all_eq_true.2 fun x hx => by simpa using hx
 dsimp only at h1
 rw [hc, Bool.and_self, if_pos rfl] at h1
 exact eq_of_beq h1
theorem anyOrderN {Q : Exit → Act → World → Prop} {m : Array Nat} (ok : OkN P hs ops m) : ∀ (fuel : Nat) (F : List Nat → List Nat) (listed : Array Bool) (a : Act) (w : World),
  listed.size = ops.size → Closed ops listed → S w →
  (∀ L, ExtL P hs ops m listed L → GoodL ops m listed fuel (F L) ∧ (F L).filter (other P hs ops) = L ∧ wpIh P S hs ops (fun a w => S w → Q .normal a w) (F L) a w) → wpAnyX P .any ops (Q .normal) fuel listed a w := by
 intro fuel
 induction fuel with
 | zero =>
  intro F listed a w hsz hcl hw0 h
  obtain ⟨L0, hL0⟩ := zdN ok listed
  obtain ⟨g, _, h⟩ := h L0 hL0
  have hnil : F L0 = [] := List.eq_nil_of_length_eq_zero g.len
  rw [hnil] at h
  refine ⟨?_, h hw0⟩
  refine List.eq_nil_iff_forall_not_mem.2 fun i hi => ?_
  obtain ⟨h0, o, ho, _⟩ := mem_ready.1 hi
  have hlt : i < ops.size := (Array.getElem?_eq_some_iff.1 ho).1
  have h0' : listed.getD i false = false := by
   have : i < listed.size := by omega
   simp [this] at h0 ⊢; exact h0
  have := (g.mem i).2 ⟨hlt, h0'⟩
  rw [hnil] at this; cases this
 | succ fuel ih =>
  intro F listed a w hsz hcl hw0 h
  obtain ⟨L0, hL0⟩ := zdN ok listed
  refine ⟨fun hr => ?_, fun i hi => ?_⟩
  ·obtain ⟨g, _, _⟩ := h L0 hL0
   have hex : ∃ k, k < ops.size ∧ listed.getD k false = false ∧ ∀ j, j < k → ¬ (j < ops.size ∧ listed.getD j false = false) := by
    obtain ⟨x, hx⟩ : ∃ x, x ∈ F L0 := by
     cases hF : F L0 with
     | nil => have := g.len; rw [hF] at this; cases this
     | cons x l => exact ⟨x, List.mem_cons_self⟩
    have hx' := (g.mem x).1 hx
    have : ∀ n x, x ≤ n → x < ops.size ∧ listed.getD x false = false → ∃ k, k < ops.size ∧ listed.getD k false = false ∧ ∀ j, j < k → ¬ (j < ops.size ∧ listed.getD j false = false) := by
     intro n
     induction n with
     | zero => intro x hx hp; exact ⟨x, hp.1, hp.2, fun j hj => by omega⟩
     | succ n ih =>
      intro x hx hp
      by_cases hj : ∃ j, j < x ∧ j < ops.size ∧ listed.getD j false = false
      ·obtain ⟨j, h1, h2⟩ := hj; exact ih j (by omega) h2
      ·exact ⟨x, hp.1, hp.2, fun j h1 h2 => hj ⟨j, h1, h2⟩⟩
    exact this x x (Nat.le_refl _) hx'
   obtain ⟨k, hk, hkl, hmin⟩ := hex
   have hrdy : k ∈ Region.ready .any ops listed := by
    refine mem_ready.2 ⟨?_, ops[k], Array.getElem?_eq_getElem hk, fun e he hb => ?_⟩
    ·have : k < listed.size := by omega
     simp [this] at hkl ⊢; exact hkl
    ·have hlt' := ok.back k _ (Array.getElem?_eq_getElem hk) e he hb
     cases hl : listed.getD e.on false with
     | true => rfl
     | false => exact (hmin e.on hlt' ⟨by omega, hl⟩).elim
   rw [hr] at hrdy; cases hrdy
  ·obtain ⟨h0, o, ho, hdeps⟩ := mem_ready.1 hi
   have hlt : i < ops.size := (Array.getElem?_eq_some_iff.1 ho).1
   have hil : i < listed.size := by omega
   have h0' : listed.getD i false = false := by simp [hil] at h0 ⊢; exact h0
   have hfree : ∀ j, j < ops.size → listed.getD j false = false → (m.getD i 0).testBit j = false := fun j hj hl => by
    by_cases hji : i ≤ j
    ·exact ok.low i j hlt hji
    ·cases hm : (m.getD i 0).testBit j with
     | false => rfl
     | true =>
      have := zeZ ok hcl i i o (Nat.le_refl _) ho hdeps j (by omega) hm
      rw [hl] at this; cases this
   have hcl' : Closed ops (listed.setIfInBounds i true) := by
    intro k p hk hl e he hb
    by_cases hki : k = i
    ·subst hki
     obtain rfl : p = o := Option.some.inj (hk.symm.trans ho)
     exact getD_set_true (hdeps e he hb)
    ·rw [getD_set_ne false (fun h => hki h.symm)] at hl
     exact getD_set_true (hcl k p hk hl e he hb)
   have hset : ∀ j, (listed.setIfInBounds i true).getD j false = false ↔ j ≠ i ∧ listed.getD j false = false := fun j => by
    by_cases hji : j = i
    ·subst hji; simp [hil]
    ·rw [getD_set_ne false (fun h => hji h.symm)]; simp [hji]
   have step : ∀ L, GoodL ops m listed (fuel + 1) L → (∀ pre post, L = pre ++ i :: post → other P hs ops i = false ∨ ∀ j ∈ pre, other P hs ops j = false) → wpIh P S hs ops (fun a w => S w → Q .normal a w) L a w →
     GoodL ops m (listed.setIfInBounds i true) fuel (L.erase i) ∧ TIh P S hs ops i (wpIh P S hs ops (fun a w => S w → Q .normal a w) (L.erase i)) a w := by
    intro L g hoth hL
    have hin := (g.mem i).2 ⟨hlt, h0'⟩
    obtain ⟨pre, post, rfl⟩ := List.append_of_mem hin
    have hnd := g.nodup
    have hipre : i ∉ pre := fun hp => (List.nodup_append.1 hnd).2.2 i hp i List.mem_cons_self rfl
    have her : (pre ++ i :: post).erase i = pre ++ post := by
     rw [List.erase_append_right _ hipre]; simp
    refine ⟨⟨hnd.erase _, fun j => ?_, g.topo.sublist List.erase_sublist, ?_⟩, ?_⟩
    ·rw [hnd.mem_erase_iff, g.mem, hset]
     exact ⟨fun ⟨a, b, c⟩ => ⟨b, a, c⟩, fun ⟨b, a, c⟩ => ⟨a, b, c⟩⟩
    ·rw [List.length_erase_of_mem hin, g.len]; rfl
    ·rw [her]
     refine bubbleN ok ho pre post (fun j hj => ?_) a w hw0 hL
     have hjL := (g.mem j).1 (List.mem_append_left _ hj)
     refine ⟨fun e => hipre (e ▸ hj), hfree j hjL.1 hjL.2, (List.pairwise_append.1 g.topo).2.2 j hj i List.mem_cons_self, ?_⟩
     rcases hoth pre post rfl with h | h
     ·exact .inl h
     ·exact .inr (h j hj)
   cases hoi : other P hs ops i with
   | false =>
    have hext : ∀ L, ExtL P hs ops m (listed.setIfInBounds i true) L → ExtL P hs ops m listed L := fun L e =>
     ⟨e.nodup, (fun j => by
      rw [e.mem, hset]
      constructor
      ·rintro ⟨a, ⟨b, c⟩, d⟩; exact ⟨a, c, d⟩
      ·rintro ⟨a, c, d⟩
       refine ⟨a, ⟨fun e => ?_, c⟩, d⟩
       rw [e, hoi] at d; cases d), e.topo⟩
    obtain ⟨L1, hL1⟩ := zdN ok (listed.setIfInBounds i true)
    have hall := fun L (e : ExtL P hs ops m (listed.setIfInBounds i true) L) => step (F L) (h L (hext L e)).1 (fun _ _ _ => .inl hoi) (h L (hext L e)).2.2
    have hfl : floats P hs o = true := by
     unfold other at hoi
     rw [ho] at hoi
     simpa using hoi
    have hc := TIh_conj ho hw0 (.inl hfl) L1 hL1 (fun L e => (hall L e).2)
    refine zaP (fun a w hK => ?_) (zaK hc hw0)
    refine ih (fun L => (F L).erase i) _ a w (by simp [hsz]) hcl' hK.1 fun L e => ⟨(hall L e).1, ?_, hK.2 L e⟩
    have h1 := (h L (hext L e)).1
    have h2 := (h L (hext L e)).2.1
    obtain ⟨pre, post, hsp⟩ := List.append_of_mem ((h1.mem i).2 ⟨hlt, h0'⟩)
    have hipre : i ∉ pre := fun hp => by
     have := h1.nodup; rw [hsp] at this
     exact (List.nodup_append.1 this).2.2 i hp i List.mem_cons_self rfl
    show ((F L).erase i).filter _ = L
    rw [hsp] at h2 ⊢
    rw [List.erase_append_right _ hipre, List.erase_cons_head]
    rw [List.filter_append, List.filter_cons_of_neg (by simp [hoi])] at h2
    rw [List.filter_append]; exact h2
   | true =>
    have hext : ∀ L, ExtL P hs ops m (listed.setIfInBounds i true) L → ExtL P hs ops m listed (i :: L) := fun L e => by
     have hni : i ∉ L := fun hi => by have := (e.mem i).1 hi; rw [hset] at this; exact this.2.1.1 rfl
     refine ⟨List.nodup_cons.2 ⟨hni, e.nodup⟩, fun j => ?_, List.pairwise_cons.2 ⟨fun y hy => ?_, e.topo⟩⟩
     ·rw [List.mem_cons, e.mem, hset]
      constructor
      ·rintro (rfl | ⟨a, ⟨b, c⟩, d⟩)
       ·exact ⟨hlt, h0', hoi⟩
       ·exact ⟨a, c, d⟩
      ·rintro ⟨a, c, d⟩
       by_cases hji : j = i
       ·exact .inl hji
       ·exact .inr ⟨a, ⟨hji, c⟩, d⟩
     ·have := (e.mem y).1 hy
      rw [hset] at this
      exact hfree y this.1 this.2.1.2
    have hpre : ∀ L, ExtL P hs ops m (listed.setIfInBounds i true) L → ∀ pre post, F (i :: L) = pre ++ i :: post → (∀ j ∈ pre, other P hs ops j = false) ∧ i ∉ pre ∧ post.filter (other P hs ops) = L := fun L e pre post hsp => by
     have h1 := (h _ (hext L e)).1
     have h2 := (h _ (hext L e)).2.1
     have hnd := h1.nodup
     rw [hsp] at hnd h2
     have hipre : i ∉ pre := fun hp => (List.nodup_append.1 hnd).2.2 i hp i List.mem_cons_self rfl
     rw [List.filter_append, List.filter_cons_of_pos hoi] at h2
     cases hf : pre.filter (other P hs ops) with
     | nil =>
      rw [hf] at h2
      refine ⟨fun j hj => ?_, hipre, by simpa using h2⟩
      have := List.filter_eq_nil_iff.1 hf j hj
      simpa using this
     | cons x r =>
      rw [hf] at h2
      have hx : x = i := by simpa using (List.cons.inj h2).1
      have : x ∈ pre := (List.mem_filter.1 (by rw [hf]; exact List.mem_cons_self)).1
      exact (hipre (hx ▸ this)).elim
    obtain ⟨L1, hL1⟩ := zdN ok (listed.setIfInBounds i true)
    have hall := fun L (e : ExtL P hs ops m (listed.setIfInBounds i true) L) => step (F (i :: L)) (h _ (hext L e)).1 (fun pre post hsp => .inr (hpre L e pre post hsp).1) (h _ (hext L e)).2.2
    have hc : TIh P S hs ops i (fun a w => ∀ L, ExtL P hs ops m (listed.setIfInBounds i true) L → wpIh P S hs ops (fun a w => S w → Q .normal a w) ((F (i :: L)).erase i) a w) a w := by
     rcases ok.plain i o ho with hp | hu
     ·exact TIh_conj ho hw0 hp L1 hL1 (fun L e => (hall L e).2)
     ·refine TIh_mono hw0 (fun a w _ hk L e => ?_) (hall L1 hL1).2
      rw [znH ok hcl hsz ho h0' hoi hfree hset hu e hL1]; exact hk
    refine zaP (fun a w hK => ?_) (zaK hc hw0)
    refine ih (fun L => (F (i :: L)).erase i) _ a w (by simp [hsz]) hcl' hK.1 fun L e => ⟨(hall L e).1, ?_, hK.2 L e⟩
    obtain ⟨pre, post, hsp⟩ := List.append_of_mem (((h _ (hext L e)).1.mem i).2 ⟨hlt, h0'⟩)
    obtain ⟨hp1, hp2, hp3⟩ := hpre L e pre post hsp
    show ((F (i :: L)).erase i).filter _ = L
    rw [hsp, List.erase_append_right _ hp2, List.erase_cons_head, List.filter_append, hp3]
    rw [List.filter_eq_nil_iff.2 (fun j hj => by simp [hp1 j hj])]; rfl
def textN (P : Program) (hs : Option Tmp → Bool) (ops : Array Oper) (Ls : List (List Nat)) : Bool :=
 let m := Region.before ops
 let ot := other P hs ops
 ((List.range ops.size).all fun i =>
  let o := ops.getD i default
  selB o && o.after.all (fun e => !Region.binds .any e || decide (e.on < i)) && decide ((m.getD i 0) < 2 ^ i) && ((floats P hs o || plainB o) || uniqB P hs ops m i) &&
  (List.range i).all fun j =>
   if (m.getD i 0).testBit j then o.after.any (fun e => Region.binds .any e && (e.on == j || (decide (j < e.on) && (m.getD e.on 0).testBit j)))
   else (ot i && ot j) || (commH P hs ops (ops.getD j default) o && commH P hs ops o (ops.getD j default))) &&
 Ls.all (fun L => decide L.Nodup && decide (L.length = ops.size) && (List.range ops.size).all (fun i => L.contains i) && L.all (fun i => decide (i < ops.size)) && topoB m L) &&
 (exts m ops.size ((List.range ops.size).filter ot)).all (fun p => Ls.any fun L => L.filter ot == p)
theorem zrb {Ls : List (List Nat)} (h : textN P hs ops Ls = true) : OkN P hs ops (Region.before ops) := by
 unfold textN at h
 simp only [Bool.and_eq_true] at h
 have h := h.1.1
 simp only [List.all_eq_true, List.mem_range, Bool.and_eq_true] at h
 have lt : ∀ (i : Nat) (o : Oper), ops[i]? = some o → i < ops.size ∧ ops.getD i default = o := fun i o ho => by
  obtain ⟨hi, he⟩ := Array.getElem?_eq_some_iff.1 ho
  exact ⟨hi, by simp [hi, he]⟩
 refine ⟨fun i o ho => ?_, fun i o ho e he hb => ?_, fun i o ho j hj hm => ?_, fun i j hi hij => ?_, fun i o ho j p hp hne hm1 hm2 hot => ?_, fun i o ho => ?_⟩
 ·obtain ⟨hi, he⟩ := lt i o ho
  have := (h i hi).1.1.1.1
  rw [he] at this; exact zdU this
 ·obtain ⟨hi, he'⟩ := lt i o ho
  have := (h i hi).1.1.1.2
  rw [he'] at this
  have := (Array.all_eq_true_iff_forall_mem.1 this) e he
  simpa [hb] using this
 ·obtain ⟨hi, he'⟩ := lt i o ho
  have := (h i hi).2 j hj
  rw [he', if_pos hm] at this
  obtain ⟨e, he, hb⟩ := Array.any_eq_true'.1 this
  simp only [Bool.and_eq_true, Bool.or_eq_true, beq_iff_eq, decide_eq_true_eq] at hb
  exact ⟨e, he, hb.1, hb.2⟩
 ·have := (h i hi).1.1.2
  simp only [decide_eq_true_eq] at this
  exact Nat.testBit_lt_two_pow (Nat.lt_of_lt_of_le this (Nat.pow_le_pow_right (by omega) hij))
 ·obtain ⟨hi, he'⟩ := lt i o ho
  obtain ⟨hj, hp'⟩ := lt j p hp
  rcases Nat.lt_or_gt_of_ne hne with hlt | hlt
  ·have := (h i hi).2 j hlt
   rw [he', hp', hm1] at this
   simp only [Bool.false_eq_true, if_false, Bool.or_eq_true, Bool.and_eq_true] at this
   rcases this with ⟨a, b⟩ | ⟨a, b⟩
   ·rcases hot with e | e <;> simp_all
   ·exact a
  ·have := (h j hj).2 i hlt
   rw [he', hp', hm2] at this
   simp only [Bool.false_eq_true, if_false, Bool.or_eq_true, Bool.and_eq_true] at this
   rcases this with ⟨a, b⟩ | ⟨a, b⟩
   ·rcases hot with e | e <;> simp_all
   ·exact b
 ·obtain ⟨hi, he⟩ := lt i o ho
  have := (h i hi).1.2
  rw [he] at this
  simpa using this
theorem zee {Q : Exit → Act → World → Prop} {id : Nat} {l : List Oper} {a : Act} {w : World} (hm : P.follows .mixedOrders = true) (hs : Option Tmp → Bool) (S : World → Prop) (hw0 : S w.drew) (Ls : List (List Nat)) (hB : textN P hs l.toArray Ls = true)
  (h : ∀ L ∈ Ls, wpTh P S hs l.toArray (fun a w => S w → Q .normal a w) (L.map fun i => l.toArray.getD i default) a w.drew) : (Code.region id l.toArray true).wpX P Q a w := by
 refine zaU hm ?_
 have ok := zrb hB
 have hz : ∀ j, (Array.replicate l.toArray.size false).getD j false = false := fun j => by
  simp only [Array.getD_eq_getD_getElem?, Array.getElem?_replicate]; split <;> rfl
 have hB' := hB
 unfold textN at hB'
 simp only [Bool.and_eq_true, List.all_eq_true, List.any_eq_true, decide_eq_true_eq, List.mem_range, List.contains_iff_mem] at hB'
 obtain ⟨⟨_, hL⟩, hcov⟩ := hB'
 refine anyOrderN (S := S) (hs := hs) ok _ (fun π => (Ls.find? fun L => L.filter (other P hs l.toArray) == π).getD []) _ a _ (by simp) ?_ hw0 ?_
 ·intro i o _ hl; rw [hz] at hl; cases hl
 ·intro L e
  have hin : L ∈ exts (Region.before l.toArray) l.toArray.size ((List.range l.toArray.size).filter (other P hs l.toArray)) := by
   refine zgR L _ _ ?_ e.nodup (List.nodup_range.filter _) (fun j => ?_) e.topo
   ·have hsub : L ⊆ List.range l.toArray.size := fun j hj => by have := (e.mem j).1 hj; simpa using this.1
    have := zmb L _ e.nodup hsub
    simpa using this
   ·rw [e.mem, hz]; simp
  obtain ⟨L', hL', hf⟩ := hcov L hin
  have hsome : (Ls.find? fun L' => L'.filter (other P hs l.toArray) == L).isSome := List.find?_isSome.2 ⟨L', hL', hf⟩
  obtain ⟨L2, h2⟩ := Option.isSome_iff_exists.1 hsome
  have hm2 := List.mem_of_find?_eq_some h2
  have hp2 := List.find?_some h2
  obtain ⟨⟨⟨⟨g1, g2⟩, g3⟩, g4⟩, g5⟩ := hL L2 hm2
  rw [h2, Option.getD_some]
  refine ⟨⟨g1, fun j => ⟨fun hj => ⟨g4 j hj, hz j⟩, fun hj => g3 j hj.1⟩, zkW g5, g2⟩, by simpa using hp2, ?_⟩
  rw [zez L2 g4]
  exact h L2 hm2
end
end Go.Pw
namespace Go.Vc
set_option linter.unusedVariables false
open Go Go.Pw
theorem Draw.ways {P : Program} {n : Nat} {K : Exit → Fr → World → Prop} {id : Nat} {ops : Array Oper} {t : List It} {f : Fr} {w : World} (S : World → Prop) (hs : Option Tmp → Bool) (Ls : List (List Nat)) (hB : textN P hs ops Ls = true) (hw : S w.drew)
  (h : ∀ L ∈ Ls, Sat P n K .normal (.opsH S hs ops.toList (L.map fun i => ops.getD i default) :: t) f w.drew) : Draw P n K id ops t f w :=
 ⟨fun hm hf => by obtain ⟨l⟩ := ops; exact zee hm hs S hw Ls hB fun L hL => (h L hL).h hf hw⟩
end Go.Vc
namespace Go.Vc
set_option linter.unusedVariables false
open Go Go.Pw Go.RowKit
set_option linter.unusedVariables false
def VarK (w : World) (b : Nat) (T : TypeId) (cs : List Value) : Prop := w.heap[b]? = some (.cells cs.toArray T (0, 0))
section
variable {w w' : World} {b : Nat} {T : TypeId} {cs : List Value}
theorem VarK.at (h : VarK w b T cs) : At w b 0 cs := fun i v hi => by
 have := zeE (c := cs.toArray) h i v (by simpa using hi)
 exact this
theorem VarK.lt (h : VarK w b T cs) : b < w.heap.size := by
 rcases Nat.lt_or_ge b w.heap.size with h' | h'
 ·exact h'
 ·unfold VarK at h; rw [Array.getElem?_eq_none h'] at h; cases h
theorem VarK.frozen (h : VarK w b T cs) (i : Nat) : w.frozen? ⟨b, i, none⟩ = false := by
 unfold World.frozen?
 dsimp only
 unfold VarK at h
 rw [h]; rfl
theorem VarK.keep {c : Nat → Prop} (h : VarK w b T cs) (k : Kp w w' c) (hc : ¬ c b) : VarK w' b T cs := (k.block b h.lt hc).trans h
theorem VarK.keep0 (h : VarK w b T cs) (k : Kp w w' n_) : VarK w' b T cs := h.keep k fun e => e
theorem VarK.new (w : World) (T : TypeId) (cs : List Value) : VarK (w.alloc (.cells cs.toArray T)) w.heap.size T cs := heap_alloc_new w _
theorem VarK.set (h : VarK w b T cs) (i : Nat) (v : Value) : VarK (w.setCell ⟨b, i, none⟩ v) b T (cs.set i v) := by
 have := heap_setCell_same w b i cs.toArray T v h
 unfold VarK
 rw [this]; simp
theorem zbS : ∀ (vs : List Value) (i : Nat) (w : World), Kp w (setCells b vs i w) (one_ b)
 | [], i, w => Kp.refl _ _
 | v :: r, i, w => ((Kp.refl w (one_ b)).setCell (p := ⟨b, i, none⟩) (.inl rfl) v).trans' (zbS r (i + 1) _)
theorem VarK.setAll : ∀ (vs pre post : List Value) (w : World), VarK w b T (pre ++ post) → vs.length = post.length → VarK (setCells b vs pre.length w) b T (pre ++ vs)
 | [], pre, post, w, h, hl => by
  have : post = [] := List.eq_nil_of_length_eq_zero (by simpa using hl.symm)
  subst this; exact h
 | v :: r, pre, [], w, h, hl => by simp at hl
 | v :: r, pre, p :: post, w, h, hl => by
  have h1 := h.set pre.length v
  have e : (pre ++ p :: post).set pre.length v = (pre ++ [v]) ++ post := by
   rw [List.set_append_right _ _ (Nat.le_refl _)]; simp
  rw [e] at h1
  have := VarK.setAll r (pre ++ [v]) post _ h1 (by simpa using hl)
  rw [List.length_append] at this
  show VarK (setCells b r (pre.length + 1) _) b T _
  simpa using this
end
theorem Store.varK {P : Program} {t T : TypeId} {w : World} {b : Nat} {cs : List Value} (vs : List Value) {K : World → Prop} (h : VarK w b T cs) (hs : sizeOfT P t = some vs.length) (hl : vs.length = cs.length) (hf : ∀ v ∈ vs, Flat v)
  (k : ∀ w', VarK w' b T vs → Kp w w' (one_ b) → K w') : Store P t ⟨b, 0, none⟩ (.agg vs.toArray) w K :=
 Store.agg vs hs hf (fun j hj => ⟨_, h.at j _ (List.getElem?_eq_getElem (by omega))⟩) (fun j => h.frozen j) (k _ (by
  have := VarK.setAll (T := T) (b := b) vs [] cs w h hl
  simpa using this) (zbS vs 0 w))
theorem Store.cellK {P : Program} {t T : TypeId} {w : World} {b i : Nat} {cs : List Value} {v : Value} {K : World → Prop} (h : VarK w b T cs) (hi : i < cs.length) (hs : sizeOfT P t = some 1) (hv : v.cells = #[v] ∧ (∀ cs, v ≠ .agg cs) ∧ ∀ cs, v ≠ .tuple cs)
  (k : ∀ w', VarK w' b T (cs.set i v) → Kp w w' (one_ b) → K w') : Store P t ⟨b, 0 + i, none⟩ v w K :=
 Store.one hs hv (h.at i _ (List.getElem?_eq_getElem hi)) (h.frozen _) (k _ (by rw [Nat.zero_add]; exact h.set i v) ((Kp.refl w (one_ b)).setCell (p := ⟨b, 0 + i, none⟩) (.inl rfl) v))
theorem new5 (w : World) (T : TypeId) (vs : List Value) : At (w.alloc (.cells (List.toArray vs) T)) w.heap.size 0 vs ∧ VarK (w.alloc (.cells (List.toArray vs) T)) w.heap.size T vs ∧ Kp w (w.alloc (.cells (List.toArray vs) T)) n_ ∧ (w.alloc (.cells (List.toArray vs) T)).heap.size = w.heap.size + 1 ∧ Kp (w.alloc (.cells (List.toArray vs) T)) (w.alloc (.cells (List.toArray vs) T)) n_ := ⟨zaq w T vs, VarK.new w T vs, (Kp.refl _ _).alloc _, by simp, Kp.refl _ _⟩
theorem SVK {P : Program} {t T : TypeId} {w : World} {b : Nat} {cs : List Value} (vs : List Value) {K : World → Prop} (h : VarK w b T cs) (k : ∀ w', VarK w' b T vs → Kp w w' (one_ b) → K w') (hs : sizeOfT P t = some vs.length := by rfl) (hl : vs.length = cs.length := by rfl) (hf : vs.all flatB = true := by rfl) : Store P t ⟨b, 0, none⟩ (.agg vs.toArray) w K := Store.varK vs h hs hl (zam hf) k
theorem SCK {P : Program} {t T : TypeId} {w : World} {b : Nat} {cs : List Value} {v : Value} {K : World → Prop} (i : Nat) (h : VarK w b T cs) (k : ∀ w', VarK w' b T (cs.set i v) → Kp w w' (one_ b) → K w') (hi : i < cs.length := by exact Nat.le_of_ble_eq_true rfl) (hs : sizeOfT P t = some 1 := by rfl) (hv : v.cells = #[v] ∧ (∀ cs, v ≠ .agg cs) ∧ ∀ cs, v ≠ .tuple cs := by exact ⟨rfl, by simp, by simp⟩) : Store P t ⟨b, 0 + i, none⟩ v w K := Store.cellK h hi hs hv k
section
variable {P : Program} {w : World} {K : Value → World → Prop} {t tn ty e T : TypeId} {cs : Array Bool} {g : Nat} {cells : List Value}
theorem zcL (w : World) (g : Nat) (cs : Array Value) : Kp w (w.setRow g cs) (one_ g) :=
 ⟨rfl, rfl, rfl, by simp, fun k hk hn => setRow_other w g k cs fun e => hn e⟩
theorem VarK.setRow (h : VarK w g T cells) (new : List Value) : VarK (w.setRow g new.toArray) g T new := setRow_heap w g _ _ T (0, 0) h
theorem zbg {s bytes : Nat} {z : Value} (hb : (P.info? e).map (fun i => (i.zero, i.size, i.bytes)) = some (some z, s, bytes)) : ∃ i, P.info? e = some i ∧ i.zero = some z ∧ i.size = s ∧ i.bytes = bytes := by
 obtain ⟨i, hi, hi2⟩ := Option.map_eq_some_iff.1 hb
 simp only [Prod.mk.injEq] at hi2
 exact ⟨i, hi, hi2.1, hi2.2.1, hi2.2.2⟩
theorem RunN.roomK {s bytes : Nat} {z : Value} (ht : P.underlying t = some (.slice e)) (hb : (P.info? e).map (fun i => (i.zero, i.size, i.bytes)) = some (some z, s, bytes)) (h : VarK w g e cells) {n c m mc : Nat} {a : Addr} {news : List Value}
  (hl : news.length = m * s) (hnews : ∀ j u, news[j]? = some u → w.cell? (a.add j) = some u) (h1 : ∀ u ∈ news, u.oneCell' = true) (hroom : n + m ≤ c) (hfit : (n + m) * s ≤ cells.length)
  (k : ∀ w', VarK w' g e (cells.take (n * s) ++ news ++ cells.drop ((n + m) * s)) → Kp w w' (one_ g) → K (.slice (some ⟨g, 0, none⟩) (n + m) c) w') :
  RunN P (builtin .append #[t, t] ty cs [.slice (some ⟨g, 0, none⟩) n c, .slice (some a) m mc].toArray) w K := by
 obtain ⟨i, hi, z1, rfl, z3⟩ := zbg hb
 have hr := run_append_room (P := P) w t ty e i ht hi g n c cells.toArray h a m mc news hl hnews h1 hroom (by rw [hl]; rw [Nat.add_mul] at hfit; simpa using hfit)
 have e2 : n * i.size + news.length = (n + m) * i.size := by rw [hl, Nat.add_mul]
 rw [e2] at hr
 have e1 : (builtin .append #[t, t] ty cs [.slice (some ⟨g, 0, none⟩) n c, .slice (some a) m mc].toArray).run P w = .ok (.value (.slice (some ⟨g, 0, none⟩) (n + m) c)) (w.setRow g (cells.take (n * i.size) ++ news ++ cells.drop ((n + m) * i.size)).toArray) := by
  show (do pure (Next.value (← Builtin.append_ #[t, t] ty #[.slice (some ⟨g, 0, none⟩) n c, .slice (some a) m mc])) : Sem Next).run P w = _
  simp only [Sem.run_bind, hr, Result.andThen_ok]
  rfl
 exact ⟨_, _, e1, k _ (h.setRow _) (zcL _ _ _)⟩
theorem fits48 {need old bytes : Nat} (hlt : old < need) (hbytes : need * bytes ≤ 140737488355328) : Builtin.nextslicecap need old * bytes ≤ 281474976710656 := growslice_fits hlt hbytes
theorem RunN.zerosK {s bytes : Nat} {z : Value} {kq kn : IntKind} (ht : P.underlying t = some (.slice e)) (htn : P.underlying tn = some (.int kn)) (hb : (P.info? e).map (fun i => (i.zero, i.size, i.bytes)) = some (some z, s, bytes)) (hz : z.cells.size = s) (hs : 0 < s) {b : Addr} {n c m : Nat} {olds : List Value}
  (hlo : olds.length = n * s) (holds : ∀ j u, olds[j]? = some u → w.cell? (b.add j) = some u) (h0 : 0 < m)
  (hroom : c < n + m) (h63 : n + m ≤ 9223372036854775807) (hbytes : (n + m) * bytes ≤ 140737488355328)
  (k : ∀ w' tail c', VarK w' w.heap.size e (olds ++ tail) → (olds ++ tail).length = c' * s → n + m ≤ c' → c' ≤ maxLen → Kp w w' n_ → K (.slice (some ⟨w.heap.size, 0, none⟩) (n + m) c') w') :
  RunN P (builtin .append #[t, tn] ty cs [.slice (some b) n c, .int kq (m : Nat)].toArray) w K := by
 obtain ⟨i, hi, z1, rfl, rfl⟩ := zbg hb
 have hmb : m * i.bytes ≤ 281474976710656 := by rw [Nat.add_mul] at hbytes; omega
 have hr := Lib.run_append_grow_zeros (P := P) w t tn ty e i z kq kn ht htn hi z1 (some b) n c olds (run_firstCells_some (P := P) w.drew i.size n b n c olds hlo (by simpa using holds)) m h0 hs hroom (by omega) hmb (fits48 hroom hbytes)
 have hge := grownCap_ge w (n + m) c e
 refine ⟨_, w.drew.alloc (.cells (olds.toArray ++ Builtin.zeroCells z.cells m ++ Builtin.zeroCells z.cells (grownCap w (n + m) c e - (n + m))) e), ?_, k _ (Builtin.zeroCells z.cells m ++ Builtin.zeroCells z.cells (grownCap w (n + m) c e - (n + m))).toList _ ?_ ?_ hge (grownCap_le_maxLen w (n + m) c e (by rw [show maxLen = 9223372036854775807 from rfl]; exact h63)) ?_⟩
 ·show (do pure (Next.value (← Builtin.append_ #[t, tn] ty #[.slice (some b) n c, .int kq (m : Nat)])) : Sem Next).run P w = _
  simp only [Sem.run_bind, hr, Result.andThen_ok]
  rfl
 ·have := heap_alloc_new w.drew (.cells (olds.toArray ++ Builtin.zeroCells z.cells m ++ Builtin.zeroCells z.cells (grownCap w (n + m) c e - (n + m))) e)
  unfold VarK
  rw [show (olds ++ (Builtin.zeroCells z.cells m ++ Builtin.zeroCells z.cells (grownCap w (n + m) c e - (n + m))).toList).toArray = olds.toArray ++ Builtin.zeroCells z.cells m ++ Builtin.zeroCells z.cells (grownCap w (n + m) c e - (n + m)) by apply Array.ext'; simp]
  exact this
 ·rw [List.length_append, hlo, Array.length_toList, Array.size_append, size_zeroCells, size_zeroCells, hz, ← Nat.add_mul, ← Nat.add_mul]
  congr 1
  omega
 ·exact (Kp.refl w n_).drew.alloc _
theorem RunN.capK {a : Option Addr} {n c : Nat} (ht : P.underlying t = some (.slice e)) (k : K (.int .i64 (c : Nat)) w) : RunN P (builtin .cap #[t] ty cs [.slice a n c].toArray) w K := by
 refine ⟨_, w, ?_, k⟩
 show (do pure (Next.value (← Builtin.cap_ #[t] ty #[.slice a n c])) : Sem Next).run P w = _
 simp [Builtin.cap_, run_underlying ht, goInt]
theorem zeG {s bytes : Nat} {z : Value} {o n c i j m : Nat} (ht : P.underlying t = some (.slice e)) (hb : (P.info? e).map (fun i => (i.zero, i.size, i.bytes)) = some (some z, s, bytes)) (hij : i ≤ j) (hjm : j ≤ m) (hmc : m ≤ c) :
  (Instr.sliceAt t (.slice (some ⟨g, o, none⟩) n c) (some (.int .i64 (i : Nat))) (some (.int .i64 (j : Nat))) (some (.int .i64 (m : Nat)))).run P w = .ok (.slice (some ⟨g, if i = m then o else o + i * s, none⟩) (j - i) (m - i)) w := by
 obtain ⟨q, hq, _, rfl, _⟩ := zbg hb
 unfold Instr.sliceAt Instr.slice Instr.sliceBounds
 simp only [Sem.run_bind, zaA ht, Result.andThen_ok, zdZ hmc, zdZ hjm, zdZ hij, Sem.run_pure, zbi hq]
 by_cases e : i = m
 ·subst e; simp
 ·rw [if_neg e, if_neg (fun h => e h.symm)]; simp [add_none]
theorem RunN.copyK {s bytes : Nat} {z : Value} {o dl dc sl sc : Nat} (ht : P.underlying t = some (.slice e)) (hb : (P.info? e).map (fun i => (i.zero, i.size, i.bytes)) = some (some z, s, bytes)) (h : VarK w g T cells) {a : Addr} {news : List Value}
  {m : Nat} (hm : min sl dl = m) (hl : news.length = m * s) (hnews : ∀ j u, news[j]? = some u → w.cell? (a.add j) = some u) (h1 : ∀ u ∈ news, u.oneCell' = true) (hfit : o + news.length ≤ cells.length)
  (k : ∀ w', VarK w' g T (cells.take o ++ news ++ cells.drop (o + news.length)) → Kp w w' (one_ g) → K (.int .i64 (m : Nat)) w') :
  RunN P (builtin .copy #[t, t] ty cs [.slice (some ⟨g, o, none⟩) dl dc, .slice (some a) sl sc].toArray) w K := by
 obtain ⟨i, hi, z1, rfl, z3⟩ := zbg hb
 have hm : Nat.min sl dl = m := hm
 subst hm
 have hst := run_storeCells_at P g o T news 0 cells.toArray w h (by simpa using hfit) h1
 have hf := run_firstCells_some (P := P) w i.size (Nat.min sl dl) a sl sc news hl hnews
 rw [Nat.add_zero] at hst
 have e1 : (builtin .copy #[t, t] ty cs [.slice (some ⟨g, o, none⟩) dl dc, .slice (some a) sl sc].toArray).run P w = .ok (.value (goInt (Nat.min sl dl))) (w.setRow g (cells.take o ++ news ++ cells.drop (o + news.length)).toArray) := by
  show (do pure (Next.value (← Builtin.copy_ #[t, t] ty #[.slice (some ⟨g, o, none⟩) dl dc, .slice (some a) sl sc])) : Sem Next).run P w = _
  have hst : (storeCells ⟨g, o, none⟩ news).run P w = .ok () (w.setRow g (cells.take o ++ news ++ cells.drop (o + news.length)).toArray) := hst
  simp [Builtin.copy_, run_underlying ht, Builtin.lenOf, sizeOf, typeInfo, hi, hf, hst]
 exact ⟨_, _, e1, k _ (h.setRow _) (zcL _ _ _)⟩
theorem RunN.clearK {s bytes : Nat} {z : Value} {o n c : Nat} (ht : P.underlying t = some (.slice e)) (hb : (P.info? e).map (fun i => (i.zero, i.size, i.bytes)) = some (some z, s, bytes)) (hz : z.cells.size = s) (h1 : ∀ u ∈ z.cells, u.oneCell' = true) (h : VarK w g T cells) (hfit : o + n * s ≤ cells.length)
  (k : ∀ w' zs, zs.length = n * s → VarK w' g T (cells.take o ++ zs ++ cells.drop (o + n * s)) → Kp w w' (one_ g) → K (.tuple #[]) w') :
  RunN P (builtin .clear #[t] ty cs [.slice (some ⟨g, o, none⟩) n c].toArray) w K := by
 obtain ⟨i, hi, z1, rfl, z3⟩ := zbg hb
 have hzl : (Builtin.zeroCells z.cells n).toList.length = n * i.size := by rw [Array.length_toList, size_zeroCells, hz]
 cases n with
 | zero =>
  refine ⟨_, w, ?_, k w [] (by simp) (by simpa using h) (Kp.refl _ _)⟩
  show (do pure (Next.value (← Builtin.clear_ #[t] ty #[.slice (some ⟨g, o, none⟩) 0 c])) : Sem Next).run P w = _
  simp [Builtin.clear_, run_underlying ht]
 | succ n =>
  have hst := run_storeCells_at P g o T (Builtin.zeroCells z.cells (n + 1)).toList 0 cells.toArray w h (by rw [hzl]; simpa using hfit) (fun u hu => by
   have hu : u ∈ Builtin.zeroCells z.cells (n + 1) := by simpa using hu
   unfold Builtin.zeroCells at hu
   obtain ⟨j, hj, rfl⟩ := Array.mem_map.1 hu
   have hj : j < (n + 1) * z.cells.size := by simpa using hj
   have hs : 0 < z.cells.size := by
    rcases Nat.eq_zero_or_pos z.cells.size with h0 | h0
    ·rw [h0] at hj; omega
    ·exact h0
   rw [getElem!_pos z.cells _ (Nat.mod_lt _ hs)]
   exact h1 _ (Array.getElem_mem _))
  simp only [hzl, Nat.add_zero] at hst
  have hst : (storeCells ⟨g, o, none⟩ (Builtin.zeroCells z.cells (n + 1)).toList).run P w = .ok () (w.setRow g (cells.take o ++ (Builtin.zeroCells z.cells (n + 1)).toList ++ cells.drop (o + (n + 1) * i.size)).toArray) := hst
  have e1 : (builtin .clear #[t] ty cs [.slice (some ⟨g, o, none⟩) (n + 1) c].toArray).run P w = .ok (.value (.tuple #[])) (w.setRow g (cells.take o ++ (Builtin.zeroCells z.cells (n + 1)).toList ++ cells.drop (o + (n + 1) * i.size)).toArray) := by
   show (do pure (Next.value (← Builtin.clear_ #[t] ty #[.slice (some ⟨g, o, none⟩) (n + 1) c])) : Sem Next).run P w = _
   have hzv : (zeroValue e).run P w = .ok z w := by simp [zeroValue, typeInfo, hi, z1]
   simp [Builtin.clear_, run_underlying ht, hzv, hst]
  exact ⟨_, _, e1, k _ (Builtin.zeroCells z.cells (n + 1)).toList hzl (h.setRow _) (zcL _ _ _)⟩
end
end Go.Vc
