/- Helper text of this claim: Kit5: lemmas and contracts that the proved statement rests on; no conditions of its own. -/
import Derived.Test.YtdghfagipheabaaGreatDoorKit4
namespace Go.Pw
open Go
set_option linter.unusedVariables false
set_option linter.unusedSectionVars false
/-! Regions that draw, with held loads and with makers whose order is open: each order of the makers is walked. -/
/-- An operation that makes: it yields a value, and calls nothing. -/
def plainB (o : Oper) : Bool :=
  match o.op with
  | .alloc _ | .box .. | .buildSlice .. | .makeSlice .. | .load .. => true
  | .call { callee := .builtin .append, .. } => true
  | _ => false
theorem plain_value {P : Program} {o : Oper} (h : plainB o = true) {ρ : Operand → Value} {w w' : World} {n : Next} (hr : (execOp ρ o).run P w = .ok n w') : ∃ v, n = .value v := by
  have key : ∀ (s : Sem Value), (do pure (Next.value (← s)) : Sem Next).run P w = .ok n w' → ∃ v, n = .value v := fun s h => by
    obtain ⟨v, w1, _, h2⟩ := run_bind_ok h
    simp only [Sem.run_pure, Result.ok.injEq] at h2
    exact ⟨v, h2.1.symm⟩
  obtain ⟨dst, op, type, pos, after, guard⟩ := o
  cases op <;> simp only [plainB, Bool.false_eq_true] at h
  case call c =>
    obtain ⟨callee, args, ats⟩ := c
    cases callee with
    | value f => cases h
    | invoke r m => cases h
    | builtin b => cases b <;> first | exact key _ hr | cases h
  all_goals exact key _ hr

section
variable {P : Program} {ops : Array Oper} {S : World → Prop} {hs : Option Tmp → Bool}
def other (P : Program) (hs : Option Tmp → Bool) (ops : Array Oper) (i : Nat) : Bool := match ops[i]? with | some o => !floats P hs o | none => false

theorem T1h_conj {ι : Type} {E : ι → Prop} {K : ι → Act → World → Prop} {o : Oper} {a : Act} {w : World} (hw0 : S w) (hp : floats P hs o = true ∨ plainB o = true) (i0 : ι) (h0 : E i0)
    (h : ∀ i, E i → T1h P S hs ops o (K i) a w) : T1h P S hs ops o (fun a w => ∀ i, E i → K i a w) a w := by
  by_cases hfl : floats P hs o = true
  · obtain ⟨v, hy, _⟩ := yieldsS_of_t1 hw0 hfl (h i0 h0)
    refine hy.t1 hw0 fun i hi => ?_
    obtain ⟨v', hy', hk⟩ := yieldsS_of_t1 hw0 hfl (h i hi)
    obtain rfl := hy'.uniq hw0 hy
    exact hk
  · have hp : plainB o = true := hp.resolve_left hfl
    unfold T1h at h ⊢
    split
    · rename_i hw
      simp only [if_pos hw] at h
      refine ⟨fun e => (hfl e).elim, ?_⟩
      have h := fun i hi => (h i hi).2
      unfold Oper.wp at h ⊢
      cases hr : (execOp a.eval o).run P w with
      | ok n w' =>
        obtain ⟨v, rfl⟩ := plain_value hp hr
        simp only [hr] at h
        exact ⟨(h i0 h0).1, fun i hi => (h i hi).2⟩
      | halt x w' =>
        have := h i0 h0
        rw [hr] at this
        cases x <;> simp only [Oper.upon] at this <;> exact this.elim
    · rename_i hw
      simp only [if_neg hw] at h
      exact h
theorem TIh_conj {ι : Type} {E : ι → Prop} {K : ι → Act → World → Prop} {i : Nat} {o : Oper} (ho : ops[i]? = some o) {a : Act} {w : World} (hw0 : S w) (hp : floats P hs o = true ∨ plainB o = true) (i0 : ι) (h0 : E i0)
    (h : ∀ j, E j → TIh P S hs ops i (K j) a w) : TIh P S hs ops i (fun a w => ∀ j, E j → K j a w) a w := by
  unfold TIh at h ⊢
  simp only [ho] at h ⊢
  exact T1h_conj hw0 hp i0 h0 h

structure OkM (P : Program) (hs : Option Tmp → Bool) (ops : Array Oper) (m : Array Nat) : Prop where
  sel : ∀ (i : Nat) (o : Oper), ops[i]? = some o → NoSel o
  back : ∀ (i : Nat) (o : Oper), ops[i]? = some o → ∀ e ∈ o.after, Region.binds .any e = true → e.on < i
  dep : ∀ (i : Nat) (o : Oper), ops[i]? = some o → ∀ j, j < i → (m.getD i 0).testBit j = true → ∃ e ∈ o.after, Region.binds .any e = true ∧ (e.on = j ∨ (j < e.on ∧ (m.getD e.on 0).testBit j = true))
  low : ∀ i j, i < ops.size → i ≤ j → (m.getD i 0).testBit j = false
  comm : ∀ (i : Nat) (o : Oper), ops[i]? = some o → ∀ (j : Nat) (p : Oper), ops[j]? = some p → j ≠ i → (m.getD i 0).testBit j = false → (m.getD j 0).testBit i = false → (other P hs ops i = false ∨ other P hs ops j = false) → commH P hs ops p o = true
  plain : ∀ (i : Nat) (o : Oper), ops[i]? = some o → floats P hs o = true ∨ plainB o = true

theorem dep_listedM {m : Array Nat} {listed : Array Bool} (ok : OkM P hs ops m) (hcl : Closed ops listed) : ∀ (n i : Nat) (o : Oper), i ≤ n → ops[i]? = some o →
    (∀ e ∈ o.after, Region.binds .any e = true → listed.getD e.on false = true) → ∀ j, j < i → (m.getD i 0).testBit j = true → listed.getD j false = true := by
  intro n
  induction n with
  | zero => intro i o hi _ _ j hj; omega
  | succ n ih =>
    intro i o hi ho hdeps j hj hm
    obtain ⟨e, he, hb, hor⟩ := ok.dep i o ho j hj hm
    have hlt := ok.back i o ho e he hb
    have hl := hdeps e he hb
    rcases hor with rfl | hor
    · exact hl
    · obtain ⟨o', ho'⟩ : ∃ o', ops[e.on]? = some o' := by
        obtain ⟨hi', _⟩ := Array.getElem?_eq_some_iff.1 ho
        exact ⟨ops[e.on], Array.getElem?_eq_getElem (by omega)⟩
      exact ih e.on o' (by omega) ho' (hcl e.on o' ho' hl) j hor.1 hor.2
theorem bubbleM {Q : Act → World → Prop} {m : Array Nat} (ok : OkM P hs ops m) {i : Nat} {o : Oper} (ho : ops[i]? = some o) : ∀ (pre post : List Nat),
    (∀ j ∈ pre, j ≠ i ∧ (m.getD i 0).testBit j = false ∧ (m.getD j 0).testBit i = false ∧ (other P hs ops i = false ∨ other P hs ops j = false)) → ∀ (a : Act) (w : World), S w → wpIh P S hs ops Q (pre ++ i :: post) a w → TIh P S hs ops i (wpIh P S hs ops Q (pre ++ post)) a w
  | [], post, _, a, w, hw0, h => h
  | j :: pre, post, hp, a, w, hw0, h => by
    have ih := bubbleM (Q := Q) ok ho pre post (fun k hk => hp k (List.mem_cons_of_mem _ hk))
    have h' : TIh P S hs ops j (TIh P S hs ops i (wpIh P S hs ops Q (pre ++ post))) a w := TIh_mono hw0 (fun a w hS => ih a w hS) h
    show TIh P S hs ops i (TIh P S hs ops j (wpIh P S hs ops Q (pre ++ post))) a w
    obtain ⟨hj, hm1, hm2, hoth⟩ := hp j List.mem_cons_self
    unfold TIh at h' ⊢
    simp only [ho] at h' ⊢
    cases hpj : ops[j]? with
    | none => simp only [hpj] at h' ⊢; exact h'
    | some p =>
      simp only [hpj] at h' ⊢
      exact swapH hw0 (ok.sel j p hpj) (ok.sel i o ho) (ok.comm i o ho j p hpj hj hm1 hm2 hoth) h'

/-- A full order of what is not listed. -/
structure GoodL (ops : Array Oper) (m : Array Nat) (listed : Array Bool) (fuel : Nat) (L : List Nat) : Prop where
  nodup : L.Nodup
  mem : ∀ j, j ∈ L ↔ j < ops.size ∧ listed.getD j false = false
  topo : L.Pairwise fun x y => (m.getD x 0).testBit y = false
  len : L.length = fuel
/-- An order of the makers that are not listed. -/
structure ExtL (P : Program) (hs : Option Tmp → Bool) (ops : Array Oper) (m : Array Nat) (listed : Array Bool) (L : List Nat) : Prop where
  nodup : L.Nodup
  mem : ∀ j, j ∈ L ↔ j < ops.size ∧ listed.getD j false = false ∧ other P hs ops j = true
  topo : L.Pairwise fun x y => (m.getD x 0).testBit y = false
theorem ext_some {m : Array Nat} (ok : OkM P hs ops m) (listed : Array Bool) : ∃ L, ExtL P hs ops m listed L := by
  refine ⟨(List.range ops.size).filter fun j => !listed.getD j false && other P hs ops j, List.nodup_range.filter _, fun j => ?_, ?_⟩
  · simp
  · refine (List.Pairwise.filter _ List.pairwise_lt_range).imp_of_mem ?_
    intro x y hx hy hxy
    exact ok.low x y (by have := (List.mem_filter.1 hx).1; simpa using this) (Nat.le_of_lt hxy)

theorem anyOrderM {Q : Exit → Act → World → Prop} {m : Array Nat} (ok : OkM P hs ops m) : ∀ (fuel : Nat) (F : List Nat → List Nat) (listed : Array Bool) (a : Act) (w : World),
    listed.size = ops.size → Closed ops listed → S w →
    (∀ L, ExtL P hs ops m listed L → GoodL ops m listed fuel (F L) ∧ (F L).filter (other P hs ops) = L ∧ wpIh P S hs ops (fun a w => S w → Q .normal a w) (F L) a w) → wpAny P .any ops Q fuel listed a w := by
  intro fuel
  induction fuel with
  | zero =>
    intro F listed a w hsz hcl hw0 h
    obtain ⟨L0, hL0⟩ := ext_some ok listed
    obtain ⟨g, _, h⟩ := h L0 hL0
    have hnil : F L0 = [] := List.eq_nil_of_length_eq_zero g.len
    rw [hnil] at h
    refine ⟨?_, h hw0⟩
    refine List.eq_nil_iff_forall_not_mem.2 fun i hi => ?_
    obtain ⟨h0, o, ho, _⟩ := mem_ready.1 hi
    have hlt : i < ops.size := (Array.getElem?_eq_some_iff.1 ho).1
    have h0' : listed.getD i false = false := by
      have : i < listed.size := by omega
      simp [this] at h0 ⊢; exact h0
    have := (g.mem i).2 ⟨hlt, h0'⟩
    rw [hnil] at this; cases this
  | succ fuel ih =>
    intro F listed a w hsz hcl hw0 h
    obtain ⟨L0, hL0⟩ := ext_some ok listed
    refine ⟨fun hr => ?_, fun i hi => ?_⟩
    · obtain ⟨g, _, _⟩ := h L0 hL0
      -- the least that is not listed is ready
      have hex : ∃ k, k < ops.size ∧ listed.getD k false = false ∧ ∀ j, j < k → ¬ (j < ops.size ∧ listed.getD j false = false) := by
        obtain ⟨x, hx⟩ : ∃ x, x ∈ F L0 := by
          cases hF : F L0 with
          | nil => have := g.len; rw [hF] at this; cases this
          | cons x l => exact ⟨x, List.mem_cons_self⟩
        have hx' := (g.mem x).1 hx
        have : ∀ n x, x ≤ n → x < ops.size ∧ listed.getD x false = false → ∃ k, k < ops.size ∧ listed.getD k false = false ∧ ∀ j, j < k → ¬ (j < ops.size ∧ listed.getD j false = false) := by
          intro n
          induction n with
          | zero => intro x hx hp; exact ⟨x, hp.1, hp.2, fun j hj => by omega⟩
          | succ n ih =>
            intro x hx hp
            by_cases hj : ∃ j, j < x ∧ j < ops.size ∧ listed.getD j false = false
            · obtain ⟨j, h1, h2⟩ := hj; exact ih j (by omega) h2
            · exact ⟨x, hp.1, hp.2, fun j h1 h2 => hj ⟨j, h1, h2⟩⟩
        exact this x x (Nat.le_refl _) hx'
      obtain ⟨k, hk, hkl, hmin⟩ := hex
      have hrdy : k ∈ Region.ready .any ops listed := by
        refine mem_ready.2 ⟨?_, ops[k], Array.getElem?_eq_getElem hk, fun e he hb => ?_⟩
        · have : k < listed.size := by omega
          simp [this] at hkl ⊢; exact hkl
        · have hlt' := ok.back k _ (Array.getElem?_eq_getElem hk) e he hb
          cases hl : listed.getD e.on false with
          | true => rfl
          | false => exact (hmin e.on hlt' ⟨by omega, hl⟩).elim
      rw [hr] at hrdy; cases hrdy
    · obtain ⟨h0, o, ho, hdeps⟩ := mem_ready.1 hi
      have hlt : i < ops.size := (Array.getElem?_eq_some_iff.1 ho).1
      have hil : i < listed.size := by omega
      have h0' : listed.getD i false = false := by simp [hil] at h0 ⊢; exact h0
      have hfree : ∀ j, j < ops.size → listed.getD j false = false → (m.getD i 0).testBit j = false := fun j hj hl => by
        by_cases hji : i ≤ j
        · exact ok.low i j hlt hji
        · cases hm : (m.getD i 0).testBit j with
          | false => rfl
          | true =>
            have := dep_listedM ok hcl i i o (Nat.le_refl _) ho hdeps j (by omega) hm
            rw [hl] at this; cases this
      have hcl' : Closed ops (listed.setIfInBounds i true) := by
        intro k p hk hl e he hb
        by_cases hki : k = i
        · subst hki
          obtain rfl : p = o := Option.some.inj (hk.symm.trans ho)
          exact getD_set_true (hdeps e he hb)
        · rw [getD_set_ne false (fun h => hki h.symm)] at hl
          exact getD_set_true (hcl k p hk hl e he hb)
      have hset : ∀ j, (listed.setIfInBounds i true).getD j false = false ↔ j ≠ i ∧ listed.getD j false = false := fun j => by
        by_cases hji : j = i
        · subst hji; simp [hil]
        · rw [getD_set_ne false (fun h => hji h.symm)]; simp [hji]
      -- one order: i comes first, then the rest
      have step : ∀ L, GoodL ops m listed (fuel + 1) L → (∀ pre post, L = pre ++ i :: post → other P hs ops i = false ∨ ∀ j ∈ pre, other P hs ops j = false) → wpIh P S hs ops (fun a w => S w → Q .normal a w) L a w →
          GoodL ops m (listed.setIfInBounds i true) fuel (L.erase i) ∧ TIh P S hs ops i (wpIh P S hs ops (fun a w => S w → Q .normal a w) (L.erase i)) a w := by
        intro L g hoth hL
        have hin := (g.mem i).2 ⟨hlt, h0'⟩
        obtain ⟨pre, post, rfl⟩ := List.append_of_mem hin
        have hnd := g.nodup
        have hipre : i ∉ pre := fun hp => (List.nodup_append.1 hnd).2.2 i hp i List.mem_cons_self rfl
        have her : (pre ++ i :: post).erase i = pre ++ post := by
          rw [List.erase_append_right _ hipre]; simp
        refine ⟨⟨hnd.erase _, fun j => ?_, g.topo.sublist List.erase_sublist, ?_⟩, ?_⟩
        · rw [hnd.mem_erase_iff, g.mem, hset]
          exact ⟨fun ⟨a, b, c⟩ => ⟨b, a, c⟩, fun ⟨b, a, c⟩ => ⟨a, b, c⟩⟩
        · rw [List.length_erase_of_mem hin, g.len]; rfl
        · rw [her]
          refine bubbleM ok ho pre post (fun j hj => ?_) a w hw0 hL
          have hjL := (g.mem j).1 (List.mem_append_left _ hj)
          refine ⟨fun e => hipre (e ▸ hj), hfree j hjL.1 hjL.2, (List.pairwise_append.1 g.topo).2.2 j hj i List.mem_cons_self, ?_⟩
          rcases hoth pre post rfl with h | h
          · exact .inl h
          · exact .inr (h j hj)
      cases hoi : other P hs ops i with
      | false =>
        have hext : ∀ L, ExtL P hs ops m (listed.setIfInBounds i true) L → ExtL P hs ops m listed L := fun L e =>
          ⟨e.nodup, (fun j => by
            rw [e.mem, hset]
            constructor
            · rintro ⟨a, ⟨b, c⟩, d⟩; exact ⟨a, c, d⟩
            · rintro ⟨a, c, d⟩
              refine ⟨a, ⟨fun e => ?_, c⟩, d⟩
              rw [e, hoi] at d; cases d), e.topo⟩
        obtain ⟨L1, hL1⟩ := ext_some ok (listed.setIfInBounds i true)
        have hall := fun L (e : ExtL P hs ops m (listed.setIfInBounds i true) L) => step (F L) (h L (hext L e)).1 (fun _ _ _ => .inl hoi) (h L (hext L e)).2.2
        have hc := TIh_conj ho hw0 (ok.plain i o ho) L1 hL1 (fun L e => (hall L e).2)
        refine wpOp_mono (fun a w hK => ?_) (wpOp_of_TIh hc hw0)
        refine ih (fun L => (F L).erase i) _ a w (by simp [hsz]) hcl' hK.1 fun L e => ⟨(hall L e).1, ?_, hK.2 L e⟩
        have h1 := (h L (hext L e)).1
        have h2 := (h L (hext L e)).2.1
        obtain ⟨pre, post, hsp⟩ := List.append_of_mem ((h1.mem i).2 ⟨hlt, h0'⟩)
        have hipre : i ∉ pre := fun hp => by
          have := h1.nodup; rw [hsp] at this
          exact (List.nodup_append.1 this).2.2 i hp i List.mem_cons_self rfl
        show ((F L).erase i).filter _ = L
        rw [hsp] at h2 ⊢
        rw [List.erase_append_right _ hipre, List.erase_cons_head]
        rw [List.filter_append, List.filter_cons_of_neg (by simp [hoi])] at h2
        rw [List.filter_append]; exact h2
      | true =>
        have hext : ∀ L, ExtL P hs ops m (listed.setIfInBounds i true) L → ExtL P hs ops m listed (i :: L) := fun L e => by
          have hni : i ∉ L := fun hi => by have := (e.mem i).1 hi; rw [hset] at this; exact this.2.1.1 rfl
          refine ⟨List.nodup_cons.2 ⟨hni, e.nodup⟩, fun j => ?_, List.pairwise_cons.2 ⟨fun y hy => ?_, e.topo⟩⟩
          · rw [List.mem_cons, e.mem, hset]
            constructor
            · rintro (rfl | ⟨a, ⟨b, c⟩, d⟩)
              · exact ⟨hlt, h0', hoi⟩
              · exact ⟨a, c, d⟩
            · rintro ⟨a, c, d⟩
              by_cases hji : j = i
              · exact .inl hji
              · exact .inr ⟨a, ⟨hji, c⟩, d⟩
          · have := (e.mem y).1 hy
            rw [hset] at this
            exact hfree y this.1 this.2.1.2
        have hpre : ∀ L, ExtL P hs ops m (listed.setIfInBounds i true) L → ∀ pre post, F (i :: L) = pre ++ i :: post → (∀ j ∈ pre, other P hs ops j = false) ∧ i ∉ pre ∧ post.filter (other P hs ops) = L := fun L e pre post hsp => by
          have h1 := (h _ (hext L e)).1
          have h2 := (h _ (hext L e)).2.1
          have hnd := h1.nodup
          rw [hsp] at hnd h2
          have hipre : i ∉ pre := fun hp => (List.nodup_append.1 hnd).2.2 i hp i List.mem_cons_self rfl
          rw [List.filter_append, List.filter_cons_of_pos hoi] at h2
          cases hf : pre.filter (other P hs ops) with
          | nil =>
            rw [hf] at h2
            refine ⟨fun j hj => ?_, hipre, by simpa using h2⟩
            have := List.filter_eq_nil_iff.1 hf j hj
            simpa using this
          | cons x r =>
            rw [hf] at h2
            have hx : x = i := by simpa using (List.cons.inj h2).1
            have : x ∈ pre := (List.mem_filter.1 (by rw [hf]; exact List.mem_cons_self)).1
            exact (hipre (hx ▸ this)).elim
        obtain ⟨L1, hL1⟩ := ext_some ok (listed.setIfInBounds i true)
        have hall := fun L (e : ExtL P hs ops m (listed.setIfInBounds i true) L) => step (F (i :: L)) (h _ (hext L e)).1 (fun pre post hsp => .inr (hpre L e pre post hsp).1) (h _ (hext L e)).2.2
        have hc := TIh_conj ho hw0 (ok.plain i o ho) L1 hL1 (fun L e => (hall L e).2)
        refine wpOp_mono (fun a w hK => ?_) (wpOp_of_TIh hc hw0)
        refine ih (fun L => (F (i :: L)).erase i) _ a w (by simp [hsz]) hcl' hK.1 fun L e => ⟨(hall L e).1, ?_, hK.2 L e⟩
        obtain ⟨pre, post, hsp⟩ := List.append_of_mem (((h _ (hext L e)).1.mem i).2 ⟨hlt, h0'⟩)
        obtain ⟨hp1, hp2, hp3⟩ := hpre L e pre post hsp
        show ((F (i :: L)).erase i).filter _ = L
        rw [hsp, List.erase_append_right _ hp2, List.erase_cons_head, List.filter_append, hp3]
        rw [List.filter_eq_nil_iff.2 (fun j hj => by simp [hp1 j hj])]; rfl

/-- All orders of R that m allows. -/
def exts (m : Array Nat) : Nat → List Nat → List (List Nat)
  | 0, _ => [[]]
  | k + 1, R => match R with
    | [] => [[]]
    | R => R.flatMap fun i => if R.all (fun j => j == i || !(m.getD i 0).testBit j) then (exts m k (R.erase i)).map (i :: ·) else []
theorem mem_exts {m : Array Nat} : ∀ (L : List Nat) (k : Nat) (R : List Nat), L.length ≤ k → L.Nodup → R.Nodup → (∀ j, j ∈ L ↔ j ∈ R) → (L.Pairwise fun x y => (m.getD x 0).testBit y = false) → L ∈ exts m k R
  | [], 0, R, _, _, _, h, _ => by simp [exts]
  | [], k + 1, R, _, _, _, h, _ => by
    cases R with
    | nil => simp [exts]
    | cons x R => have := (h x).2 List.mem_cons_self; cases this
  | i :: L, 0, R, hk, _, _, _, _ => by simp at hk
  | i :: L, k + 1, R, hk, hn, hr, h, ht => by
    have hi : i ∈ R := (h i).1 List.mem_cons_self
    obtain ⟨hni, hnL⟩ := List.nodup_cons.1 hn
    obtain ⟨ht1, ht2⟩ := List.pairwise_cons.1 ht
    cases R with
    | nil => cases hi
    | cons x R =>
      simp only [exts, List.mem_flatMap]
      refine ⟨i, hi, ?_⟩
      rw [if_pos]
      · refine List.mem_map.2 ⟨L, mem_exts L k _ (by simpa using hk) hnL (hr.erase _) (fun j => ?_) ht2, rfl⟩
        rw [hr.mem_erase_iff, ← h, List.mem_cons]
        exact ⟨fun hj => ⟨fun e => hni (e ▸ hj), .inr hj⟩, fun ⟨a, b⟩ => b.resolve_left a⟩
      · rw [List.all_eq_true]
        intro j hj
        rcases List.mem_cons.1 ((h j).2 hj) with rfl | hj'
        · simp
        · rw [ht1 j hj']; simp
theorem len_le : ∀ (L R : List Nat), L.Nodup → (∀ j, j ∈ L → j ∈ R) → L.length ≤ R.length
  | [], R, _, _ => Nat.zero_le _
  | i :: L, R, hn, h => by
    obtain ⟨hni, hnL⟩ := List.nodup_cons.1 hn
    have hi := h i List.mem_cons_self
    have := len_le L (R.erase i) hnL fun j hj => (List.mem_erase_of_ne (show j ≠ i from fun e => hni (e ▸ hj))).2 (h j (List.mem_cons_of_mem _ hj))
    rw [List.length_erase_of_mem hi] at this
    have := List.length_pos_of_mem hi
    simp only [List.length_cons]; omega
def topoB (m : Array Nat) : List Nat → Bool
  | [] => true
  | x :: l => l.all (fun y => !(m.getD x 0).testBit y) && topoB m l
theorem topo_of {m : Array Nat} : ∀ {L : List Nat}, topoB m L = true → L.Pairwise fun x y => (m.getD x 0).testBit y = false
  | [], _ => .nil
  | x :: l, h => by
    simp only [topoB, Bool.and_eq_true, List.all_eq_true, Bool.not_eq_true'] at h
    exact List.pairwise_cons.2 ⟨h.1, topo_of h.2⟩
/-- THE CHECK: every pair that the edges leave open commutes, but for pairs of makers; each order of the makers is in Ls. -/
def textM (P : Program) (hs : Option Tmp → Bool) (ops : Array Oper) (Ls : List (List Nat)) : Bool :=
  let m := Region.before ops
  let ot := other P hs ops
  ((List.range ops.size).all fun i =>
    let o := ops.getD i default
    selB o && o.after.all (fun e => !Region.binds .any e || decide (e.on < i)) && decide ((m.getD i 0) < 2 ^ i) && (floats P hs o || plainB o) &&
    (List.range i).all fun j =>
      if (m.getD i 0).testBit j then o.after.any (fun e => Region.binds .any e && (e.on == j || (decide (j < e.on) && (m.getD e.on 0).testBit j)))
      else (ot i && ot j) || (commH P hs ops (ops.getD j default) o && commH P hs ops o (ops.getD j default))) &&
  Ls.all (fun L => decide L.Nodup && decide (L.length = ops.size) && (List.range ops.size).all (fun i => L.contains i) && L.all (fun i => decide (i < ops.size)) && topoB m L) &&
  (exts m ops.size ((List.range ops.size).filter ot)).all (fun p => Ls.any fun L => L.filter ot == p)
theorem okM_of {Ls : List (List Nat)} (h : textM P hs ops Ls = true) : OkM P hs ops (Region.before ops) := by
  unfold textM at h
  simp only [Bool.and_eq_true] at h
  have h := h.1.1
  simp only [List.all_eq_true, List.mem_range, Bool.and_eq_true] at h
  have lt : ∀ (i : Nat) (o : Oper), ops[i]? = some o → i < ops.size ∧ ops.getD i default = o := fun i o ho => by
    obtain ⟨hi, he⟩ := Array.getElem?_eq_some_iff.1 ho
    exact ⟨hi, by simp [hi, he]⟩
  refine ⟨fun i o ho => ?_, fun i o ho e he hb => ?_, fun i o ho j hj hm => ?_, fun i j hi hij => ?_, fun i o ho j p hp hne hm1 hm2 hot => ?_, fun i o ho => ?_⟩
  · obtain ⟨hi, he⟩ := lt i o ho
    have := (h i hi).1.1.1.1
    rw [he] at this; exact noSel_of this
  · obtain ⟨hi, he'⟩ := lt i o ho
    have := (h i hi).1.1.1.2
    rw [he'] at this
    have := (Array.all_eq_true_iff_forall_mem.1 this) e he
    simpa [hb] using this
  · obtain ⟨hi, he'⟩ := lt i o ho
    have := (h i hi).2 j hj
    rw [he', if_pos hm] at this
    obtain ⟨e, he, hb⟩ := Array.any_eq_true'.1 this
    simp only [Bool.and_eq_true, Bool.or_eq_true, beq_iff_eq, decide_eq_true_eq] at hb
    exact ⟨e, he, hb.1, hb.2⟩
  · have := (h i hi).1.1.2
    simp only [decide_eq_true_eq] at this
    exact Nat.testBit_lt_two_pow (Nat.lt_of_lt_of_le this (Nat.pow_le_pow_right (by omega) hij))
  · obtain ⟨hi, he'⟩ := lt i o ho
    obtain ⟨hj, hp'⟩ := lt j p hp
    rcases Nat.lt_or_gt_of_ne hne with hlt | hlt
    · have := (h i hi).2 j hlt
      rw [he', hp', hm1] at this
      simp only [Bool.false_eq_true, if_false, Bool.or_eq_true, Bool.and_eq_true] at this
      rcases this with ⟨a, b⟩ | ⟨a, b⟩
      · rcases hot with e | e <;> simp_all
      · exact a
    · have := (h j hj).2 i hlt
      rw [he', hp', hm2] at this
      simp only [Bool.false_eq_true, if_false, Bool.or_eq_true, Bool.and_eq_true] at this
      rcases this with ⟨a, b⟩ | ⟨a, b⟩
      · rcases hot with e | e <;> simp_all
      · exact b
  · obtain ⟨hi, he⟩ := lt i o ho
    have := (h i hi).1.2
    rw [he] at this
    simpa using this
theorem wpTh_map {Q : Act → World → Prop} : ∀ (L : List Nat), (∀ i ∈ L, i < ops.size) → wpIh P S hs ops Q L = wpTh P S hs ops Q (L.map fun i => ops.getD i default)
  | [], _ => rfl
  | i :: L, h => by
    have hi := h i List.mem_cons_self
    have ih := wpTh_map (Q := Q) L (fun j hj => h j (List.mem_cons_of_mem _ hj))
    have h0 : ops[i]? = some (ops.getD i default) := by simp [hi]
    funext a w
    simp only [wpIh, TIh, h0, List.map_cons, wpTh, ih]
/-- A REGION THAT DRAWS ITS ORDER, WALKED ONCE FOR EACH ORDER OF ITS MAKERS. -/
theorem wp_region_orders {Q : Exit → Act → World → Prop} {id : Nat} {l : List Oper} {a : Act} {w : World} (hm : P.follows .mixedOrders = true) (hs : Option Tmp → Bool) (S : World → Prop) (hw0 : S w.drew) (Ls : List (List Nat)) (hB : textM P hs l.toArray Ls = true)
    (h : ∀ L ∈ Ls, wpTh P S hs l.toArray (fun a w => S w → Q .normal a w) (L.map fun i => l.toArray.getD i default) a w.drew) : (Code.region id l.toArray true).wp P Q a w := by
  refine wp_region_any hm ?_
  have ok := okM_of hB
  have hz : ∀ j, (Array.replicate l.toArray.size false).getD j false = false := fun j => by
    simp only [Array.getD_eq_getD_getElem?, Array.getElem?_replicate]; split <;> rfl
  have hB' := hB
  unfold textM at hB'
  simp only [Bool.and_eq_true, List.all_eq_true, List.any_eq_true, decide_eq_true_eq, List.mem_range, List.contains_iff_mem] at hB'
  obtain ⟨⟨_, hL⟩, hcov⟩ := hB'
  refine anyOrderM (S := S) (hs := hs) ok _ (fun π => (Ls.find? fun L => L.filter (other P hs l.toArray) == π).getD []) _ a _ (by simp) ?_ hw0 ?_
  · intro i o _ hl; rw [hz] at hl; cases hl
  · intro L e
    have hin : L ∈ exts (Region.before l.toArray) l.toArray.size ((List.range l.toArray.size).filter (other P hs l.toArray)) := by
      refine mem_exts L _ _ ?_ e.nodup (List.nodup_range.filter _) (fun j => ?_) e.topo
      · have hsub : L ⊆ List.range l.toArray.size := fun j hj => by have := (e.mem j).1 hj; simpa using this.1
        have := len_le L _ e.nodup hsub
        simpa using this
      · rw [e.mem, hz]; simp
    obtain ⟨L', hL', hf⟩ := hcov L hin
    have hsome : (Ls.find? fun L' => L'.filter (other P hs l.toArray) == L).isSome := List.find?_isSome.2 ⟨L', hL', hf⟩
    obtain ⟨L2, h2⟩ := Option.isSome_iff_exists.1 hsome
    have hm2 := List.mem_of_find?_eq_some h2
    have hp2 := List.find?_some h2
    obtain ⟨⟨⟨⟨g1, g2⟩, g3⟩, g4⟩, g5⟩ := hL L2 hm2
    rw [h2, Option.getD_some]
    refine ⟨⟨g1, fun j => ⟨fun hj => ⟨g4 j hj, hz j⟩, fun hj => g3 j hj.1⟩, topo_of g5, g2⟩, by simpa using hp2, ?_⟩
    rw [wpTh_map L2 g4]
    exact h L2 hm2
end
end Go.Pw
