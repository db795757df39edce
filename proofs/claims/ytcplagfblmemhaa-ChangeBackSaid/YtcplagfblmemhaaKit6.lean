/- Helper text of this claim: Kit6: lemmas and contracts that the proved statement rests on; no conditions of its own. -/
import Derived.Test.YtcplagfblmemhaaGWc5
namespace Go.Pw
set_option linter.unusedVariables false
open Go
set_option linter.unusedVariables false
set_option linter.unusedSectionVars false
/-! A region that draws, with held loads, whose last operation stands behind all others: that one need not keep S. -/
section
variable {P : Program} {ops : Array Oper} {S : World → Prop} {hs : Option Tmp → Bool}
theorem anyOrderZ {Q : Exit → Act → World → Prop} {m : Array Nat} (ok : TextOkH P hs ops m) {z : Nat} (hz : z + 1 = ops.size) (hall : ∀ j, j < z → (m.getD z 0).testBit j = true) : ∀ (fuel : Nat) (L : List Nat) (listed : Array Bool) (a : Act) (w : World),
    L.length = fuel → listed.size = ops.size → Closed ops listed → L.Pairwise (· < ·) → (∀ j ∈ L, j < z) → (∀ j, j < ops.size → (listed.getD j false = false ↔ j ∈ L ∨ j = z)) →
    S w → wpIh P S hs ops (fun a w => S w → TI P ops z (fun a w => Q .normal a w) a w) L a w → wpAnyX P .any ops (Q .normal) (fuel + 1) listed a w := by
  intro fuel
  induction fuel with
  | zero =>
    intro L listed a w hlen hsz hcl hpw hlt' hmem hw0 h
    obtain rfl : L = [] := List.eq_nil_of_length_eq_zero hlen
    have hzl : listed.getD z false = false := (hmem z (by omega)).2 (.inr rfl)
    have hrd : ∀ i, i ∈ Region.ready .any ops listed ↔ i = z := by
      intro i
      constructor
      · intro hi
        obtain ⟨h0, o, ho, _⟩ := mem_ready.1 hi
        have hlt : i < ops.size := (Array.getElem?_eq_some_iff.1 ho).1
        have h0' : listed.getD i false = false := by
          have : i < listed.size := by omega
          simp [this] at h0 ⊢; exact h0
        rcases (hmem i hlt).1 h0' with h | h
        · cases h
        · exact h
      · rintro rfl
        refine mem_ready.2 ⟨?_, ops[i]'(by omega), Array.getElem?_eq_getElem (by omega), fun e he hb => ?_⟩
        · have : i < listed.size := by omega
          simp [this] at hzl ⊢; exact hzl
        · have hlt' := ok.back i _ (Array.getElem?_eq_getElem (by omega)) e he hb
          cases hl : listed.getD e.on false with
          | true => rfl
          | false =>
            rcases (hmem e.on (by omega)).1 hl with h | h
            · cases h
            · omega
    refine ⟨fun hr => ?_, fun i hi => ?_⟩
    · have := (hrd z).2 rfl
      rw [hr] at this; cases this
    · obtain rfl := (hrd i).1 hi
      refine wpOp_of_TI (TI_mono (fun a w h => ?_) (h hw0))
      refine ⟨?_, h⟩
      refine List.eq_nil_iff_forall_not_mem.2 fun j hj => ?_
      obtain ⟨h0, o, ho, _⟩ := mem_ready.1 hj
      have hlt : j < ops.size := (Array.getElem?_eq_some_iff.1 ho).1
      by_cases hji : j = i
      · subst hji
        have : j < listed.size := by omega
        simp [this] at h0
      · have h0' : listed.getD j false = false := by
          have h1 : j < listed.size := by omega
          have h2 : (listed.setIfInBounds i true).getD j false = false := by
            simp [h1] at h0 ⊢; exact h0
          rwa [getD_set_ne false (fun h => hji h.symm)] at h2
        rcases (hmem j hlt).1 h0' with h | h
        · cases h
        · exact hji h
  | succ fuel ih =>
    intro L listed a w hlen hsz hcl hpw hlt' hmem hw0 h
    refine ⟨fun hr => ?_, fun i hi => ?_⟩
    · cases L with
      | nil => cases hlen
      | cons i L =>
        exfalso
        have hiz := hlt' i List.mem_cons_self
        have h0 : listed.getD i false = false := (hmem i (by omega)).2 (.inl List.mem_cons_self)
        have hrdy : i ∈ Region.ready .any ops listed := by
          refine mem_ready.2 ⟨?_, ops[i]'(by omega), Array.getElem?_eq_getElem (by omega), fun e he hb => ?_⟩
          · have : i < listed.size := by omega
            simp [this] at h0 ⊢; exact h0
          · have hlt2 := ok.back i _ (Array.getElem?_eq_getElem (by omega)) e he hb
            cases hl : listed.getD e.on false with
            | true => rfl
            | false =>
              rcases (hmem e.on (by omega)).1 hl with hin | hin
              · rcases List.mem_cons.1 hin with heq | hin
                · omega
                · have := (List.pairwise_cons.1 hpw).1 _ hin; omega
              · omega
        rw [hr] at hrdy; cases hrdy
    · obtain ⟨h0, o, ho, hdeps⟩ := mem_ready.1 hi
      have hlt : i < ops.size := (Array.getElem?_eq_some_iff.1 ho).1
      have hil : i < listed.size := by omega
      have h0' : listed.getD i false = false := by simp [hil] at h0 ⊢; exact h0
      have hin : i ∈ L := by
        rcases (hmem i hlt).1 h0' with h | h
        · exact h
        · exfalso
          subst h
          obtain ⟨j, L', rfl⟩ := List.exists_cons_of_ne_nil (l := L) (by rintro rfl; simp at hlen)
          have hjz := hlt' j List.mem_cons_self
          have := dep_listedH ok hcl i i o (Nat.le_refl _) ho hdeps j hjz (hall j hjz)
          rw [(hmem j (by omega)).2 (.inl List.mem_cons_self)] at this; cases this
      obtain ⟨pre, post, rfl⟩ := List.append_of_mem hin
      have hpre : ∀ j ∈ pre, j < i := fun j hj => (List.pairwise_append.1 hpw).2.2 j hj i List.mem_cons_self
      have hiz : i < z := hlt' i hin
      refine wpOpX_mono (fun a w h => ?_) (wpOp_of_TIh (bubbleH ok ho pre post (fun j hj => ⟨hpre j hj, ?_⟩) a w hw0 h) hw0)
      · refine ih (pre ++ post) _ a w (by simp at hlen ⊢; omega) (by simp [hsz]) ?_ ?_ ?_ ?_ h.1 h.2
        · intro k p hk hl e he hb
          by_cases hki : k = i
          · subst hki
            obtain rfl : p = o := Option.some.inj (hk.symm.trans ho)
            exact getD_set_true (hdeps e he hb)
          · rw [getD_set_ne false (fun h => hki h.symm)] at hl
            exact getD_set_true (hcl k p hk hl e he hb)
        · exact hpw.sublist (List.Sublist.append_left (List.sublist_cons_self _ _) _)
        · intro j hj
          rcases List.mem_append.1 hj with hj | hj
          · exact hlt' j (List.mem_append_left _ hj)
          · exact hlt' j (List.mem_append_right _ (List.mem_cons_of_mem _ hj))
        · intro j hjs
          have hne : j ∈ pre ++ post → j ≠ i := fun hj e => by
            subst e
            rcases List.mem_append.1 hj with hj | hj
            · have := hpre _ hj; omega
            · have := (List.pairwise_cons.1 (List.pairwise_append.1 hpw).2.1).1 _ hj; omega
          constructor
          · intro k2
            have hji : j ≠ i := fun e => by subst e; simp [hil] at k2
            rw [getD_set_ne false (fun h => hji h.symm)] at k2
            rcases (hmem j hjs).1 k2 with hj | hj
            · left
              rcases List.mem_append.1 hj with hj | hj
              · exact List.mem_append_left _ hj
              · rcases List.mem_cons.1 hj with rfl | hj
                · exact absurd rfl hji
                · exact List.mem_append_right _ hj
            · exact .inr hj
          · intro hj
            have hji : j ≠ i := by
              rcases hj with hj | hj
              · exact hne hj
              · omega
            rw [getD_set_ne false (fun h => hji h.symm)]
            refine (hmem j hjs).2 ?_
            rcases hj with hj | hj
            · left
              rcases List.mem_append.1 hj with hj | hj
              · exact List.mem_append_left _ hj
              · exact List.mem_append_right _ (List.mem_cons_of_mem _ hj)
            · exact .inr hj
      · cases hm : (m.getD i 0).testBit j with
        | false => rfl
        | true =>
          have hl := dep_listedH ok hcl i i o (Nat.le_refl _) ho hdeps j (hpre j hj) hm
          have := (hmem j (by have := hpre j hj; omega)).2 (.inl (List.mem_append_left _ hj))
          rw [hl] at this; cases this
theorem wpTh_eqZ {Q : Act → World → Prop} (l : List Oper) : ∀ k, (∀ j, j < l.length → l[j]? = ops[k + j]?) → wpIh P S hs ops Q (List.range' k l.length) = wpTh P S hs ops Q l := by
  induction l with
  | nil => intro k _; rfl
  | cons o l ih =>
    intro k h
    have h0 : ops[k]? = some o := by simpa using (h 0 (by simp)).symm
    have ih' := ih (k + 1) (fun j hj => by have := h (j + 1) (by simp; omega); simpa [Nat.add_assoc, Nat.add_comm 1 j] using this)
    funext a w
    simp only [List.length_cons, List.range'_succ, wpIh, TIh, h0, wpTh, ih']
/-- The last operation stands behind all others. -/
def lastB (ops : Array Oper) : Bool := (List.range (ops.size - 1)).all fun j => ((Region.before ops).getD (ops.size - 1) 0).testBit j
theorem wp_region_heldLast {Q : Exit → Act → World → Prop} {id : Nat} {pre : List Oper} {o : Oper} {a : Act} {w : World} (hm : P.follows .mixedOrders = true) (hs : Option Tmp → Bool) (S : World → Prop) (hw0 : S w.drew)
    (hB : textH P hs (pre ++ [o]).toArray = true) (hL : lastB (pre ++ [o]).toArray = true)
    (h : wpTh P S hs (pre ++ [o]).toArray (fun a w => S w → T1 P (pre ++ [o]).toArray o (fun a w => Q .normal a w) a w) pre a w.drew) : (Code.region id (pre ++ [o]).toArray true).wpX P Q a w := by
  refine wpX_region_any hm ?_
  have ok := textOkH_of hB
  have hz : ∀ j, (Array.replicate (pre ++ [o]).toArray.size false).getD j false = false := fun j => by
    simp only [Array.getD_eq_getD_getElem?, Array.getElem?_replicate]; split <;> rfl
  have hsz : (pre ++ [o]).toArray.size = pre.length + 1 := by simp
  have hget : (pre ++ [o]).toArray[pre.length]? = some o := by simp
  have key := anyOrderZ (S := S) (Q := Q) ok (z := pre.length) hsz.symm (fun j hj => by
    unfold lastB at hL
    rw [hsz] at hL
    simpa using List.all_eq_true.1 hL j (by simpa using hj)) pre.length (List.range pre.length) (Array.replicate (pre ++ [o]).toArray.size false) a w.drew (by simp) (by simp) ?_ ?_ ?_ ?_ hw0 ?_
  · rw [hsz] at key ⊢; exact key
  · intro i o _ hl; rw [hz] at hl; cases hl
  · exact List.pairwise_lt_range
  · intro j hj; simpa using hj
  · intro j hj
    rw [hz, hsz] at *
    simp
    omega
  · have e := wpTh_eqZ (P := P) (S := S) (hs := hs) (ops := (pre ++ [o]).toArray) (Q := fun a w => S w → TI P (pre ++ [o]).toArray pre.length (fun a w => Q .normal a w) a w) pre 0 (fun j hj => by rw [Nat.zero_add]; simp [List.getElem?_append_left hj])
    rw [show List.range pre.length = List.range' 0 pre.length from by simp [List.range_eq_range'], e]
    have e2 : (fun a w => S w → TI P (pre ++ [o]).toArray pre.length (fun a w => Q .normal a w) a w) = (fun a w => S w → T1 P (pre ++ [o]).toArray o (fun a w => Q .normal a w) a w) := by
      funext a w
      unfold TI
      simp only [hget]
    rw [e2]
    exact h
end
end Go.Pw
namespace Go.Vc
set_option linter.unusedVariables false
open Go Go.Pw
/-- A region that draws, with held loads: S holds from here to its last operation, which stands behind all others. -/
theorem Draw.heldLast {P : Program} {n : Nat} {K : Exit → Fr → World → Prop} {id : Nat} {ops : Array Oper} {t : List It} {f : Fr} {w : World} (S : World → Prop) (hs : Option Tmp → Bool) (pre : List Oper) (o : Oper) (he : ops = (pre ++ [o]).toArray) (hB : textH P hs ops = true) (hL : lastB ops = true) (hw : S w.drew)
    (h : Sat P n K .normal (.opsH S hs ops.toList pre :: .ops ops.toList [o] true :: t) f w.drew) : Draw P n K id ops t f w :=
  ⟨fun hm hf => by
    subst he
    refine wp_region_heldLast hm hs S hw hB hL ?_
    have h1 := h.h hf
    have h1 : S w.drew → wpTh P S hs (pre ++ [o]).toArray (fun a w => S w → Lift n (after P n (.ops (pre ++ [o]).toArray.toList [o] true :: t) K .normal) a w) pre (act n f) w.drew := h1
    have mono : ∀ (l : List Oper) (Q Q' : Act → World → Prop), (∀ a w, Q a w → Q' a w) → ∀ a w, S w → wpTh P S hs (pre ++ [o]).toArray Q l a w → wpTh P S hs (pre ++ [o]).toArray Q' l a w := by
      intro l
      induction l with
      | nil => intro Q Q' hq a w _ h; exact hq a w h
      | cons x r ih => intro Q Q' hq a w hw h; exact T1h_mono hw (fun a w hS hh => ih Q Q' hq a w hS hh) h
    refine mono pre _ _ ?_ _ _ hw (h1 hw)
    rintro a w hk hS
    obtain ⟨g, hg, e, hk2⟩ := hk hS
    subst e
    have hk3 : T1 P (pre ++ [o]).toArray o (wpT P (pre ++ [o]).toArray (Lift n (after P n t K .normal)) []) (act n g) w := hk2
    exact hk3⟩
end Go.Vc
namespace Go.Vc
set_option linter.unusedVariables false
open Go Go.Pw
theorem Draw.heldEnd {P : Program} {n : Nat} {K : Exit → Fr → World → Prop} {id : Nat} {ops : Array Oper} {t : List It} {f : Fr} {w : World} (S : World → Prop) (hs : Option Tmp → Bool) (hn : ops.toList ≠ []) (hB : textH P hs ops = true) (hL : lastB ops = true) (hw : S w.drew)
    (h : Sat P n K .normal (.opsH S hs ops.toList ops.toList.dropLast :: .ops ops.toList [ops.toList.getLast hn] true :: t) f w.drew) : Draw P n K id ops t f w :=
  Draw.heldLast S hs _ _ (by rw [List.dropLast_concat_getLast hn]) hB hL hw h
/-- A variable of one cell, in a block of its own. -/
def Var1 (w : World) (b : Nat) (T : TypeId) (v : Value) : Prop := w.heap[b]? = some (.cells #[v] T (0, 0))
theorem Var1.cell {w : World} {b : Nat} {T : TypeId} {v : Value} (h : Var1 w b T v) : w.cell? ⟨b, 0, none⟩ = some v := by
  unfold World.cell?; dsimp only; rw [h]; rfl
theorem Var1.frozen {w : World} {b : Nat} {T : TypeId} {v : Value} (h : Var1 w b T v) : w.frozen? ⟨b, 0, none⟩ = false := by
  unfold World.frozen?; dsimp only; rw [h]; rfl
theorem Var1.lt {w : World} {b : Nat} {T : TypeId} {v : Value} (h : Var1 w b T v) : b < w.heap.size := by
  rcases Nat.lt_or_ge b w.heap.size with h' | h'
  · exact h'
  · unfold Var1 at h; rw [Array.getElem?_eq_none h'] at h; cases h
theorem Var1.set {w : World} {b : Nat} {T : TypeId} {v : Value} (h : Var1 w b T v) (u : Value) : Var1 (w.setCell ⟨b, 0, none⟩ u) b T u := by
  unfold Var1 at *
  simp [World.setCell, Array.getElem?_modify, h]
theorem Var1.keep {w w' : World} {b : Nat} {T : TypeId} {v : Value} {c : Nat → Prop} (h : Var1 w b T v) (k : Keeps w w' c) (hc : ¬ c b) : Var1 w' b T v := (k.block b h.lt hc).trans h
theorem Var1.ne {w : World} {b b' : Nat} {T T' : TypeId} {v u : Value} (h : Var1 w b T v) (h' : Var1 w b' T' u) (hT : T ≠ T') : b ≠ b' := by
  rintro rfl
  unfold Var1 at *
  rw [h] at h'
  injection h' with h'
  injection h' with _ h' _
  exact hT h'
end Go.Vc
