/- Helper text of this claim: Kit7, Kit8, MapG: lemmas and contracts that the proved statement rests on; no conditions of its own. -/
import Derived.Test.YtdghfagipheabaaGreatDoorKit6
import Derived.Test.YtdghfagipheabaaGreatDoorWcz
import Derived.Test.YtdghfagipheabaaGreatDoorGCs0
namespace Go.Pw
open Go
set_option linter.unusedVariables false
set_option linter.unusedSectionVars false
/-! As Kit6's, but the last operation is of any kind (it need not be calm): such as a comparison of arrays. -/
section
variable {P : Program} {ops : Array Oper} {S : World → Prop} {hs : Option Tmp → Bool}
theorem anyOrderY {Q : Exit → Act → World → Prop} {m : Array Nat} (ok : TextOkH P hs ops m) {z : Nat} (hz : z + 1 = ops.size) (hall : ∀ j, j < z → (m.getD z 0).testBit j = true) : ∀ (fuel : Nat) (L : List Nat) (listed : Array Bool) (a : Act) (w : World),
    L.length = fuel → listed.size = ops.size → Closed ops listed → L.Pairwise (· < ·) → (∀ j ∈ L, j < z) → (∀ j, j < ops.size → (listed.getD j false = false ↔ j ∈ L ∨ j = z)) →
    S w → wpIh P S hs ops (fun a w => S w → wpOp P ops Q z (fun a w => Q .normal a w) a w) L a w → wpAny P .any ops Q (fuel + 1) listed a w := by
  intro fuel
  induction fuel with
  | zero =>
    intro L listed a w hlen hsz hcl hpw hlt' hmem hw0 h
    obtain rfl : L = [] := List.eq_nil_of_length_eq_zero hlen
    have hzl : listed.getD z false = false := (hmem z (by omega)).2 (.inr rfl)
    have hrd : ∀ i, i ∈ Region.ready .any ops listed ↔ i = z := by
      intro i
      constructor
      · intro hi
        obtain ⟨h0, o, ho, _⟩ := mem_ready.1 hi
        have hlt : i < ops.size := (Array.getElem?_eq_some_iff.1 ho).1
        have h0' : listed.getD i false = false := by
          have : i < listed.size := by omega
          simp [this] at h0 ⊢; exact h0
        rcases (hmem i hlt).1 h0' with h | h
        · cases h
        · exact h
      · rintro rfl
        refine mem_ready.2 ⟨?_, ops[i]'(by omega), Array.getElem?_eq_getElem (by omega), fun e he hb => ?_⟩
        · have : i < listed.size := by omega
          simp [this] at hzl ⊢; exact hzl
        · have hlt' := ok.back i _ (Array.getElem?_eq_getElem (by omega)) e he hb
          cases hl : listed.getD e.on false with
          | true => rfl
          | false =>
            rcases (hmem e.on (by omega)).1 hl with h | h
            · cases h
            · omega
    refine ⟨fun hr => ?_, fun i hi => ?_⟩
    · have := (hrd z).2 rfl
      rw [hr] at this; cases this
    · obtain rfl := (hrd i).1 hi
      refine wpOp_mono (fun a w h => ?_) (h hw0)
      refine ⟨?_, h⟩
      refine List.eq_nil_iff_forall_not_mem.2 fun j hj => ?_
      obtain ⟨h0, o, ho, _⟩ := mem_ready.1 hj
      have hlt : j < ops.size := (Array.getElem?_eq_some_iff.1 ho).1
      by_cases hji : j = i
      · subst hji
        have : j < listed.size := by omega
        simp [this] at h0
      · have h0' : listed.getD j false = false := by
          have h1 : j < listed.size := by omega
          have h2 : (listed.setIfInBounds i true).getD j false = false := by
            simp [h1] at h0 ⊢; exact h0
          rwa [getD_set_ne false (fun h => hji h.symm)] at h2
        rcases (hmem j hlt).1 h0' with h | h
        · cases h
        · exact hji h
  | succ fuel ih =>
    intro L listed a w hlen hsz hcl hpw hlt' hmem hw0 h
    refine ⟨fun hr => ?_, fun i hi => ?_⟩
    · cases L with
      | nil => cases hlen
      | cons i L =>
        exfalso
        have hiz := hlt' i List.mem_cons_self
        have h0 : listed.getD i false = false := (hmem i (by omega)).2 (.inl List.mem_cons_self)
        have hrdy : i ∈ Region.ready .any ops listed := by
          refine mem_ready.2 ⟨?_, ops[i]'(by omega), Array.getElem?_eq_getElem (by omega), fun e he hb => ?_⟩
          · have : i < listed.size := by omega
            simp [this] at h0 ⊢; exact h0
          · have hlt2 := ok.back i _ (Array.getElem?_eq_getElem (by omega)) e he hb
            cases hl : listed.getD e.on false with
            | true => rfl
            | false =>
              rcases (hmem e.on (by omega)).1 hl with hin | hin
              · rcases List.mem_cons.1 hin with heq | hin
                · omega
                · have := (List.pairwise_cons.1 hpw).1 _ hin; omega
              · omega
        rw [hr] at hrdy; cases hrdy
    · obtain ⟨h0, o, ho, hdeps⟩ := mem_ready.1 hi
      have hlt : i < ops.size := (Array.getElem?_eq_some_iff.1 ho).1
      have hil : i < listed.size := by omega
      have h0' : listed.getD i false = false := by simp [hil] at h0 ⊢; exact h0
      have hin : i ∈ L := by
        rcases (hmem i hlt).1 h0' with h | h
        · exact h
        · exfalso
          subst h
          obtain ⟨j, L', rfl⟩ := List.exists_cons_of_ne_nil (l := L) (by rintro rfl; simp at hlen)
          have hjz := hlt' j List.mem_cons_self
          have := dep_listedH ok hcl i i o (Nat.le_refl _) ho hdeps j hjz (hall j hjz)
          rw [(hmem j (by omega)).2 (.inl List.mem_cons_self)] at this; cases this
      obtain ⟨pre, post, rfl⟩ := List.append_of_mem hin
      have hpre : ∀ j ∈ pre, j < i := fun j hj => (List.pairwise_append.1 hpw).2.2 j hj i List.mem_cons_self
      have hiz : i < z := hlt' i hin
      refine wpOp_mono (fun a w h => ?_) (wpOp_of_TIh (bubbleH ok ho pre post (fun j hj => ⟨hpre j hj, ?_⟩) a w hw0 h) hw0)
      · refine ih (pre ++ post) _ a w (by simp at hlen ⊢; omega) (by simp [hsz]) ?_ ?_ ?_ ?_ h.1 h.2
        · intro k p hk hl e he hb
          by_cases hki : k = i
          · subst hki
            obtain rfl : p = o := Option.some.inj (hk.symm.trans ho)
            exact getD_set_true (hdeps e he hb)
          · rw [getD_set_ne false (fun h => hki h.symm)] at hl
            exact getD_set_true (hcl k p hk hl e he hb)
        · exact hpw.sublist (List.Sublist.append_left (List.sublist_cons_self _ _) _)
        · intro j hj
          rcases List.mem_append.1 hj with hj | hj
          · exact hlt' j (List.mem_append_left _ hj)
          · exact hlt' j (List.mem_append_right _ (List.mem_cons_of_mem _ hj))
        · intro j hjs
          have hne : j ∈ pre ++ post → j ≠ i := fun hj e => by
            subst e
            rcases List.mem_append.1 hj with hj | hj
            · have := hpre _ hj; omega
            · have := (List.pairwise_cons.1 (List.pairwise_append.1 hpw).2.1).1 _ hj; omega
          constructor
          · intro k2
            have hji : j ≠ i := fun e => by subst e; simp [hil] at k2
            rw [getD_set_ne false (fun h => hji h.symm)] at k2
            rcases (hmem j hjs).1 k2 with hj | hj
            · left
              rcases List.mem_append.1 hj with hj | hj
              · exact List.mem_append_left _ hj
              · rcases List.mem_cons.1 hj with rfl | hj
                · exact absurd rfl hji
                · exact List.mem_append_right _ hj
            · exact .inr hj
          · intro hj
            have hji : j ≠ i := by
              rcases hj with hj | hj
              · exact hne hj
              · omega
            rw [getD_set_ne false (fun h => hji h.symm)]
            refine (hmem j hjs).2 ?_
            rcases hj with hj | hj
            · left
              rcases List.mem_append.1 hj with hj | hj
              · exact List.mem_append_left _ hj
              · exact List.mem_append_right _ (List.mem_cons_of_mem _ hj)
            · exact .inr hj
      · cases hm : (m.getD i 0).testBit j with
        | false => rfl
        | true =>
          have hl := dep_listedH ok hcl i i o (Nat.le_refl _) ho hdeps j (hpre j hj) hm
          have := (hmem j (by have := hpre j hj; omega)).2 (.inl (List.mem_append_left _ hj))
          rw [hl] at this; cases this
theorem wp_region_heldAny {Q : Exit → Act → World → Prop} {id : Nat} {pre : List Oper} {o : Oper} {a : Act} {w : World} (hm : P.follows .mixedOrders = true) (hs : Option Tmp → Bool) (S : World → Prop) (hw0 : S w.drew)
    (hB : textH P hs (pre ++ [o]).toArray = true) (hL : lastB (pre ++ [o]).toArray = true)
    (h : wpTh P S hs (pre ++ [o]).toArray (fun a w => S w → wpList P (pre ++ [o]).toArray Q [o] a w) pre a w.drew) : (Code.region id (pre ++ [o]).toArray true).wp P Q a w := by
  refine wp_region_any hm ?_
  have ok := textOkH_of hB
  have hz : ∀ j, (Array.replicate (pre ++ [o]).toArray.size false).getD j false = false := fun j => by
    simp only [Array.getD_eq_getD_getElem?, Array.getElem?_replicate]; split <;> rfl
  have hsz : (pre ++ [o]).toArray.size = pre.length + 1 := by simp
  have hget : (pre ++ [o]).toArray[pre.length]? = some o := by simp
  have key := anyOrderY (S := S) (Q := Q) ok (z := pre.length) hsz.symm (fun j hj => by
    unfold lastB at hL
    rw [hsz] at hL
    simpa using List.all_eq_true.1 hL j (by simpa using hj)) pre.length (List.range pre.length) (Array.replicate (pre ++ [o]).toArray.size false) a w.drew (by simp) (by simp) ?_ ?_ ?_ ?_ hw0 ?_
  · rw [hsz] at key ⊢; exact key
  · intro i o _ hl; rw [hz] at hl; cases hl
  · exact List.pairwise_lt_range
  · intro j hj; simpa using hj
  · intro j hj
    rw [hz, hsz] at *
    simp
    omega
  · have e := wpTh_eqZ (P := P) (S := S) (hs := hs) (ops := (pre ++ [o]).toArray) (Q := fun a w => S w → wpOp P (pre ++ [o]).toArray Q pre.length (fun a w => Q .normal a w) a w) pre 0 (fun j hj => by rw [Nat.zero_add]; simp [List.getElem?_append_left hj])
    rw [show List.range pre.length = List.range' 0 pre.length from by simp [List.range_eq_range'], e]
    have e2 : (fun a w => S w → wpOp P (pre ++ [o]).toArray Q pre.length (fun a w => Q .normal a w) a w) = (fun a w => S w → wpList P (pre ++ [o]).toArray Q [o] a w) := by
      funext a w
      unfold wpOp wpList
      simp only [hget]
      rfl
    rw [e2]
    exact h
end
end Go.Pw
namespace Go.Vc
open Go Go.Pw
theorem Draw.heldAny {P : Program} {n : Nat} {K : Exit → Fr → World → Prop} {id : Nat} {ops : Array Oper} {t : List It} {f : Fr} {w : World} (S : World → Prop) (hs : Option Tmp → Bool) (pre : List Oper) (o : Oper) (he : ops = (pre ++ [o]).toArray) (hB : textH P hs ops = true) (hL : lastB ops = true) (hw : S w.drew)
    (h : Sat P n K .normal (.opsH S hs ops.toList pre :: .ops ops.toList [o] false :: t) f w.drew) : Draw P n K id ops t f w :=
  ⟨fun hm hf => by
    subst he
    refine wp_region_heldAny hm hs S hw hB hL ?_
    have h1 := h.h hf
    have h1 : S w.drew → wpTh P S hs (pre ++ [o]).toArray (fun a w => S w → Lift n (after P n (.ops (pre ++ [o]).toArray.toList [o] false :: t) K .normal) a w) pre (act n f) w.drew := h1
    have mono : ∀ (l : List Oper) (Q Q' : Act → World → Prop), (∀ a w, Q a w → Q' a w) → ∀ a w, S w → wpTh P S hs (pre ++ [o]).toArray Q l a w → wpTh P S hs (pre ++ [o]).toArray Q' l a w := by
      intro l
      induction l with
      | nil => intro Q Q' hq a w _ h; exact hq a w h
      | cons x r ih => intro Q Q' hq a w hw h; exact T1h_mono hw (fun a w hS hh => ih Q Q' hq a w hS hh) h
    refine mono pre _ _ ?_ _ _ hw (h1 hw)
    rintro a w hk hS
    obtain ⟨g, hg, e, hk2⟩ := hk hS
    subst e
    exact hk2⟩
theorem Draw.heldEndAny {P : Program} {n : Nat} {K : Exit → Fr → World → Prop} {id : Nat} {ops : Array Oper} {t : List It} {f : Fr} {w : World} (S : World → Prop) (hs : Option Tmp → Bool) (hn : ops.toList ≠ []) (hB : textH P hs ops = true) (hL : lastB ops = true) (hw : S w.drew)
    (h : Sat P n K .normal (.opsH S hs ops.toList ops.toList.dropLast :: .ops ops.toList [ops.toList.getLast hn] false :: t) f w.drew) : Draw P n K id ops t f w :=
  Draw.heldAny S hs _ _ (by rw [List.dropLast_concat_getLast hn]) hB hL hw h
end Go.Vc

namespace Go.Vc
open Go Go.Pw
set_option linter.unusedVariables false
/-! ### Loads by facts of earlier worlds -/
theorem at_mono {w w' : World} {b o : Nat} {vs : List Value} (h : At w b o vs) (k : Keeps w w' none_) : At w' b o vs := fun i v hi => by
  have := h i v hi
  have hlt : b < w.heap.size := by
    rcases Nat.lt_or_ge b w.heap.size with h' | h'
    · exact h'
    · unfold World.cell? at this
      dsimp only at this
      rw [Array.getElem?_eq_none h'] at this
      cases this
  rw [k.cell hlt id]; exact this
theorem cell_mono {w w' : World} {a : Addr} {v : Value} (h : w.cell? a = some v) (k : Keeps w w' none_) : w'.cell? a = some v := by
  have hlt : a.block < w.heap.size := by
    rcases Nat.lt_or_ge a.block w.heap.size with h' | h'
    · exact h'
    · unfold World.cell? at h
      rw [Array.getElem?_eq_none h'] at h
      cases h
  rw [k.cell hlt id]; exact h
section
variable {P : Program} {t : TypeId} {w w0 : World} {K : Value → Prop}
theorem LoadK {a : Addr} {v : Value} (ht : isAggB P t = false) (h : w0.cell? a = some v) (q : Keeps w0 w none_) (k : K v) : Load P t a w K := Load.one ht (cell_mono h q) k
theorem LoadD {a : Addr} {v : Value} (ht : isAggB P t = false) (h : w0.cell? a = some v) (q : Keeps w0 w none_) (k : K v) : Load P t a w.drew K := Load.one ht (cell_mono h q.drew) k
theorem LoadS {a : Addr} {v : Value} (ht : isAggB P t = false) (h : w.cell? a = some v) (k : K v) : Load P t a w.drew K := Load.one ht h k
/-- What lies in an element of a row. -/
theorem at_row {α : Type} {enc : α → List Value} {g o n : Nat} {l : List α} (h : At w0 g o (l.flatMap enc)) (hn : ∀ x, (enc x).length = n) {i : Nat} (hi : i < l.length) : At w0 g (o + i * n) (enc l[i]) := fun j v hj => by
  have hjn : j < n := by rw [← hn l[i]]; exact (List.getElem?_eq_some_iff.1 hj).1
  have key : ∀ (l : List α) (i : Nat) (hi : i < l.length) (j : Nat), j < n → (l.flatMap enc)[i * n + j]? = (enc l[i])[j]? := by
    intro l
    induction l with
    | nil => intro i hi; simp at hi
    | cons x r ih =>
      intro i hi j hj
      cases i with
      | zero =>
        rw [List.flatMap_cons, Nat.zero_mul, Nat.zero_add, List.getElem?_append_left (by rw [hn]; exact hj)]; rfl
      | succ i =>
        have e : (i + 1) * n + j = n + (i * n + j) := by rw [Nat.succ_mul]; omega
        rw [List.flatMap_cons, e, List.getElem?_append_right (by rw [hn]; omega), hn, Nat.add_sub_cancel_left, ih i (by simpa using hi) j hj]; rfl
  rw [Nat.add_assoc]
  exact h (i * n + j) v ((key l i hi j hjn).trans hj)
theorem LoadF {α : Type} {enc : α → List Value} {g o n i j : Nat} {l : List α} {v : Value} (ht : isAggB P t = false) (h : At w0 g o (l.flatMap enc)) (q : Keeps w0 w none_) (hn : ∀ x, (enc x).length = n) (hi : i < l.length) (hv : (enc l[i])[j]? = some v) (k : K v) : Load P t ⟨g, o + i * n + j, none⟩ w K :=
  Load.one ht (cell_mono (at_row h hn hi j v hv) q) k
theorem LoadF0 {α : Type} {enc : α → List Value} {g o n i : Nat} {l : List α} {v : Value} (ht : isAggB P t = false) (h : At w0 g o (l.flatMap enc)) (q : Keeps w0 w none_) (hn : ∀ x, (enc x).length = n) (hi : i < l.length) (hv : (enc l[i])[0]? = some v) (k : K v) : Load P t ⟨g, o + i * n, none⟩ w K :=
  Load.one ht (cell_mono (at_row h hn hi 0 v hv) q) k
theorem LoadA {α : Type} {enc : α → List Value} {g o n i : Nat} {l : List α} (ht : isAggB P t = true) (hu : (P.underlying t).isSome = true) (h : At w0 g o (l.flatMap enc)) (q : Keeps w0 w none_) (hn : ∀ x, (enc x).length = n) (hi : i < l.length) (hs : sizeOfT P t = some n) (k : K (.agg (enc l[i]).toArray)) : Load P t ⟨g, o + i * n, none⟩ w K :=
  Load.agg _ ht hu (by rw [hs, hn]) (at_mono (at_row h hn hi) q) k
theorem HeldK {S : World → Prop} {a : Addr} {v : Value} (ht : isAggB P t = false) (h : w0.cell? a = some v) (q : ∀ u, S u → Keeps w0 u none_) (k : K v) : Held P S t a K := Held.one ht (fun u hu => cell_mono h (q u hu)) k
theorem HeldF {S : World → Prop} {α : Type} {enc : α → List Value} {g o n i j : Nat} {l : List α} {v : Value} (ht : isAggB P t = false) (h : At w0 g o (l.flatMap enc)) (q : ∀ u, S u → Keeps w0 u none_) (hn : ∀ x, (enc x).length = n) (hi : i < l.length) (hv : (enc l[i])[j]? = some v) (k : K v) : Held P S t ⟨g, o + i * n + j, none⟩ K :=
  Held.one ht (fun u hu => cell_mono (at_row h hn hi j v hv) (q u hu)) k
theorem HeldF0 {S : World → Prop} {α : Type} {enc : α → List Value} {g o n i : Nat} {l : List α} {v : Value} (ht : isAggB P t = false) (h : At w0 g o (l.flatMap enc)) (q : ∀ u, S u → Keeps w0 u none_) (hn : ∀ x, (enc x).length = n) (hi : i < l.length) (hv : (enc l[i])[0]? = some v) (k : K v) : Held P S t ⟨g, o + i * n, none⟩ K :=
  Held.one ht (fun u hu => cell_mono (at_row h hn hi 0 v hv) (q u hu)) k
/-! A variable of several cells, whole and by its fields. -/
theorem LoadV {g o j : Nat} {vs : List Value} {v : Value} (ht : isAggB P t = false) (h : At w0 g o vs) (q : Keeps w0 w none_) (hv : vs[j]? = some v) (k : K v) : Load P t ⟨g, o + j, none⟩ w K := Load.one ht (cell_mono (h j v hv) q) k
theorem LoadV0 {g o : Nat} {vs : List Value} {v : Value} (ht : isAggB P t = false) (h : At w0 g o vs) (q : Keeps w0 w none_) (hv : vs[0]? = some v) (k : K v) : Load P t ⟨g, o, none⟩ w K := Load.one ht (cell_mono (h 0 v hv) q) k
theorem LoadW {g o : Nat} {vs : List Value} (ht : isAggB P t = true) (hu : (P.underlying t).isSome = true) (h : At w0 g o vs) (q : Keeps w0 w none_) (hs : sizeOfT P t = some vs.length) (k : K (.agg vs.toArray)) : Load P t ⟨g, o, none⟩ w K := Load.agg _ ht hu hs (at_mono h q) k
theorem HeldV {S : World → Prop} {g o j : Nat} {vs : List Value} {v : Value} (ht : isAggB P t = false) (h : At w0 g o vs) (q : ∀ u, S u → Keeps w0 u none_) (hv : vs[j]? = some v) (k : K v) : Held P S t ⟨g, o + j, none⟩ K := Held.one ht (fun u hu => cell_mono (h j v hv) (q u hu)) k
theorem HeldV0 {S : World → Prop} {g o : Nat} {vs : List Value} {v : Value} (ht : isAggB P t = false) (h : At w0 g o vs) (q : ∀ u, S u → Keeps w0 u none_) (hv : vs[0]? = some v) (k : K v) : Held P S t ⟨g, o, none⟩ K := Held.one ht (fun u hu => cell_mono (h 0 v hv) (q u hu)) k
theorem HeldW {S : World → Prop} {b o : Nat} {vs : List Value} (ht : isAggB P t = true) (hu : (P.underlying t).isSome = true) (h : At w0 b o vs) (q : ∀ u, S u → Keeps w0 u none_) (hs : sizeOfT P t = some vs.length) (k : K (.agg vs.toArray)) : Held P S t ⟨b, o, none⟩ K :=
  ⟨.agg vs.toArray, fun w hw => by
    obtain ⟨v, h1, h2⟩ := (Load.agg (P := P) (t := t) (K := fun v => v = .agg vs.toArray) vs ht hu hs (at_mono h (q w hw)) rfl).h
    rw [h1, h2], k⟩
end
theorem HeldG {P : Program} {t : TypeId} {K : Value → Prop} {S : World → Prop} {b o : Nat} (vs : List Value) (ht : isAggB P t = true) (hu : (P.underlying t).isSome = true) (h : ∀ u, S u → At u b o vs) (hs : sizeOfT P t = some vs.length) (k : K (.agg vs.toArray)) : Held P S t ⟨b, o, none⟩ K :=
  ⟨.agg vs.toArray, fun w hw => by
    obtain ⟨v, h1, h2⟩ := (Load.agg (P := P) (t := t) (K := fun v => v = .agg vs.toArray) vs ht hu hs (h w hw) rfl).h
    rw [h1, h2], k⟩
def flatB : Value → Bool
  | .agg _ | .tuple _ => false
  | _ => true
theorem flat_of {vs : List Value} (h : vs.all flatB = true) : ∀ v ∈ vs, Flat v := fun v hv => by
  have := List.all_eq_true.1 h v hv
  cases v <;> first | exact trivial | (unfold flatB at this; cases this)
theorem at_fresh (w : World) (T : TypeId) (vs : List Value) : At (w.alloc (.cells vs.toArray T)) w.heap.size 0 vs := fun i v hi => by
  have := at_cells (heap_alloc_new w (.cells vs.toArray T)) i v (by simpa using hi)
  exact this
theorem KGO {p q : Prop} (k : q) (h : Hide q → p := by intro k_; (repeat ((first | refine Go.Vc.Br.dec_yes rfl ?_ | refine Go.Vc.Num.i64 (by omega) (by omega) ?_ | refine Go.Vc.Num.i32 (by omega) (by omega) ?_ | refine Go.Vc.Num.u8 (by omega) (by omega) ?_ | refine Go.Vc.Br.tt ?_ | refine Go.Vc.Br.ff ?_ | refine Go.Vc.Br.not_yes ?_ | refine Go.Vc.Br.dec_yes (by omega) ?_ | refine Go.Vc.Br.dec_no (by omega) ?_ | refine Go.Vc.Br.beq_yes (by omega) ?_ | refine Go.Vc.Br.beq_no (by omega) ?_ | refine Go.Vc.Br.bne_yes (by omega) ?_ | refine Go.Vc.Br.bne_no (by omega) ?_ | refine Go.Vc.Draw.text (by decide +kernel) ?_ | refine Go.Vc.Idx.lit (j := 0) rfl (by omega) ?_ | refine Go.Vc.Idx.lit (j := 1) rfl (by omega) ?_ | refine Go.Vc.Idx.lit (j := 2) rfl (by omega) ?_ | refine Go.Vc.Idx.lit (j := 3) rfl (by omega) ?_ | refine Go.Vc.Idx.lit (j := 4) rfl (by omega) ?_ | refine Go.Vc.Idx.lit (j := 5) rfl (by omega) ?_ | refine Go.Vc.Idx.lit (j := 6) rfl (by omega) ?_ | refine Go.Vc.Idx.lit (j := 7) rfl (by omega) ?_ | refine Go.Vc.Idx.nat (by omega) ?_ | refine Go.Vc.Idx.int (by omega) (by omega) ?_ | refine Go.Vc.Cut.to (by omega) ?_ | refine Go.Vc.Cut.from (by omega) (by omega) ?_ | refine Go.Vc.Cut.both (by omega) (by omega) ?_ | refine Go.Vc.Br.dec_yes (by with_reducible assumption) ?_ | refine Go.Vc.Br.dec_no (by with_reducible assumption) ?_ | refine Go.Vc.Br.yes (by with_reducible assumption) ?_ | refine Go.Vc.Br.no (by with_reducible assumption) ?_ | refine Go.Vc.Load.one (by rfl) (by with_reducible assumption) ?_ | refine Go.Vc.LoadK (by rfl) (by with_reducible assumption) (by with_reducible assumption) ?_ | refine Go.Vc.LoadD (by rfl) (by with_reducible assumption) (by with_reducible assumption) ?_ | refine Go.Vc.LoadS (by rfl) (by with_reducible assumption) ?_ | refine Go.Vc.LoadF (by rfl) (by with_reducible assumption) (by with_reducible assumption) (fun _ => rfl) (by omega) rfl ?_ | refine Go.Vc.LoadF0 (by rfl) (by with_reducible assumption) (by with_reducible assumption) (fun _ => rfl) (by omega) rfl ?_ | refine Go.Vc.LoadA (by rfl) (by rfl) (by with_reducible assumption) (by with_reducible assumption) (fun _ => rfl) (by omega) (by rfl) ?_ | refine Go.Vc.LoadF (by rfl) (by with_reducible assumption) (Go.Pw.Keeps.drew (by with_reducible assumption)) (fun _ => rfl) (by omega) rfl ?_ | refine Go.Vc.LoadF0 (by rfl) (by with_reducible assumption) (Go.Pw.Keeps.drew (by with_reducible assumption)) (fun _ => rfl) (by omega) rfl ?_ | refine Go.Vc.LoadA (by rfl) (by rfl) (by with_reducible assumption) (Go.Pw.Keeps.drew (by with_reducible assumption)) (fun _ => rfl) (by omega) (by rfl) ?_ | refine Go.Vc.HeldK (by rfl) (by with_reducible assumption) (fun _ hu => hu) ?_ | refine Go.Vc.HeldK (by rfl) (by with_reducible assumption) (fun _ hu => Go.Pw.Keeps.trans0 (by with_reducible assumption) hu) ?_ | refine Go.Vc.HeldF (by rfl) (by with_reducible assumption) (fun _ hu => hu) (fun _ => rfl) (by omega) rfl ?_ | refine Go.Vc.HeldF (by rfl) (by with_reducible assumption) (fun _ hu => Go.Pw.Keeps.trans0 (by with_reducible assumption) hu) (fun _ => rfl) (by omega) rfl ?_ | refine Go.Vc.HeldF0 (by rfl) (by with_reducible assumption) (fun _ hu => hu) (fun _ => rfl) (by omega) rfl ?_ | refine Go.Vc.HeldF0 (by rfl) (by with_reducible assumption) (fun _ hu => Go.Pw.Keeps.trans0 (by with_reducible assumption) hu) (fun _ => rfl) (by omega) rfl ?_ | refine Go.Vc.LoadV (by rfl) (by with_reducible assumption) (by with_reducible assumption) rfl ?_ | refine Go.Vc.LoadV (by rfl) (by with_reducible assumption) (Go.Pw.Keeps.drew (by with_reducible assumption)) rfl ?_ | refine Go.Vc.LoadV (by rfl) (by with_reducible assumption) (Go.Pw.Keeps.refl _ _) rfl ?_ | refine Go.Vc.LoadV0 (by rfl) (by with_reducible assumption) (by with_reducible assumption) rfl ?_ | refine Go.Vc.LoadV0 (by rfl) (by with_reducible assumption) (Go.Pw.Keeps.drew (by with_reducible assumption)) rfl ?_ | refine Go.Vc.LoadV0 (by rfl) (by with_reducible assumption) (Go.Pw.Keeps.refl _ _) rfl ?_ | refine Go.Vc.LoadW (by rfl) (by rfl) (by with_reducible assumption) (by with_reducible assumption) (by rfl) ?_ | refine Go.Vc.LoadW (by rfl) (by rfl) (by with_reducible assumption) (Go.Pw.Keeps.drew (by with_reducible assumption)) (by rfl) ?_ | refine Go.Vc.LoadW (by rfl) (by rfl) (by with_reducible assumption) (Go.Pw.Keeps.refl _ _) (by rfl) ?_ | refine Go.Vc.HeldV (by rfl) (by with_reducible assumption) (fun _ hu => hu) rfl ?_ | refine Go.Vc.HeldV (by rfl) (by with_reducible assumption) (fun _ hu => Go.Pw.Keeps.trans0 (by with_reducible assumption) hu) rfl ?_ | refine Go.Vc.HeldV0 (by rfl) (by with_reducible assumption) (fun _ hu => hu) rfl ?_ | refine Go.Vc.HeldV0 (by rfl) (by with_reducible assumption) (fun _ hu => Go.Pw.Keeps.trans0 (by with_reducible assumption) hu) rfl ?_ | refine Go.Vc.HeldW (by rfl) (by rfl) (by with_reducible assumption) (fun _ hu => hu) (by rfl) ?_ | refine Go.Vc.HeldW (by rfl) (by rfl) (by with_reducible assumption) (fun _ hu => Go.Pw.Keeps.trans0 (by with_reducible assumption) hu) (by rfl) ?_ | refine (?_ : Go.Vc.Sat _ _ _ _ _ _ _) | refine (?_ : Go.Vc.Then _ _ _ _ _ _ _ _)); (first | refine Go.Vc.Then.go hmix ?_ | refine Go.Vc.Sat.go hmix ?_ | skip); conv => whnf)); exact Hide.h k_) : p := h ⟨k⟩
end Go.Vc

/-! Maps from keys of any kind: a list of pairs. -/
namespace Go.Vc
open Go Go.Pw Go.RowKit
set_option linter.unusedVariables false
set_option linter.unusedSectionVars false
theorem ba_beqG (a b : ByteArray) : (a == b) = decide (a = b) := by
  obtain ⟨a⟩ := a
  obtain ⟨b⟩ := b
  have e : ((ByteArray.mk a == ByteArray.mk b) : Bool) = (a == b) := rfl
  rw [e]
  by_cases h : a = b <;> simp [h]
abbrev GM (κ : Type) := List (κ × Value)
section
variable {κ : Type} [DecidableEq κ]
def GM.get : GM κ → κ → Option Value
  | [], _ => none
  | (s, v) :: r, k => if k = s then some v else GM.get r k
def GM.put : GM κ → κ → Value → GM κ
  | [], k, x => [(k, x)]
  | (s, v) :: r, k, x => if k = s then (s, x) :: r else (s, v) :: GM.put r k x
def GM.del : GM κ → κ → GM κ
  | [], _ => []
  | (s, v) :: r, k => if k = s then r else (s, v) :: GM.del r k
/-- Where a key stands. -/
def GM.idx : GM κ → κ → Nat → Option (Nat × Value)
  | [], _, _ => none
  | (s, v) :: r, k, i => if k = s then some (i, v) else GM.idx r k (i + 1)
def entG (e : MapEntry) : Value × Value := (e.key, e.val)
def gmP (enc : κ → Value) (p : κ × Value) : Value × Value := (enc p.1, p.2)
/-- What is asked of a kind of keys. -/
structure KeyOk (P : Program) (kt : TypeId) (enc : κ → Value) : Prop where
  check : ∀ e k w, (Instr.checkKey e 10000 kt (enc k)).run P w = .ok () w
  find : ∀ w k (es : List MapEntry) (m : GM κ), es.map entG = m.map (gmP enc) → (Instr.findKey kt (enc k) es).run P w = .ok (m.idx k 0) w
  bits : ∀ k, Instr.sameBits 10000 (enc k) (enc k) = true
/-- The block b holds a map with these entries. -/
def GMap (enc : κ → Value) (w : World) (b : Nat) (m : GM κ) : Prop := ∃ es clock, w.heap[b]? = some (.map es clock) ∧ es.toList.map entG = m.map (gmP enc)
theorem GM.idx_get (k : κ) : ∀ (m : GM κ) (i : Nat), (m.idx k i).map (·.2) = m.get k
  | [], i => rfl
  | (s, v) :: r, i => by
    unfold GM.idx GM.get
    split
    · rfl
    · exact GM.idx_get k r (i + 1)
theorem GM.idx_none (k : κ) : ∀ (m : GM κ) (i : Nat), m.idx k i = none → m.get k = none ∧ (∀ x, m.put k x = m ++ [(k, x)]) ∧ m.del k = m
  | [], i, _ => ⟨rfl, fun _ => rfl, rfl⟩
  | (s, v) :: r, i, h => by
    unfold GM.idx at h
    split at h
    · cases h
    · rename_i hk
      obtain ⟨h1, h2, h3⟩ := GM.idx_none k r (i + 1) h
      exact ⟨by simp [GM.get, hk, h1], fun x => by simp [GM.put, hk, h2], by simp [GM.del, hk, h3]⟩
theorem GM.idx_some {enc : κ → Value} (k : κ) : ∀ (es : List MapEntry) (m : GM κ) (i j : Nat) (v : Value), es.map entG = m.map (gmP enc) → m.idx k i = some (j, v) →
    ∃ d, j = i + d ∧ d < es.length ∧ m.get k = some v ∧ (es[d]?).map (·.key) = some (enc k) ∧ (∀ x, (es.modify d fun e => { e with key := enc k, val := x }).map entG = (m.put k x).map (gmP enc)) ∧ (es.eraseIdx d).map entG = (m.del k).map (gmP enc)
  | [], m, i, j, v, h, hi => by
    have : m = [] := by cases m with | nil => rfl | cons a r => simp at h
    subst this; simp [GM.idx] at hi
  | e :: es, [], i, j, v, h, hi => by simp at h
  | e :: es, (s, x0) :: r, i, j, v, h, hi => by
    simp only [List.map_cons, List.cons.injEq] at h
    obtain ⟨h1, h2⟩ := h
    simp only [entG, gmP, Prod.mk.injEq] at h1
    obtain ⟨h3, h4⟩ := h1
    unfold GM.idx at hi
    split at hi
    · rename_i hk
      subst hk
      simp only [Option.some.injEq, Prod.mk.injEq] at hi
      obtain ⟨rfl, rfl⟩ := hi
      refine ⟨0, by simp, by simp, by simp [GM.get], by simp [h3], fun x => ?_, ?_⟩
      · simp only [List.modify_zero_cons, List.map_cons, GM.put, if_pos, h2]
        simp [entG, gmP]
      · simp [GM.del, h2]
    · rename_i hk
      obtain ⟨d, q1, q2, q3, q4, q5, q6⟩ := GM.idx_some k es r (i + 1) j v h2 hi
      refine ⟨d + 1, by omega, Nat.succ_lt_succ q2, by simp [GM.get, hk, q3], by simpa using q4, fun x => ?_, ?_⟩
      · simp only [List.modify_succ_cons, List.map_cons, GM.put, if_neg hk, q5 x]
        simp [entG, gmP, h3, h4]
      · simp only [List.eraseIdx_cons_succ, List.map_cons, GM.del, if_neg hk, q6]
        simp [entG, gmP, h3, h4]
theorem GM.get_put (k k' : κ) (x : Value) : ∀ (m : GM κ), (m.put k x).get k' = if k' = k then some x else m.get k'
  | [] => by simp [GM.put, GM.get]
  | (s, v) :: r => by
    unfold GM.put
    by_cases h : k = s
    · subst h
      rw [if_pos rfl]
      simp only [GM.get]
      split <;> rfl
    · rw [if_neg h]
      simp only [GM.get]
      by_cases h2 : k' = s
      · rw [if_pos h2, if_pos h2, if_neg (fun e => h (by rw [← e, h2]))]
      · rw [if_neg h2, if_neg h2, GM.get_put k k' x r]
variable {enc : κ → Value} {P : Program} {w : World} {b : Nat} {m : GM κ} {t kt et : TypeId} {K : Value → World → Prop}
theorem GMap.lt (h : GMap enc w b m) : b < w.heap.size := by
  obtain ⟨es, cl, hb, he⟩ := h
  rcases Nat.lt_or_ge b w.heap.size with h' | h'
  · exact h'
  · rw [Array.getElem?_eq_none h'] at hb; cases hb
theorem GMap.keep {w' : World} {c : Nat → Prop} (h : GMap enc w b m) (k : Keeps w w' c) (hc : ¬ c b) : GMap enc w' b m := by
  have hlt := h.lt
  obtain ⟨es, cl, hb, he⟩ := h
  exact ⟨es, cl, (k.block b hlt hc).trans hb, he⟩
theorem GMap.new (w : World) : GMap enc (w.alloc (.map #[] 0)) w.heap.size ([] : GM κ) := ⟨#[], 0, heap_alloc_new w _, rfl⟩
theorem RunV.makeMap {r : Option Value} (hr : r = none) (k : K (.map (some w.heap.size)) (w.alloc (.map #[] 0))) : RunV P (Instr.makeMap t r) w K := by
  subst hr
  exact RunV.of (by simp [Instr.makeMap]) k
theorem RunV.lookG (ok : KeyOk P kt enc) (ht : P.underlying t = some (.map kt et)) {z : Value} (hz : (zeroValue et).run P w = .ok z w) (h : GMap enc w b m) (s : κ) {e : Value} (he : e = enc s) (k : K ((m.get s).getD z) w) :
    RunV P (Instr.lookup t (.map (some b)) e false) w K := by
  subst he
  obtain ⟨es, clock, hb, he⟩ := h
  refine ⟨_, w, ?_, k⟩
  have h1 := GM.idx_get s m 0
  cases hi : m.idx s 0 with
  | none =>
    rw [hi] at h1
    simp [Instr.lookup, und_ok ht, getObj, Sem.run, hb, ok.check, ok.find w s es.toList m he, hi, hz, ← h1]
  | some jv =>
    obtain ⟨j, v⟩ := jv
    rw [hi] at h1
    simp [Instr.lookup, und_ok ht, getObj, Sem.run, hb, ok.check, ok.find w s es.toList m he, hi, ← h1]
theorem RunV.lookG2 (ok : KeyOk P kt enc) (ht : P.underlying t = some (.map kt et)) {z : Value} (hz : (zeroValue et).run P w = .ok z w) (h : GMap enc w b m) (s : κ) {e : Value} (he : e = enc s) (k : K (.tuple #[(m.get s).getD z, .bool (m.get s).isSome]) w) :
    RunV P (Instr.lookup t (.map (some b)) e true) w K := by
  subst he
  obtain ⟨es, clock, hb, he⟩ := h
  refine ⟨_, w, ?_, k⟩
  have h1 := GM.idx_get s m 0
  cases hi : m.idx s 0 with
  | none =>
    rw [hi] at h1
    simp [Instr.lookup, und_ok ht, getObj, Sem.run, hb, ok.check, ok.find w s es.toList m he, hi, hz, ← h1]
  | some jv =>
    obtain ⟨j, v⟩ := jv
    rw [hi] at h1
    simp [Instr.lookup, und_ok ht, getObj, Sem.run, hb, ok.check, ok.find w s es.toList m he, hi, ← h1]
/-- The world with another object in the block b. -/
def setOG (w : World) (b : Nat) (o : Obj) : World := { w with heap := w.heap.set! b o }
theorem setOG_get (o : Obj) (hb : b < w.heap.size) : (setOG w b o).heap[b]? = some o := by
  simp [setOG, hb]
theorem setOG_keeps (o : Obj) : Keeps w (setOG w b o) (one_ b) :=
  ⟨rfl, rfl, rfl, by simp [setOG], fun k hk hn => by
    have : b ≠ k := fun e => hn e.symm
    simp [setOG, this]⟩
theorem RunU.updG {K : World → Prop} (ok : KeyOk P kt enc) (ht : P.underlying t = some (.map kt et)) (h : GMap enc w b m) (s : κ) {e : Value} (he : e = enc s) (x : Value) (k : ∀ w', GMap enc w' b (m.put s x) → Keeps w w' (one_ b) → K w') :
    RunU P (Instr.mapUpdate t (.map (some b)) e x) w K := by
  subst he
  have hlt := h.lt
  obtain ⟨es, clock, hb, he⟩ := h
  have hf := ok.find w s es.toList m he
  cases hi : m.idx s 0 with
  | none =>
    rw [hi] at hf
    obtain ⟨a1, a2, a3⟩ := GM.idx_none s m 0 hi
    refine ⟨setOG w b (.map (es.push { key := enc s, val := x, born := clock }) (clock + 1)), ?_, k _ ⟨_, _, setOG_get _ hlt, ?_⟩ (setOG_keeps _)⟩
    · simp [Instr.mapUpdate, und_ok ht, getObj, setObj, Sem.run, hb, ok.check, hf, setOG]
    · simp [a2, he, entG, gmP]
  | some jv =>
    obtain ⟨j, v⟩ := jv
    rw [hi] at hf
    obtain ⟨d, q1, q2, q3, q4, q5, q6⟩ := GM.idx_some s es.toList m 0 j v he hi
    obtain rfl : j = d := by omega
    have e2 : ((es[j]?).map (·.key)).getD (enc s) = enc s := by
      rw [← Array.getElem?_toList, q4]; rfl
    refine ⟨setOG w b (.map (es.modify j fun e => { e with key := enc s, val := x }) clock), ?_, k _ ⟨_, _, setOG_get _ hlt, ?_⟩ (setOG_keeps _)⟩
    · simp [Instr.mapUpdate, und_ok ht, getObj, setObj, Sem.run, hb, ok.check, hf, setOG, e2, Instr.keyThatStays, ok.bits]
    · rw [Array.toList_modify]; exact q5 x
theorem RunN.lenG {ty : TypeId} {cs : Array Bool} (ht : P.underlying t = some (.map kt et)) (h : GMap enc w b m) (k : K (.int .i64 (m.length : Nat)) w) : RunN P (builtin .len #[t] ty cs [.map (some b)].toArray) w K := by
  obtain ⟨es, clock, hb, he⟩ := h
  have hl : es.size = m.length := by
    have := congrArg List.length he
    simpa using this
  refine ⟨_, w, ?_, k⟩
  simp [builtin, Builtin.len_, und_ok ht, getObj, Sem.run, hb, goInt, hl]
end
/-! ### Kinds of keys -/
section
variable {P : Program} {kt : TypeId}
theorem find_now {κ : Type} [DecidableEq κ] {enc : κ → Value} {u : TypeDesc} (hu : P.underlying kt = some u) (hs : ∀ a b, Instr.sameNow u (enc a) (enc b) = some (decide (a = b))) (w : World) (k : κ) (es : List MapEntry) (m : GM κ) (h : es.map entG = m.map (gmP enc)) :
    (Instr.findKey kt (enc k) es).run P w = .ok (m.idx k 0) w := by
  have key : ∀ (es : List MapEntry) (m : GM κ) (i : Nat), es.map entG = m.map (gmP enc) → Instr.findNow u (enc k) es i = some (m.idx k i) := by
    intro es
    induction es with
    | nil =>
      intro m i h
      have : m = [] := by cases m with | nil => rfl | cons a r => simp at h
      subst this; rfl
    | cons e es ih =>
      intro m i h
      cases m with
      | nil => simp at h
      | cons p r =>
        obtain ⟨s, v⟩ := p
        simp only [List.map_cons, List.cons.injEq] at h
        obtain ⟨h1, h2⟩ := h
        simp only [entG, gmP, Prod.mk.injEq] at h1
        obtain ⟨h3, h4⟩ := h1
        unfold Instr.findNow GM.idx
        rw [h3, hs]
        by_cases hk : k = s
        · simp [hk, h4]
        · simp [hk, ih r (i + 1) h2]
  unfold Instr.findKey
  simp [und_ok hu, key es m 0 h]
theorem keyOk_int (hk : P.underlying kt = some (.int .i64)) : KeyOk P kt (Value.int .i64) where
  check e k w := by
    show (Instr.checkKey e (9999 + 1) kt _).run P w = _
    unfold Instr.checkKey
    simp [und_ok hk]
  find := find_now hk fun a b => by by_cases h : a = b <;> simp [Instr.sameNow, h]
  bits k := by simp [Instr.sameBits]
theorem keyOk_str (hk : P.underlying kt = some .string) : KeyOk P kt Value.string where
  check e k w := by
    show (Instr.checkKey e (9999 + 1) kt _).run P w = _
    unfold Instr.checkKey
    simp [und_ok hk]
  find := find_now hk fun a b => by simp [Instr.sameNow, ba_beqG]
  bits k := by simp [Instr.sameBits, ba_beqG]
theorem keyOk_ask {κ : Type} [DecidableEq κ] {enc : κ → Value} {u : TypeDesc} (hu : P.underlying kt = some u) (hn : ∀ a b, Instr.sameNow u (enc a) (enc b) = none) (heq : ∀ w a b, (Op.equal kt (enc a) (enc b)).run P w = .ok (decide (a = b)) w)
    (hc : ∀ e k w, (Instr.checkKey e 10000 kt (enc k)).run P w = .ok () w) (hb : ∀ k, Instr.sameBits 10000 (enc k) (enc k) = true) : KeyOk P kt enc where
  check := hc
  bits := hb
  find w k es m h := by
    have ask : ∀ (es : List MapEntry) (m : GM κ) (i : Nat), es.map entG = m.map (gmP enc) → (Instr.findAsking kt (enc k) es i).run P w = .ok (m.idx k i) w := by
      intro es
      induction es with
      | nil =>
        intro m i h
        have : m = [] := by cases m with | nil => rfl | cons a r => simp at h
        subst this; rfl
      | cons e es ih =>
        intro m i h
        cases m with
        | nil => simp at h
        | cons p r =>
          obtain ⟨s, v⟩ := p
          simp only [List.map_cons, List.cons.injEq] at h
          obtain ⟨h1, h2⟩ := h
          simp only [entG, gmP, Prod.mk.injEq] at h1
          obtain ⟨h3, h4⟩ := h1
          unfold Instr.findAsking GM.idx
          rw [h3]
          by_cases hk : k = s
          · simp [heq, hk, h4]
          · simp [heq, hk, ih r (i + 1) h2]
    unfold Instr.findKey
    cases es with
    | nil =>
      have : m = [] := by cases m with | nil => rfl | cons a r => simp at h
      subst this
      simp [und_ok hu, Instr.findNow, GM.idx]
    | cons e es =>
      cases m with
      | nil => simp at h
      | cons p r =>
        have h1 := h
        simp only [List.map_cons, List.cons.injEq] at h1
        have h3 : e.key = enc p.1 := by have := h1.1; simp only [entG, gmP, Prod.mk.injEq] at this; exact this.1
        have : Instr.findNow u (enc k) (e :: es) 0 = none := by unfold Instr.findNow; rw [h3, hn]
        simp [und_ok hu, this, ask (e :: es) (p :: r) 0 h]
end
end Go.Vc
