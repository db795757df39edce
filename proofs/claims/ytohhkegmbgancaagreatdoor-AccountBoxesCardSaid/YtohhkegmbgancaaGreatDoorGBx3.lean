/- Helper text of this claim: Bx3, Bx4: lemmas and contracts that the proved statement rests on; no conditions of its own. -/
import Derived.Test.YtohhkegmbgancaaGreatDoorGCt0
namespace Go.Cs
open Go.Lib
set_option linter.unusedVariables false
set_option linter.unusedSectionVars false
/-! ### Depth, as a relation -/
def Dep (l : List Bx) : Nat → Int → Prop
  | 0, id => id = 0
  | d + 1, id => id ≠ 0 ∧ ∃ u, upOf l id = some u ∧ Dep l d u
theorem dep_iff (l : List Bx) : ∀ (n d : Nat) (id : Int), dep l n id = some d ↔ Dep l d id ∧ d ≤ n
  | 0, 0, id => by unfold dep Dep; by_cases h : id = 0 <;> simp [h]
  | 0, d + 1, id => by unfold dep; by_cases h : id = 0 <;> simp [h]
  | n + 1, 0, id => by
    unfold dep Dep
    by_cases h : id = 0
    · simp [h]
    · rw [if_neg h]
      constructor
      · intro e
        cases hu : upOf l id with
        | none => rw [hu] at e; cases e
        | some u =>
          rw [hu] at e
          dsimp only at e
          cases hd : dep l n u with
          | none => rw [hd] at e; cases e
          | some x => rw [hd] at e; simp at e
      · intro e; exact absurd e.1 h
  | n + 1, d + 1, id => by
    unfold dep Dep
    by_cases h : id = 0
    · simp [h]
    · rw [if_neg h]
      constructor
      · intro e
        cases hu : upOf l id with
        | none => rw [hu] at e; cases e
        | some u =>
          rw [hu] at e
          dsimp only at e
          cases hd : dep l n u with
          | none => rw [hd] at e; cases e
          | some x =>
            rw [hd] at e
            simp at e
            subst e
            obtain ⟨h1, h2⟩ := (dep_iff l n x u).1 hd
            exact ⟨⟨h, u, rfl, h1⟩, by omega⟩
      · rintro ⟨⟨_, u, hu, h1⟩, h2⟩
        rw [hu]
        dsimp only
        rw [(dep_iff l n d u).2 ⟨h1, by omega⟩]; rfl
theorem Dep.inj {l : List Bx} : ∀ {d e : Nat} {id : Int}, Dep l d id → Dep l e id → d = e
  | 0, 0, id, _, _ => rfl
  | 0, e + 1, id, h, k => absurd h k.1
  | d + 1, 0, id, h, k => absurd k h.1
  | d + 1, e + 1, id, ⟨_, u, hu, h⟩, ⟨_, v, hv, k⟩ => by
    rw [hu] at hv
    obtain rfl := Option.some.inj hv
    rw [Dep.inj h k]
/-- The ids up the chain: all different, and of the list. -/
theorem Dep.len {l : List Bx} {d : Nat} {id : Int} (h : Dep l d id) : d ≤ l.length := by
  have key : ∀ (d : Nat) (id : Int), Dep l d id → ∃ c : List Int, c.length = d ∧ c.Nodup ∧ (∀ x ∈ c, x ∈ l.map (·.id)) ∧ ∀ x ∈ c, ∃ e, e ≤ d ∧ Dep l e x := by
    intro d
    induction d with
    | zero => intro id _; exact ⟨[], rfl, .nil, by simp, by simp⟩
    | succ d ih =>
      rintro id ⟨h0, u, hu, hd⟩
      obtain ⟨c, h1, h2, h3, h4⟩ := ih u hd
      obtain ⟨b, hb, hid, _⟩ := upOf_mem hu
      refine ⟨id :: c, by simp [h1], List.nodup_cons.2 ⟨fun hm => ?_, h2⟩, fun x hx => ?_, fun x hx => ?_⟩
      · obtain ⟨e, he, hde⟩ := h4 id hm
        have := Dep.inj hde (show Dep l (d + 1) id from ⟨h0, u, hu, hd⟩)
        omega
      · rcases List.mem_cons.1 hx with rfl | hx
        · exact List.mem_map.2 ⟨b, hb, hid⟩
        · exact h3 x hx
      · rcases List.mem_cons.1 hx with rfl | hx
        · exact ⟨d + 1, Nat.le_refl _, h0, u, hu, hd⟩
        · obtain ⟨e, he, hde⟩ := h4 x hx
          exact ⟨e, by omega, hde⟩
  obtain ⟨c, h1, h2, h3, _⟩ := key d id h
  have := nodup_len c (l.map (·.id)) h2 h3
  rw [List.length_map] at this
  omega
theorem RightP.dep {l : List Bx} (hr : RightP l) {b : Bx} (hb : b ∈ l) : ∃ d, Dep l d b.id ∧ d ≤ 8 := by
  obtain ⟨d, h1, h2⟩ := hr.deep b hb
  exact ⟨d, ((dep_iff _ _ _ _).1 h1).1, h2⟩
theorem deep_of {l : List Bx} {b : Bx} {d : Nat} (h : Dep l d b.id) (h8 : d ≤ 8) : ∃ d, Go.Cs.dep l l.length b.id = some d ∧ d ≤ 8 := ⟨d, (dep_iff _ _ _ _).2 ⟨h, h.len⟩, h8⟩
def dpt (l : List Bx) (id : Int) : Nat := (dep l l.length id).getD 0
theorem dpt_of {l : List Bx} {d : Nat} {id : Int} (h : Dep l d id) : dpt l id = d := by
  unfold dpt
  rw [(dep_iff _ _ _ _).2 ⟨h, h.len⟩]; rfl
/-! ### Descent -/
inductive Reach (l : List Bx) (b : Int) : Int → Prop
  | here : Reach l b b
  | up {id u : Int} : upOf l id = some u → Reach l b u → Reach l b id
def withinN (l : List Bx) : Nat → Int → Int → Bool
  | 0, id, b => decide (id = b)
  | n + 1, id, b => if id = 0 ∨ id = b then decide (id = b) else match upOf l id with
    | none => false
    | some u => withinN l n u b
def within (l : List Bx) (id b : Int) : Bool := withinN l l.length id b
theorem within_iff {l : List Bx} (hz : upOf l 0 = none) {b : Int} (hb : b ≠ 0) : ∀ (n d : Nat) (id : Int), Dep l d id → d ≤ n → (withinN l n id b = true ↔ Reach l b id)
  | 0, d, id, h, hn => by
    obtain rfl : d = 0 := by omega
    have : id = 0 := h
    subst this
    simp only [withinN, decide_eq_true_eq]
    constructor
    · intro e; exact absurd e.symm hb
    · intro e
      cases e with
      | here => rfl
      | up h _ => rw [hz] at h; cases h
  | n + 1, d, id, h, hn => by
    unfold withinN
    by_cases hc : id = 0 ∨ id = b
    · rw [if_pos hc, decide_eq_true_eq]
      constructor
      · rintro rfl; exact .here
      · intro e
        rcases hc with rfl | rfl
        · cases e with
          | here => rfl
          | up h _ => rw [hz] at h; cases h
        · rfl
    · rw [if_neg hc]
      cases d with
      | zero => exact absurd (.inl h) hc
      | succ d =>
        obtain ⟨h0, u, hu, hd⟩ := h
        rw [hu]
        dsimp only
        rw [within_iff hz hb n d u hd (by omega)]
        constructor
        · exact fun e => .up hu e
        · intro e
          cases e with
          | here => exact absurd (.inr rfl) hc
          | up h k => rw [hu] at h; rw [Option.some.inj h]; exact k
theorem within_of {l : List Bx} (hr : RightP l) {b id : Int} (hb : b ≠ 0) {d : Nat} (h : Dep l d id) : within l id b = true ↔ Reach l b id :=
  within_iff (by rw [boxOf_up, zero_no hr]; rfl) hb _ d id h h.len
/-! ### The operations -/
def hasId (l : List Bx) (id : Int) : Bool := l.any fun b => decide (b.id = id)
theorem hasId_iff (l : List Bx) (id : Int) : hasId l id = true ↔ ∃ b ∈ l, b.id = id := by unfold hasId; simp
def takenL (l : List Bx) (up : Int) (name : List UInt8) (but : Int) : Bool := l.any fun b => decide (b.up = up ∧ b.id ≠ but ∧ foldL b.name = foldL name)
theorem taken_iff (l : List Bx) (up : Int) (name : List UInt8) (but : Int) : takenL l up name but = false ↔ ∀ b ∈ l, b.up = up → b.id ≠ but → foldL b.name ≠ foldL name := by
  unfold takenL
  rw [List.any_eq_false]
  constructor
  · intro h b hb h1 h2 h3; exact h b hb (by simp [h1, h2, h3])
  · intro h b hb e
    simp only [decide_eq_true_eq] at e
    exact h b hb e.1 e.2.1 e.2.2
def belowL (l : List Bx) (id : Int) : Nat := l.foldl (fun m b => if within l b.id id then max m (dpt l b.id - dpt l id + 1) else m) 0
def idxL (l : List Bx) (id : Int) : Nat := (l.takeWhile fun b => decide (b.id < id)).length
def insL (l : List Bx) (b : Bx) : List Bx := l.take (idxL l b.id) ++ b :: l.drop (idxL l b.id)
def setName (l : List Bx) (id : Int) (nm : List UInt8) : List Bx := l.map fun b => if b.id = id then { b with name := nm } else b
def setUp (l : List Bx) (id up : Int) : List Bx := l.map fun b => if b.id = id then { b with up := up } else b
def delL (l : List Bx) (id : Int) : List Bx := l.filter fun b => decide (b.id ≠ id)
def addL (l : List Bx) (up : Int) (name role : List UInt8) (id : Int) : List Bx × Nat :=
  if ¬ (rightL l = true ∧ namedB name = true ∧ role ∈ rolesL) then ([], 1)
  else if id < 1 ∨ 1099511627776 < id then ([], 6)
  else if hasId l id = true ∨ role ≠ [] ∧ (l.any fun b => decide (b.role = role)) = true then ([], 4)
  else if 64 ≤ l.length then ([], 3)
  else if ¬ (up = 0 ∨ hasId l up = true) then ([], 5)
  else if 8 ≤ dpt l up then ([], 10)
  else if takenL l up name 0 = true then ([], 4)
  else (insL l ⟨id, up, name, role⟩, 0)
def nameL (l : List Bx) (id : Int) (name : List UInt8) : List Bx × Nat :=
  if ¬ rightL l = true then ([], 1)
  else match boxOf l id with
    | none => ([], 5)
    | some b => if ¬ namedB name = true then ([], 1)
      else if takenL l b.up name id = true then ([], 4)
      else (setName l id name, 0)
def moveL (l : List Bx) (id up : Int) : List Bx × Nat :=
  if ¬ rightL l = true then ([], 1)
  else match boxOf l id with
    | none => ([], 5)
    | some b => if ¬ (up = 0 ∨ hasId l up = true) then ([], 5)
      else if up ≠ 0 ∧ within l up id = true then ([], 11)
      else if 8 < dpt l up + belowL l id then ([], 10)
      else if takenL l up b.name id = true then ([], 4)
      else (setUp l id up, 0)
def dropL (l : List Bx) (id : Int) : List Bx × Nat :=
  if ¬ rightL l = true then ([], 1)
  else if ¬ hasId l id = true then ([], 5)
  else if (l.any fun b => decide (b.up = id)) = true then ([], 20)
  else (delL l id, 0)
/-! ### What they keep -/
theorem split_idx {l : List Bx} (h : l.Pairwise fun a b => a.id < b.id) (id : Int) : (∀ b ∈ l.take (idxL l id), b.id < id) ∧ (∀ b ∈ l.drop (idxL l id), id ≤ b.id) := by
  unfold idxL
  induction l with
  | nil => simp
  | cons a l ih =>
    obtain ⟨h1, h2⟩ := List.pairwise_cons.1 h
    by_cases ha : a.id < id
    · rw [List.takeWhile_cons_of_pos (by simpa using ha), List.length_cons, List.take_succ_cons, List.drop_succ_cons]
      refine ⟨fun b hb => ?_, (ih h2).2⟩
      rcases List.mem_cons.1 hb with rfl | hb
      · exact ha
      · exact (ih h2).1 b hb
    · rw [List.takeWhile_cons_of_neg (by simpa using ha)]
      refine ⟨by simp, fun b hb => ?_⟩
      rcases List.mem_cons.1 hb with rfl | hb
      · omega
      · have := h1 b hb; omega
theorem mem_ins {l : List Bx} {b c : Bx} : c ∈ insL l b ↔ c = b ∨ c ∈ l := by
  unfold insL
  conv => rhs; rw [← List.take_append_drop (idxL l b.id) l]
  simp only [List.mem_append, List.mem_cons]
  constructor
  · rintro (h | h | h)
    · exact .inr (.inl h)
    · exact .inl h
    · exact .inr (.inr h)
  · rintro (h | h | h)
    · exact .inr (.inl h)
    · exact .inl h
    · exact .inr (.inr h)
theorem ins_len (l : List Bx) (b : Bx) : (insL l b).length = l.length + 1 := by
  unfold insL
  rw [List.length_append, List.length_cons, List.length_take, List.length_drop]
  have : idxL l b.id ≤ l.length := (List.takeWhile_prefix _).length_le
  omega
theorem asc_ins {l : List Bx} (h : l.Pairwise fun a b => a.id < b.id) {b : Bx} (hb : ∀ c ∈ l, c.id ≠ b.id) : (insL l b).Pairwise fun a b => a.id < b.id := by
  obtain ⟨h1, h2⟩ := split_idx h b.id
  have h' := h
  rw [← List.take_append_drop (idxL l b.id) l, List.pairwise_append] at h'
  obtain ⟨p1, p2, p3⟩ := h'
  unfold insL
  rw [List.pairwise_append]
  refine ⟨p1, List.pairwise_cons.2 ⟨fun c hc => ?_, p2⟩, fun a ha c hc => ?_⟩
  · have := h2 c hc
    have := hb c (List.mem_of_mem_drop hc)
    omega
  · rcases List.mem_cons.1 hc with rfl | hc
    · exact h1 a ha
    · exact p3 a ha c hc
/-- A symmetric relation on an inserted element. -/
theorem pair_ins {l : List Bx} {b : Bx} {R : Bx → Bx → Prop} (h : l.Pairwise R) (h1 : ∀ c ∈ l, R c b) (h2 : ∀ c ∈ l, R b c) : (insL l b).Pairwise R := by
  rw [← List.take_append_drop (idxL l b.id) l, List.pairwise_append] at h
  obtain ⟨p1, p2, p3⟩ := h
  unfold insL
  rw [List.pairwise_append]
  refine ⟨p1, List.pairwise_cons.2 ⟨fun c hc => h2 c (List.mem_of_mem_drop hc), p2⟩, fun a ha c hc => ?_⟩
  rcases List.mem_cons.1 hc with rfl | hc
  · exact h1 a (List.mem_of_mem_take ha)
  · exact p3 a ha c hc
/-- Where the parents agree, so do the depths. -/
theorem Dep.congr {l l' : List Bx} (S : Int → Prop) (hS : ∀ id u, S id → upOf l id = some u → upOf l' id = some u ∧ S u) : ∀ (d : Nat) (id : Int), S id → Dep l d id → Dep l' d id
  | 0, id, _, h => h
  | d + 1, id, hs, ⟨h0, u, hu, h⟩ => ⟨h0, u, (hS id u hs hu).1, Dep.congr S hS d u (hS id u hs hu).2 h⟩
theorem upOf_eq {l : List Bx} (h : l.Pairwise fun a b => a.id < b.id) {id u : Int} : upOf l id = some u ↔ ∃ b ∈ l, b.id = id ∧ b.up = u := by
  constructor
  · exact upOf_mem
  · rintro ⟨b, hb, rfl, rfl⟩; exact upOf_of h hb
end Go.Cs

namespace Go.Cs
open Go.Lib
set_option linter.unusedVariables false
set_option linter.unusedSectionVars false
/-! ### Moving: depths -/
section
variable {l : List Bx} (hr : RightP l) {x : Bx} (hx : x ∈ l) {up : Int} (hup : up = 0 ∨ ∃ c ∈ l, c.id = up) (hn : ¬ Reach l x.id up)
include hr
theorem dep_up (hup : up = 0 ∨ ∃ c ∈ l, c.id = up) : Dep l (dpt l up) up ∧ dpt l up ≤ 8 := by
  rcases hup with rfl | ⟨c, hc, rfl⟩
  · have : Dep l 0 0 := rfl
    rw [dpt_of this]; exact ⟨this, Nat.zero_le _⟩
  · obtain ⟨d, h, h8⟩ := hr.dep hc
    rw [dpt_of h]; exact ⟨h, h8⟩
theorem setUp_asc (id up : Int) : (setUp l id up).Pairwise fun a b => a.id < b.id := by
  unfold setUp
  rw [List.pairwise_map]
  refine hr.asc.imp fun {a b} h => ?_
  have e : ∀ c : Bx, (if c.id = id then { c with up := up } else c).id = c.id := fun c => by split <;> rfl
  rw [e, e]; exact h
theorem mem_setUp {id up : Int} {c : Bx} : c ∈ setUp l id up ↔ ∃ b ∈ l, c = if b.id = id then { b with up := up } else b := by
  unfold setUp
  rw [List.mem_map]
  exact ⟨fun ⟨b, h1, h2⟩ => ⟨b, h1, h2.symm⟩, fun ⟨b, h1, h2⟩ => ⟨b, h1, h2.symm⟩⟩
include hx
theorem upOf_setUp_same : upOf (setUp l x.id up) x.id = some up := by
  rw [upOf_eq (setUp_asc hr _ _)]
  exact ⟨{ x with up := up }, (mem_setUp hr).2 ⟨x, hx, by rw [if_pos rfl]⟩, rfl, rfl⟩
omit hx in
theorem upOf_setUp_ne {id y u : Int} (hy : y ≠ id) : upOf (setUp l id up) y = some u ↔ upOf l y = some u := by
  rw [upOf_eq (setUp_asc hr _ _), upOf_eq hr.asc]
  constructor
  · rintro ⟨b, hb, rfl, rfl⟩
    obtain ⟨c, hc, rfl⟩ := (mem_setUp hr).1 hb
    by_cases e : c.id = id
    · rw [if_pos e] at hy; exact absurd e hy
    · rw [if_neg e]; exact ⟨c, hc, rfl, rfl⟩
  · rintro ⟨b, hb, rfl, rfl⟩
    exact ⟨b, (mem_setUp hr).2 ⟨b, hb, by rw [if_neg hy]⟩, rfl, rfl⟩
omit hx in
theorem dep_out {id : Int} : ∀ (d : Nat) (y : Int), ¬ Reach l id y → Dep l d y → Dep (setUp l id up) d y
  | 0, y, _, h => h
  | d + 1, y, hy, ⟨h0, u, hu, h⟩ => ⟨h0, u, (upOf_setUp_ne hr (fun e => hy (by rw [e]; exact .here))).2 hu, dep_out d u (fun e => hy (.up hu e)) h⟩
theorem dep_in {di du : Nat} (hi : Dep l di x.id) (hu : Dep l du up) (hn : ¬ Reach l x.id up) : ∀ (d : Nat) (y : Int), Reach l x.id y → Dep l d y → di ≤ d ∧ Dep (setUp l x.id up) (d - di + du + 1) y
  | 0, y, hy, h => by
    have h0 : y = 0 := h
    cases hy with
    | here => exact absurd (hr.pos x hx).1 (by omega)
    | up e _ => rw [h0, boxOf_up, zero_no hr] at e; cases e
  | d + 1, y, hy, ⟨h0, u, hu2, h⟩ => by
    by_cases e : y = x.id
    · subst e
      have := Dep.inj hi (show Dep l (d + 1) x.id from ⟨h0, u, hu2, h⟩)
      refine ⟨by omega, ?_⟩
      rw [show d + 1 - di + du + 1 = du + 1 by omega]
      exact ⟨h0, up, upOf_setUp_same hr hx, dep_out hr _ _ hn hu⟩
    · cases hy with
      | here => exact absurd rfl e
      | up k hk =>
        rw [k] at hu2
        obtain rfl := Option.some.inj hu2
        obtain ⟨g1, g2⟩ := dep_in hi hu hn d _ hk h
        refine ⟨by omega, ?_⟩
        rw [show d + 1 - di + du + 1 = (d - di + du + 1) + 1 by omega]
        exact ⟨h0, _, (upOf_setUp_ne hr e).2 k, g2⟩
include hup hn
/-- The depth of each box after the move. -/
theorem dep_moved {y : Bx} (hy : y ∈ l) : ∃ d, Dep (setUp l x.id up) d y.id ∧ (within l y.id x.id = true → dpt l x.id ≤ dpt l y.id ∧ d = dpt l y.id - dpt l x.id + dpt l up + 1) ∧ (¬ within l y.id x.id = true → d ≤ 8) := by
  have hx0 : x.id ≠ 0 := by have := (hr.pos x hx).1; omega
  obtain ⟨dy, h1, h2⟩ := hr.dep hy
  obtain ⟨dx, h3, h4⟩ := hr.dep hx
  obtain ⟨h5, h6⟩ := dep_up hr hup
  have hw := within_of hr hx0 h1
  by_cases hc : Reach l x.id y.id
  · obtain ⟨g1, g2⟩ := dep_in hr hx h3 h5 hn dy y.id hc h1
    refine ⟨_, g2, fun _ => ?_, fun h => absurd (hw.2 hc) h⟩
    rw [dpt_of h1, dpt_of h3]
    exact ⟨g1, rfl⟩
  · exact ⟨dy, dep_out hr dy y.id hc h1, fun h => absurd (hw.1 h) hc, fun _ => h2⟩
omit hr hx hup hn in
theorem below_le (f : Bx → Bool) (g : Bx → Nat) (N : Nat) : ∀ (l : List Bx) (m : Nat), l.foldl (fun m b => if f b then max m (g b) else m) m ≤ N ↔ m ≤ N ∧ ∀ b ∈ l, f b = true → g b ≤ N
  | [], m => by simp
  | b :: l, m => by
    rw [List.foldl_cons, below_le f g N l]
    constructor
    · rintro ⟨h1, h2⟩
      split at h1
      · rename_i hf
        refine ⟨by omega, fun c hc hf2 => ?_⟩
        rcases List.mem_cons.1 hc with rfl | hc
        · omega
        · exact h2 c hc hf2
      · rename_i hf
        refine ⟨h1, fun c hc hf2 => ?_⟩
        rcases List.mem_cons.1 hc with rfl | hc
        · exact absurd hf2 hf
        · exact h2 c hc hf2
    · rintro ⟨h1, h2⟩
      refine ⟨?_, fun c hc => h2 c (by simp [hc])⟩
      split
      · rename_i hf
        have := h2 b (by simp) hf
        omega
      · exact h1
theorem move_deep : dpt l up + belowL l x.id ≤ 8 ↔ ∀ b ∈ setUp l x.id up, ∃ d, Dep (setUp l x.id up) d b.id ∧ d ≤ 8 := by
  have hidem : ∀ b ∈ setUp l x.id up, ∃ y ∈ l, y.id = b.id := fun b hb => by
    obtain ⟨y, hy, rfl⟩ := (mem_setUp hr).1 hb
    exact ⟨y, hy, by split <;> rfl⟩
  have h8 := (dep_up hr hup).2
  have hb := below_le (fun b => within l b.id x.id) (fun b => dpt l b.id - dpt l x.id + 1) (8 - dpt l up) l 0
  have hbb : belowL l x.id ≤ 8 - dpt l up ↔ dpt l up + belowL l x.id ≤ 8 := by omega
  rw [← hbb]
  refine hb.trans ⟨?_, ?_⟩
  · rintro ⟨_, h⟩ b hb2
    obtain ⟨y, hy, he⟩ := hidem b hb2
    obtain ⟨d, g1, g2, g3⟩ := dep_moved hr hx hup hn hy
    rw [he] at g1
    refine ⟨d, g1, ?_⟩
    by_cases hw : within l y.id x.id = true
    · have := h y hy hw
      have := (g2 hw).2
      omega
    · exact g3 hw
  · intro h
    refine ⟨Nat.zero_le _, fun y hy hw => ?_⟩
    obtain ⟨d, g1, g2, g3⟩ := dep_moved hr hx hup hn hy
    have hb3 : (if y.id = x.id then { y with up := up } else y) ∈ setUp l x.id up := (mem_setUp hr).2 ⟨y, hy, rfl⟩
    obtain ⟨e, h1, h2⟩ := h _ hb3
    rw [show (if y.id = x.id then { y with up := up } else y : Bx).id = y.id by split <;> rfl] at h1
    have := Dep.inj g1 h1
    have := (g2 hw).2
    omega
end
/-! ### Each operation leaves a valid hierarchy -/
theorem right_add {l : List Bx} (hr : RightP l) {b : Bx} (h1 : namedB b.name = true) (h2 : b.role ∈ rolesL) (h3 : 1 ≤ b.id ∧ b.id ≤ 1099511627776) (h4 : ∀ c ∈ l, c.id ≠ b.id) (h5 : b.role ≠ [] → ∀ c ∈ l, c.role ≠ b.role) (h6 : l.length < 64)
    (h7 : b.up = 0 ∨ ∃ c ∈ l, c.id = b.up) (h8 : dpt l b.up < 8) (h9 : takenL l b.up b.name 0 = false) : RightP (insL l b) := by
  have ht := (taken_iff _ _ _ _).1 h9
  have hasc := asc_ins hr.asc h4
  have hc : ∀ d id, (id = 0 ∨ ∃ c ∈ l, c.id = id) → Dep l d id → Dep (insL l b) d id := fun d id => Dep.congr (fun id => id = 0 ∨ ∃ c ∈ l, c.id = id) (fun id u hs hu => by
    obtain ⟨c, hc, rfl, rfl⟩ := upOf_mem hu
    exact ⟨(upOf_eq hasc).2 ⟨c, mem_ins.2 (.inr hc), rfl, rfl⟩, up_cases hr hc⟩) d id
  have mem : ∀ {p : Bx → Prop}, p b → (∀ c ∈ l, p c) → ∀ c ∈ insL l b, p c := fun hb hl c hc => by
    rcases mem_ins.1 hc with rfl | hc
    · exact hb
    · exact hl c hc
  refine ⟨by rw [ins_len]; omega, mem h3 hr.pos, hasc, mem h1 hr.named, mem h2 hr.roles, pair_ins hr.uniq (fun c hc e => ?_) (fun c hc e => ?_), pair_ins hr.urole (fun c hc e => h5 e.1 c hc e.2) (fun c hc e => ?_), mem ?_ fun c hc2 => ?_⟩
  · exact ht c hc e.1 (by have := (hr.pos c hc).1; omega) e.2
  · exact ht c hc e.1.symm (by have := (hr.pos c hc).1; omega) e.2.symm
  · exact h5 (by rw [e.2]; exact e.1) c hc e.2.symm
  · obtain ⟨g1, _⟩ := dep_up hr h7
    exact deep_of (d := dpt l b.up + 1) ⟨by omega, b.up, (upOf_eq hasc).2 ⟨b, mem_ins.2 (.inl rfl), rfl, rfl⟩, hc _ _ h7 g1⟩ (by omega)
  · obtain ⟨d, g1, g2⟩ := hr.dep hc2
    exact deep_of (hc d _ (.inr ⟨c, hc2, rfl⟩) g1) g2
theorem right_name {l : List Bx} (hr : RightP l) {x : Bx} (hx : x ∈ l) {nm : List UInt8} (h1 : namedB nm = true) (h2 : takenL l x.up nm x.id = false) : RightP (setName l x.id nm) := by
  have ht := (taken_iff _ _ _ _).1 h2
  have hid : ∀ c : Bx, (if c.id = x.id then { c with name := nm } else c).id = c.id := fun c => by split <;> rfl
  have hupc : ∀ c : Bx, (if c.id = x.id then { c with name := nm } else c).up = c.up := fun c => by split <;> rfl
  have hrole : ∀ c : Bx, (if c.id = x.id then { c with name := nm } else c).role = c.role := fun c => by split <;> rfl
  have hasc : (setName l x.id nm).Pairwise fun a b => a.id < b.id := by
    unfold setName
    rw [List.pairwise_map]
    exact hr.asc.imp fun {a b} h => by rw [hid, hid]; exact h
  have mem : ∀ {p : Bx → Prop}, (∀ c ∈ l, p (if c.id = x.id then { c with name := nm } else c)) → ∀ c ∈ setName l x.id nm, p c := fun h c hc => by
    obtain ⟨b, hb, rfl⟩ := List.mem_map.1 hc
    exact h b hb
  have hup : ∀ id u, upOf l id = some u → upOf (setName l x.id nm) id = some u := fun id u h => by
    obtain ⟨c, hc, rfl, rfl⟩ := upOf_mem h
    exact (upOf_eq hasc).2 ⟨_, List.mem_map.2 ⟨c, hc, rfl⟩, hid c, hupc c⟩
  refine ⟨by unfold setName; rw [List.length_map]; exact hr.len, mem fun c hc => by rw [hid]; exact hr.pos c hc, hasc, mem fun c hc => ?_, mem fun c hc => by rw [hrole]; exact hr.roles c hc, ?_, ?_, mem fun c hc => ?_⟩
  · split
    · exact h1
    · exact hr.named c hc
  · unfold setName
    rw [List.pairwise_map]
    refine (hr.asc.and hr.uniq).imp_of_mem fun {a b} ha hb h e => ?_
    obtain ⟨g1, g2⟩ := h
    rw [hupc, hupc] at e
    by_cases ea : a.id = x.id
    · have := id_inj hr.asc ha hx ea
      subst this
      rw [if_pos rfl, if_neg (by omega)] at e
      exact ht b hb e.1.symm (by omega) e.2.symm
    · by_cases eb : b.id = x.id
      · have := id_inj hr.asc hb hx eb
        subst this
        rw [if_pos rfl, if_neg (by omega)] at e
        exact ht a ha e.1 (by omega) e.2
      · rw [if_neg ea, if_neg eb] at e
        exact g2 e
  · unfold setName
    rw [List.pairwise_map]
    exact hr.urole.imp fun {a b} h => by rw [hrole, hrole]; exact h
  · obtain ⟨d, g1, g2⟩ := hr.dep hc
    rw [hid]
    exact deep_of (b := c) (Dep.congr (fun _ => True) (fun id u _ hu => ⟨hup id u hu, trivial⟩) d _ trivial g1) g2
theorem right_move {l : List Bx} (hr : RightP l) {x : Bx} (hx : x ∈ l) {up : Int} (hup : up = 0 ∨ ∃ c ∈ l, c.id = up) (hn : ¬ Reach l x.id up) (h8 : dpt l up + belowL l x.id ≤ 8) (h2 : takenL l up x.name x.id = false) : RightP (setUp l x.id up) := by
  have ht := (taken_iff _ _ _ _).1 h2
  have hid : ∀ c : Bx, (if c.id = x.id then { c with up := up } else c).id = c.id := fun c => by split <;> rfl
  have hname : ∀ c : Bx, (if c.id = x.id then { c with up := up } else c).name = c.name := fun c => by split <;> rfl
  have hrole : ∀ c : Bx, (if c.id = x.id then { c with up := up } else c).role = c.role := fun c => by split <;> rfl
  have mem : ∀ {p : Bx → Prop}, (∀ c ∈ l, p (if c.id = x.id then { c with up := up } else c)) → ∀ c ∈ setUp l x.id up, p c := fun h c hc => by
    obtain ⟨b, hb, rfl⟩ := List.mem_map.1 hc
    exact h b hb
  refine ⟨by unfold setUp; rw [List.length_map]; exact hr.len, mem fun c hc => by rw [hid]; exact hr.pos c hc, setUp_asc hr _ _, mem fun c hc => by rw [hname]; exact hr.named c hc, mem fun c hc => by rw [hrole]; exact hr.roles c hc, ?_, ?_, fun b hb => ?_⟩
  · unfold setUp
    rw [List.pairwise_map]
    refine (hr.asc.and hr.uniq).imp_of_mem fun {a b} ha hb h e => ?_
    obtain ⟨g1, g2⟩ := h
    rw [hname, hname] at e
    by_cases ea : a.id = x.id
    · have := id_inj hr.asc ha hx ea
      subst this
      rw [if_pos rfl, if_neg (by omega)] at e
      exact ht b hb e.1.symm (by omega) e.2.symm
    · by_cases eb : b.id = x.id
      · have := id_inj hr.asc hb hx eb
        subst this
        rw [if_pos rfl, if_neg (by omega)] at e
        exact ht a ha e.1 (by omega) e.2
      · rw [if_neg ea, if_neg eb] at e
        exact g2 e
  · unfold setUp
    rw [List.pairwise_map]
    exact hr.urole.imp fun {a b} h => by rw [hrole, hrole]; exact h
  · obtain ⟨d, g1, g2⟩ := (move_deep hr hx hup hn).1 h8 b hb
    exact deep_of g1 g2
theorem right_drop {l : List Bx} (hr : RightP l) {id : Int} (h : ∀ b ∈ l, b.up ≠ id) : RightP (delL l id) := by
  have hsub : (delL l id).Sublist l := List.filter_sublist
  have hm : ∀ {c : Bx}, c ∈ delL l id ↔ c ∈ l ∧ c.id ≠ id := by
    intro c
    unfold delL
    rw [List.mem_filter, decide_eq_true_eq]
  have hasc := hr.asc.sublist hsub
  refine ⟨Nat.le_trans hsub.length_le hr.len, fun b hb => hr.pos b (hsub.mem hb), hasc, fun b hb => hr.named b (hsub.mem hb), fun b hb => hr.roles b (hsub.mem hb), hr.uniq.sublist hsub, hr.urole.sublist hsub, fun b hb => ?_⟩
  obtain ⟨d, g1, g2⟩ := hr.dep (hsub.mem hb)
  refine deep_of (Dep.congr (fun i => i = 0 ∨ ∃ c ∈ delL l id, c.id = i) (fun i u hs hu => ?_) d _ (.inr ⟨b, hb, rfl⟩) g1) g2
  obtain ⟨c, hc, rfl, rfl⟩ := upOf_mem hu
  have hci : c ∈ delL l id := by
    rcases hs with hs | ⟨e, he, hs⟩
    · have := (hr.pos c hc).1; omega
    · rw [← id_inj hr.asc (hsub.mem he) hc hs]; exact he
  refine ⟨(upOf_eq hasc).2 ⟨c, hci, rfl, rfl⟩, ?_⟩
  rcases up_cases hr hc with h0 | ⟨e, he, h0⟩
  · exact .inl h0
  · exact .inr ⟨e, hm.2 ⟨he, fun e2 => h c hc (by omega)⟩, h0⟩
end Go.Cs
