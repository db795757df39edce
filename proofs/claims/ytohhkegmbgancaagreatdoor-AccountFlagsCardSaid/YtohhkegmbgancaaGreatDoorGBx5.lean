/- Helper text of this claim: Bx5, Bx6, Bx7, Ax0: lemmas and contracts that the proved statement rests on; no conditions of its own. -/
import Derived.Test.YtohhkegmbgancaaGreatDoorGBx3
import Derived.Lib.SlicesCompact
namespace Go.Cs
open Go.Lib
set_option linter.unusedVariables false
set_option linter.unusedSectionVars false
/-! ### Sorted lists are told by their members -/
theorem asc_ext : ∀ {a b : List Bx}, (a.Pairwise fun x y => x.id < y.id) → (b.Pairwise fun x y => x.id < y.id) → (∀ c, c ∈ a ↔ c ∈ b) → a = b
  | [], [], _, _, _ => rfl
  | [], y :: s, _, _, h => absurd ((h y).2 (by simp)) (by simp)
  | x :: r, [], _, _, h => absurd ((h x).1 (by simp)) (by simp)
  | x :: r, y :: s, ha, hb, h => by
    obtain ⟨a1, a2⟩ := List.pairwise_cons.1 ha
    obtain ⟨b1, b2⟩ := List.pairwise_cons.1 hb
    have hxy : x = y := by
      rcases List.mem_cons.1 ((h x).1 (by simp)) with e | e
      · exact e
      · rcases List.mem_cons.1 ((h y).2 (by simp)) with k | k
        · exact k.symm
        · have := b1 x e; have := a1 y k; omega
    subst hxy
    congr 1
    refine asc_ext a2 b2 fun c => ?_
    have := h c
    simp only [List.mem_cons] at this
    constructor
    · intro hc
      rcases this.1 (.inr hc) with rfl | k
      · have := a1 c hc; omega
      · exact k
    · intro hc
      rcases this.2 (.inr hc) with rfl | k
      · have := b1 c hc; omega
      · exact k
theorem mem_del {l : List Bx} {id : Int} {c : Bx} : c ∈ delL l id ↔ c ∈ l ∧ c.id ≠ id := by
  unfold delL
  rw [List.mem_filter, decide_eq_true_eq]
theorem asc_del {l : List Bx} (h : l.Pairwise fun a b => a.id < b.id) (id : Int) : (delL l id).Pairwise fun a b => a.id < b.id := h.sublist List.filter_sublist
theorem del_ins {l : List Bx} (h : l.Pairwise fun a b => a.id < b.id) {b : Bx} (hb : ∀ c ∈ l, c.id ≠ b.id) : delL (insL l b) b.id = l :=
  asc_ext (asc_del (asc_ins h hb) _) h fun c => by
    rw [mem_del, mem_ins]
    constructor
    · rintro ⟨rfl | h1, h2⟩
      · exact absurd rfl h2
      · exact h1
    · exact fun h1 => ⟨.inr h1, hb c h1⟩
theorem set_name_back {l : List Bx} (h : l.Pairwise fun a b => a.id < b.id) {x : Bx} (hx : x ∈ l) (nm : List UInt8) : setName (setName l x.id nm) x.id x.name = l := by
  unfold setName
  rw [List.map_map]
  conv => rhs; rw [← List.map_id l]
  refine List.map_congr_left fun b hb => ?_
  simp only [Function.comp]
  by_cases e : b.id = x.id
  · have := id_inj h hb hx e
    subst this
    simp
  · simp [e]
theorem set_up_back {l : List Bx} (h : l.Pairwise fun a b => a.id < b.id) {x : Bx} (hx : x ∈ l) (up : Int) : setUp (setUp l x.id up) x.id x.up = l := by
  unfold setUp
  rw [List.map_map]
  conv => rhs; rw [← List.map_id l]
  refine List.map_congr_left fun b hb => ?_
  simp only [Function.comp]
  by_cases e : b.id = x.id
  · have := id_inj h hb hx e
    subst this
    simp
  · simp [e]
/-! ### Descent and depth -/
theorem Reach.dep {l : List Bx} (hz : upOf l 0 = none) {b y : Int} (h : Reach l b y) : ∀ {d : Nat}, Dep l d y → ∃ e, e ≤ d ∧ Dep l e b := by
  induction h with
  | here => intro d hd; exact ⟨d, Nat.le_refl _, hd⟩
  | @up id u hu _ ih =>
    intro d hd
    cases d with
    | zero =>
      have h0 : id = 0 := hd
      rw [h0, hz] at hu; cases hu
    | succ d =>
      obtain ⟨h0, v, hv, hd⟩ := hd
      rw [hu] at hv
      obtain rfl := Option.some.inj hv
      obtain ⟨e, h1, h2⟩ := ih hd
      exact ⟨e, by omega, h2⟩
theorem RightP.zero {l : List Bx} (hr : RightP l) : upOf l 0 = none := by rw [boxOf_up, zero_no hr]; rfl
theorem reach_back {l : List Bx} (hr : RightP l) {x up y : Int} (h : Reach (setUp l x up) x y) : Reach l x y := by
  induction h with
  | here => exact .here
  | @up id u hu _ ih =>
    by_cases e : id = x
    · rw [e]; exact .here
    · exact .up ((upOf_setUp_ne hr e).1 hu) ih
theorem no_reach_up {l : List Bx} (hr : RightP l) {x : Bx} (hx : x ∈ l) : ¬ Reach l x.id x.up := fun h => by
  obtain ⟨d, h1, h2, h3, h4⟩ := deep_box hr hx
  obtain ⟨e, g1, g2⟩ := h.dep hr.zero ((dep_iff _ _ _ _).1 h4).1
  have := Dep.inj g2 ((dep_iff _ _ _ _).1 h3).1
  omega
structure AddOk (l : List Bx) (b : Bx) : Prop where
  name : namedB b.name = true
  role : b.role ∈ rolesL
  id : 1 ≤ b.id ∧ b.id ≤ 1099511627776
  new : ∀ c ∈ l, c.id ≠ b.id
  once : b.role ≠ [] → ∀ c ∈ l, c.role ≠ b.role
  len : l.length < 64
  up : b.up = 0 ∨ ∃ c ∈ l, c.id = b.up
  deep : dpt l b.up < 8
  free : takenL l b.up b.name 0 = false
theorem add_iff {l : List Bx} (up : Int) (name role : List UInt8) (id : Int) : (addL l up name role id).2 = 0 ↔ RightP l ∧ AddOk l ⟨id, up, name, role⟩ := by
  unfold addL
  rw [← rightL_iff]
  by_cases h1 : rightL l = true ∧ namedB name = true ∧ role ∈ rolesL
  · rw [if_neg (by simpa using h1)]
    by_cases h2 : id < 1 ∨ 1099511627776 < id
    · rw [if_pos h2]
      exact ⟨fun e => (by cases e), fun e => by have := e.2.id; dsimp only at this; omega⟩
    · rw [if_neg h2]
      by_cases h3 : hasId l id = true ∨ role ≠ [] ∧ (l.any fun b => decide (b.role = role)) = true
      · rw [if_pos h3]
        refine ⟨fun e => (by cases e), fun e => ?_⟩
        rcases h3 with h3 | ⟨h3, h4⟩
        · obtain ⟨c, hc, he⟩ := (hasId_iff _ _).1 h3
          exact absurd he (e.2.new c hc)
        · obtain ⟨c, hc, he⟩ := List.any_eq_true.1 h4
          exact absurd (by simpa using he) (e.2.once h3 c hc)
      · rw [if_neg h3]
        by_cases h5 : 64 ≤ l.length
        · rw [if_pos h5]
          exact ⟨fun e => (by cases e), fun e => by have := e.2.len; omega⟩
        · rw [if_neg h5]
          by_cases h6 : up = 0 ∨ hasId l up = true
          · rw [if_neg (fun hn => hn h6)]
            by_cases h7 : 8 ≤ dpt l up
            · rw [if_pos h7]
              exact ⟨fun e => (by cases e), fun e => by have := e.2.deep; dsimp only at this; omega⟩
            · rw [if_neg h7]
              by_cases h8 : takenL l up name 0 = true
              · rw [if_pos h8]
                exact ⟨fun e => (by cases e), fun e => by have := e.2.free; dsimp only at this; rw [h8] at this; cases this⟩
              · rw [if_neg h8]
                refine ⟨fun _ => ⟨h1.1, h1.2.1, h1.2.2, ?_, ?_, ?_, by omega, ?_, ?_, by simpa using h8⟩, fun _ => rfl⟩
                · dsimp only; omega
                · intro c hc e; exact h3 (.inl ((hasId_iff _ _).2 ⟨c, hc, e⟩))
                · intro hne c hc e; exact h3 (.inr ⟨hne, List.any_eq_true.2 ⟨c, hc, by simpa using e⟩⟩)
                · dsimp only; rw [← hasId_iff]; exact h6
                · dsimp only; omega
          · rw [if_pos h6]
            refine ⟨fun e => (by cases e), fun e => ?_⟩
            have := e.2.up
            dsimp only at this
            rw [← hasId_iff] at this
            exact absurd this h6
  · rw [if_pos (by simpa using h1)]
    exact ⟨fun e => (by cases e), fun e => absurd ⟨e.1, e.2.name, e.2.role⟩ h1⟩
theorem add_res {l : List Bx} {up : Int} {name role : List UInt8} {id : Int} : (addL l up name role id).1 = if (addL l up name role id).2 = 0 then insL l ⟨id, up, name, role⟩ else [] := by
  unfold addL
  repeat' split
  all_goals first | rfl | contradiction
theorem name_iff {l : List Bx} (id : Int) (nm : List UInt8) : (nameL l id nm).2 = 0 ↔ RightP l ∧ ∃ x ∈ l, x.id = id ∧ namedB nm = true ∧ takenL l x.up nm id = false := by
  unfold nameL
  by_cases h1' : rightL l = true
  · have h1 := (rightL_iff l).1 h1'
    rw [if_neg (by simpa using h1')]
    cases hb : boxOf l id with
    | none => exact ⟨fun e => (by cases e), fun ⟨_, x, hx, he, _⟩ => absurd he (boxOf_none.1 hb x hx)⟩
    | some b =>
      obtain ⟨hm, rfl⟩ := boxOf_mem hb
      dsimp only
      by_cases h2 : namedB nm = true
      · rw [if_neg (by simpa using h2)]
        by_cases h3 : takenL l b.up nm b.id = true
        · rw [if_pos h3]
          refine ⟨fun e => (by cases e), fun ⟨_, x, hx, he, _, h⟩ => ?_⟩
          rw [id_inj h1.asc hx hm he] at h
          rw [h3] at h; cases h
        · rw [if_neg h3]
          exact ⟨fun _ => ⟨h1, b, hm, rfl, h2, by simpa using h3⟩, fun _ => rfl⟩
      · rw [if_pos (by simpa using h2)]
        exact ⟨fun e => (by cases e), fun ⟨_, x, hx, he, h, _⟩ => absurd h h2⟩
  · rw [if_pos (by simpa using h1')]
    exact ⟨fun e => (by cases e), fun e => absurd ((rightL_iff l).2 e.1) h1'⟩
theorem name_res {l : List Bx} {id : Int} {nm : List UInt8} : (nameL l id nm).1 = if (nameL l id nm).2 = 0 then setName l id nm else [] := by
  unfold nameL
  repeat' split
  all_goals first | rfl | contradiction
structure MoveOk (l : List Bx) (x : Bx) (up : Int) : Prop where
  par : up = 0 ∨ ∃ c ∈ l, c.id = up
  loop : ¬ Reach l x.id up
  deep : dpt l up + belowL l x.id ≤ 8
  free : takenL l up x.name x.id = false
theorem within_up {l : List Bx} (hr : RightP l) {x : Bx} (hx : x ∈ l) {up : Int} (hup : up = 0 ∨ ∃ c ∈ l, c.id = up) : (up ≠ 0 ∧ within l up x.id = true) ↔ Reach l x.id up := by
  have hx0 : x.id ≠ 0 := by have := (hr.pos x hx).1; omega
  rcases hup with rfl | ⟨c, hc, rfl⟩
  · constructor
    · exact fun h => absurd rfl h.1
    · intro h
      generalize hz : (0 : Int) = z at h
      cases h with
      | here => exact absurd hz.symm hx0
      | up e _ => rw [← hz, hr.zero] at e; cases e
  · obtain ⟨d, hd, _⟩ := hr.dep hc
    rw [within_of hr hx0 hd]
    have : c.id ≠ 0 := by have := (hr.pos c hc).1; omega
    exact ⟨fun h => h.2, fun h => ⟨this, h⟩⟩
theorem move_iff {l : List Bx} (id up : Int) : (moveL l id up).2 = 0 ↔ RightP l ∧ ∃ x ∈ l, x.id = id ∧ MoveOk l x up := by
  unfold moveL
  by_cases h1' : rightL l = true
  · have h1 := (rightL_iff l).1 h1'
    rw [if_neg (by simpa using h1')]
    cases hb : boxOf l id with
    | none => exact ⟨fun e => (by cases e), fun ⟨_, x, hx, he, _⟩ => absurd he (boxOf_none.1 hb x hx)⟩
    | some b =>
      obtain ⟨hm, rfl⟩ := boxOf_mem hb
      dsimp only
      have back : ∀ {p : Prop}, (MoveOk l b up → p) → (RightP l ∧ ∃ x ∈ l, x.id = b.id ∧ MoveOk l x up) → p := fun hp ⟨_, x, hx, he, h⟩ => by
        rw [id_inj h1.asc hx hm he] at h
        exact hp h
      by_cases h2 : up = 0 ∨ hasId l up = true
      · rw [if_neg (fun hn => hn h2)]
        have h2' : up = 0 ∨ ∃ c ∈ l, c.id = up := by rwa [hasId_iff] at h2
        by_cases h3 : up ≠ 0 ∧ within l up b.id = true
        · rw [if_pos h3]
          exact ⟨fun e => (by cases e), back fun h => absurd ((within_up h1 hm h2').1 h3) h.loop⟩
        · rw [if_neg h3]
          by_cases h4 : 8 < dpt l up + belowL l b.id
          · rw [if_pos h4]
            exact ⟨fun e => (by cases e), back fun h => by have := h.deep; omega⟩
          · rw [if_neg h4]
            by_cases h5 : takenL l up b.name b.id = true
            · rw [if_pos h5]
              exact ⟨fun e => (by cases e), back fun h => by have := h.free; rw [h5] at this; cases this⟩
            · rw [if_neg h5]
              exact ⟨fun _ => ⟨h1, b, hm, rfl, h2', fun e => h3 ((within_up h1 hm h2').2 e), by omega, by simpa using h5⟩, fun _ => rfl⟩
      · rw [if_pos h2]
        exact ⟨fun e => (by cases e), back fun h => absurd (by rw [hasId_iff]; exact h.par) h2⟩
  · rw [if_pos (by simpa using h1')]
    exact ⟨fun e => (by cases e), fun e => absurd ((rightL_iff l).2 e.1) h1'⟩
theorem move_res {l : List Bx} {id up : Int} : (moveL l id up).1 = if (moveL l id up).2 = 0 then setUp l id up else [] := by
  unfold moveL
  repeat' split
  all_goals first | rfl | contradiction
theorem drop_iff {l : List Bx} (id : Int) : (dropL l id).2 = 0 ↔ RightP l ∧ (∃ x ∈ l, x.id = id) ∧ ∀ b ∈ l, b.up ≠ id := by
  unfold dropL
  by_cases h1' : rightL l = true
  · have h1 := (rightL_iff l).1 h1'
    rw [if_neg (by simpa using h1')]
    by_cases h2 : hasId l id = true
    · rw [if_neg (by simpa using h2)]
      by_cases h3 : (l.any fun b => decide (b.up = id)) = true
      · rw [if_pos h3]
        obtain ⟨c, hc, he⟩ := List.any_eq_true.1 h3
        exact ⟨fun e => (by cases e), fun e => absurd (by simpa using he) (e.2.2 c hc)⟩
      · rw [if_neg h3]
        refine ⟨fun _ => ⟨h1, (hasId_iff _ _).1 h2, fun b hb e => h3 (List.any_eq_true.2 ⟨b, hb, by simpa using e⟩)⟩, fun _ => rfl⟩
    · rw [if_pos (by simpa using h2)]
      exact ⟨fun e => (by cases e), fun e => absurd ((hasId_iff _ _).2 e.2.1) h2⟩
  · rw [if_pos (by simpa using h1')]
    exact ⟨fun e => (by cases e), fun e => absurd ((rightL_iff l).2 e.1) h1'⟩
theorem drop_res {l : List Bx} {id : Int} : (dropL l id).1 = if (dropL l id).2 = 0 then delL l id else [] := by
  unfold dropL
  repeat' split
  all_goals first | rfl | contradiction
theorem pair_eq {α β : Type} {p : α × β} {a : α} {b : β} (h1 : p.1 = a) (h2 : p.2 = b) : p = (a, b) := by
  obtain ⟨x, y⟩ := p
  cases h1; cases h2; rfl
theorem back_add {l : List Bx} {b : Bx} (hr : RightP l) (h : AddOk l b) : RightP (insL l b) ∧ dropL (insL l b) b.id = (l, 0) := by
  have hm := right_add hr h.name h.role h.id h.new h.once h.len h.up h.deep h.free
  have h2 : (dropL (insL l b) b.id).2 = 0 := by
    rw [drop_iff]
    refine ⟨hm, ⟨b, mem_ins.2 (.inl rfl), rfl⟩, fun c hc e => ?_⟩
    have hb := h.id
    rcases mem_ins.1 hc with rfl | hc
    · rcases h.up with h0 | ⟨d, hd, he⟩
      · omega
      · exact h.new d hd (by omega)
    · rcases up_cases hr hc with h0 | ⟨d, hd, he⟩
      · omega
      · exact h.new d hd (by omega)
  refine ⟨hm, pair_eq ?_ h2⟩
  rw [drop_res, if_pos h2, del_ins hr.asc h.new]
theorem back_name {l : List Bx} {x : Bx} (hr : RightP l) (hx : x ∈ l) {nm : List UInt8} (h1 : namedB nm = true) (h2 : takenL l x.up nm x.id = false) : RightP (setName l x.id nm) ∧ nameL (setName l x.id nm) x.id x.name = (l, 0) := by
  have hm := right_name hr hx h1 h2
  have h3 : (nameL (setName l x.id nm) x.id x.name).2 = 0 := by
    rw [name_iff]
    refine ⟨hm, { x with name := nm }, List.mem_map.2 ⟨x, hx, by rw [if_pos rfl]⟩, rfl, hr.named x hx, (taken_iff _ _ _ _).2 fun b hb e1 e2 e3 => ?_⟩
    obtain ⟨c, hc, rfl⟩ := List.mem_map.1 hb
    by_cases e : c.id = x.id
    · rw [if_pos e] at e2; exact e2 e
    · rw [if_neg e] at e1 e2 e3
      exact e (by rw [uniq_eq hr hc hx e1 e3])
  refine ⟨hm, pair_eq ?_ h3⟩
  rw [name_res, if_pos h3, set_name_back hr.asc hx]
theorem back_move {l : List Bx} {x : Bx} (hr : RightP l) (hx : x ∈ l) {up : Int} (h : MoveOk l x up) : RightP (setUp l x.id up) ∧ moveL (setUp l x.id up) x.id x.up = (l, 0) := by
  have hm := right_move hr hx h.par h.loop h.deep h.free
  have hx' : { x with up := up } ∈ setUp l x.id up := (mem_setUp hr).2 ⟨x, hx, by rw [if_pos rfl]⟩
  have hup : x.up = 0 ∨ ∃ c ∈ setUp l x.id up, c.id = x.up := by
    rcases up_cases hr hx with h0 | ⟨c, hc, h0⟩
    · exact .inl h0
    · exact .inr ⟨_, (mem_setUp hr).2 ⟨c, hc, rfl⟩, by split <;> exact h0⟩
  have hno : ¬ Reach (setUp l x.id up) x.id x.up := fun e => no_reach_up hr hx (reach_back hr e)
  have h3 : (moveL (setUp l x.id up) x.id x.up).2 = 0 := by
    rw [move_iff]
    refine ⟨hm, { x with up := up }, hx', rfl, hup, hno, ?_, (taken_iff _ _ _ _).2 fun b hb e1 e2 e3 => ?_⟩
    · have := (move_deep hm hx' hup hno).2
      refine this ?_
      rw [show setUp (setUp l x.id up) ({ x with up := up } : Bx).id x.up = l from set_up_back hr.asc hx up]
      exact fun b hb => hr.dep hb
    · obtain ⟨c, hc, rfl⟩ := (mem_setUp hr).1 hb
      by_cases e : c.id = x.id
      · rw [if_pos e] at e2; exact e2 e
      · rw [if_neg e] at e1 e2 e3
        exact e (congrArg Bx.id (uniq_eq hr hc hx e1 e3))
  refine ⟨hm, pair_eq ?_ h3⟩
  rw [move_res, if_pos h3, set_up_back hr.asc hx]
end Go.Cs

namespace Go.Cs
open Go.Lib
set_option linter.unusedVariables false
set_option linter.unusedSectionVars false
section
end
/-! ### Paths after a move -/
section
end
end Go.Cs

namespace Go.Cs
open Go.Lib
set_option linter.unusedVariables false
set_option linter.unusedSectionVars false
end Go.Cs

namespace Go.Cs
open Go.Lib
set_option linter.unusedVariables false
/-! ### Accounts, plain -/
/-- A digest: its 32 cells. -/
structure Dg where
  (d0 d1 d2 d3 d4 d5 d6 d7 d8 d9 d10 d11 d12 d13 d14 d15 d16 d17 d18 d19 d20 d21 d22 d23 d24 d25 d26 d27 d28 d29 d30 d31 : Int)
deriving DecidableEq
structure Ml where
  id : Int
  blob : Dg
  boxes : List Int
  flags : List (List UInt8)
  at_ : Int
  size : Int
  mod : Int
deriving DecidableEq
structure Sc where
  name : List UInt8
  text : List UInt8
deriving DecidableEq
structure Sn where
  key : List UInt8
  at_ : Int
deriving DecidableEq
structure Acc where
  boxes : List Bx
  mails : List Ml
  scripts : List Sc
  active : List UInt8
  seen : List Sn
  nm : Int
  nb : Int
  st : Int
deriving DecidableEq
structure Opr where
  kind : Int
  id : Int
  box : Int
  up : Int
  name : List UInt8
  role : List UInt8
  text : List UInt8
  blob : Dg
  boxes : List Int
  add : List (List UInt8)
  drop : List (List UInt8)
  at_ : Int
  size : Int
  if_ : Int
/-! ### Sorted, distinct -/
structure STO {α : Type} (lt : α → α → Bool) : Prop where
  irr : ∀ a, lt a a = false
  tr : ∀ a b c, lt a b = true → lt b c = true → lt a c = true
  tri : ∀ a b, lt a b = false → lt b a = false → a = b
def insD {α : Type} (lt : α → α → Bool) (x : α) : List α → List α
  | [] => [x]
  | y :: r => if lt y x = true then y :: insD lt x r else if lt x y = true then x :: y :: r else y :: r
def sortD {α : Type} (lt : α → α → Bool) (l : List α) : List α := l.foldl (fun a x => insD lt x a) []
def AscB {α : Type} (lt : α → α → Bool) (l : List α) : Prop := l.Pairwise fun a b => lt a b = true
section
variable {α : Type} {lt : α → α → Bool}
theorem mem_insD (h : STO lt) (x z : α) : ∀ l : List α, z ∈ insD lt x l ↔ z = x ∨ z ∈ l
  | [] => by simp [insD]
  | y :: r => by
    unfold insD
    split
    · rw [List.mem_cons, mem_insD h x z r, List.mem_cons]
      constructor
      · rintro (e | e | e)
        · exact .inr (.inl e)
        · exact .inl e
        · exact .inr (.inr e)
      · rintro (e | e | e)
        · exact .inr (.inl e)
        · exact .inl e
        · exact .inr (.inr e)
    · rename_i h1
      split
      · simp
      · rename_i h2
        obtain rfl : y = x := h.tri y x (by simpa using h1) (by simpa using h2)
        simp
theorem asc_insD (h : STO lt) (x : α) : ∀ l : List α, AscB lt l → AscB lt (insD lt x l)
  | [], _ => by simp [insD, AscB]
  | y :: r, hl => by
    obtain ⟨h1, h2⟩ := List.pairwise_cons.1 hl
    unfold insD
    split
    · rename_i hy
      refine List.pairwise_cons.2 ⟨fun z hz => ?_, asc_insD h x r h2⟩
      rcases (mem_insD h x z r).1 hz with rfl | hz
      · exact hy
      · exact h1 z hz
    · split
      · rename_i hy
        refine List.pairwise_cons.2 ⟨fun z hz => ?_, hl⟩
        rcases List.mem_cons.1 hz with rfl | hz
        · exact hy
        · exact h.tr _ _ _ hy (h1 z hz)
      · exact hl
theorem sortD_go (h : STO lt) : ∀ (l a : List α), AscB lt a → AscB lt (l.foldl (fun a x => insD lt x a) a) ∧ ∀ z, z ∈ l.foldl (fun a x => insD lt x a) a ↔ z ∈ a ∨ z ∈ l
  | [], a, ha => ⟨ha, by simp⟩
  | x :: l, a, ha => by
    obtain ⟨h1, h2⟩ := sortD_go h l (insD lt x a) (asc_insD h x a ha)
    refine ⟨h1, fun z => ?_⟩
    rw [List.foldl_cons, h2, mem_insD h, List.mem_cons]
    constructor
    · rintro ((e | e) | e)
      · exact .inr (.inl e)
      · exact .inl e
      · exact .inr (.inr e)
    · rintro (e | e | e)
      · exact .inl (.inr e)
      · exact .inl (.inl e)
      · exact .inr e
theorem asc_sortD (h : STO lt) (l : List α) : AscB lt (sortD lt l) := (sortD_go h l [] .nil).1
theorem mem_sortD (h : STO lt) (l : List α) (z : α) : z ∈ sortD lt l ↔ z ∈ l := by
  rw [show z ∈ sortD lt l ↔ _ from (sortD_go h l [] .nil).2 z]; simp
theorem asc_uniq (h : STO lt) : ∀ (a b : List α), AscB lt a → AscB lt b → (∀ z, z ∈ a ↔ z ∈ b) → a = b
  | [], [], _, _, _ => rfl
  | [], y :: b, _, _, hm => by have := (hm y).2 (by simp); simp at this
  | x :: a, [], _, _, hm => by have := (hm x).1 (by simp); simp at this
  | x :: a, y :: b, ha, hb, hm => by
    obtain ⟨a1, a2⟩ := List.pairwise_cons.1 ha
    obtain ⟨b1, b2⟩ := List.pairwise_cons.1 hb
    have no : ∀ {u v : α}, lt u v = true → lt v u = true → False := fun p q => by
      have := h.tr _ _ _ p q
      rw [h.irr] at this; cases this
    obtain rfl : x = y := by
      rcases List.mem_cons.1 ((hm x).1 (by simp)) with e | e
      · exact e
      rcases List.mem_cons.1 ((hm y).2 (by simp)) with f | f
      · exact f.symm
      · exact (no (a1 y f) (b1 x e)).elim
    have hne : ∀ {z : α} {l : List α}, (∀ u ∈ l, lt x u = true) → z ∈ l → z ≠ x := fun hl hz e => by
      subst e
      have := hl _ hz
      rw [h.irr] at this; cases this
    rw [asc_uniq h a b a2 b2 fun z => ?_]
    constructor
    · intro hz
      rcases List.mem_cons.1 ((hm z).1 (List.mem_cons_of_mem _ hz)) with e | e
      · exact absurd e (hne a1 hz)
      · exact e
    · intro hz
      rcases List.mem_cons.1 ((hm z).2 (List.mem_cons_of_mem _ hz)) with e | e
      · exact absurd e (hne b1 hz)
      · exact e
theorem sortD_of (h : STO lt) {l m : List α} (ha : AscB lt m) (hm : ∀ z, z ∈ m ↔ z ∈ l) : m = sortD lt l := asc_uniq h _ _ ha (asc_sortD h l) fun z => by rw [hm, mem_sortD h]
theorem len_insD (x : α) : ∀ l : List α, (insD lt x l).length ≤ l.length + 1
  | [] => by simp [insD]
  | y :: r => by
    unfold insD
    have := len_insD x r
    split
    · simp only [List.length_cons]; omega
    · split <;> simp
theorem len_sortD (l : List α) : (sortD lt l).length ≤ l.length := by
  have : ∀ (l a : List α), (l.foldl (fun a x => insD lt x a) a).length ≤ a.length + l.length := by
    intro l
    induction l with
    | nil => simp
    | cons x l ih =>
      intro a
      have := ih (insD lt x a)
      have := len_insD (lt := lt) x a
      simp only [List.foldl_cons, List.length_cons]; omega
  have := this l []
  unfold sortD
  simpa using this
theorem sortD_nil_iff (h : STO lt) (l : List α) : sortD lt l = [] ↔ l = [] := by
  constructor
  · intro e
    cases l with
    | nil => rfl
    | cons x r => have := (mem_sortD h (x :: r) x).2 (by simp); rw [e] at this; simp at this
  · rintro rfl; rfl
theorem asc_filter {l : List α} (p : α → Bool) (h : AscB lt l) : AscB lt (l.filter p) := List.Pairwise.filter p h
end
def ltI (a b : Int) : Bool := decide (a < b)
def ltT (a b : List UInt8) : Bool := decide (a < b)
theorem stoI : STO ltI := ⟨fun a => by simp [ltI], fun a b c h1 h2 => by simp only [ltI, decide_eq_true_eq] at *; omega, fun a b h1 h2 => by simp only [ltI, decide_eq_false_iff_not] at *; omega⟩
theorem stoT : STO ltT := ⟨fun a => by simp only [ltT, decide_eq_false_iff_not]; exact List.lt_irrefl a, fun a b c h1 h2 => by simp only [ltT, decide_eq_true_eq] at *; exact List.lt_trans h1 h2, fun a b h1 h2 => by
  simp only [ltT, decide_eq_false_iff_not] at *
  exact List.le_antisymm h2 h1⟩
def sortI (l : List Int) : List Int := sortD ltI l
def sortT (l : List (List UInt8)) : List (List UInt8) := sortD ltT l
/-- What slices.Sort and slices.Compact make of a list. -/
theorem compact_sorted {α : Type} [DecidableEq α] [Inhabited α] {lt : α → α → Bool} (h : STO lt) (le : α → α → Bool) (hle : ∀ a b, le a b = !lt b a) (l : List α) : compact (l.mergeSort le) = sortD lt l := by
  have htr : ∀ a b c, le a b = true → le b c = true → le a c = true := fun a b c h1 h2 => by
    rw [hle, Bool.not_eq_true'] at *
    cases hca : lt c a with
    | false => rfl
    | true =>
      cases hcb : lt c b with
      | true => rw [hcb] at h2; cases h2
      | false =>
        cases hbc : lt b c with
        | true => have := h.tr _ _ _ hbc hca; rw [this] at h1; cases h1
        | false =>
          obtain rfl := h.tri _ _ hbc hcb
          rw [hca] at h1; cases h1
  have hto : ∀ a b, (le a b || le b a) = true := fun a b => by
    rw [hle, hle]
    cases hab : lt a b with
    | false => simp
    | true =>
      cases hba : lt b a with
      | false => rfl
      | true => have := h.tr _ _ _ hab hba; rw [h.irr] at this; cases this
  have hs : (l.mergeSort le).Pairwise fun a b => le a b = true := List.pairwise_mergeSort htr hto l
  have hm : ∀ z, z ∈ l.mergeSort le ↔ z ∈ l := fun z => (List.mergeSort_perm l le).mem_iff
  generalize l.mergeSort le = s at *
  have key : ∀ m, m ≤ s.length → AscB lt (compactUpTo s.toArray m) ∧ (∀ z, z ∈ compactUpTo s.toArray m ↔ z ∈ s.take m) := by
    intro m
    induction m with
    | zero => intro _; simp [compactUpTo, AscB]
    | succ m ih =>
      intro hmle
      obtain ⟨i1, i2⟩ := ih (by omega)
      have hlt : m < s.length := by omega
      rw [compactUpTo_succ]
      have hsm : s.toArray[m]! = s[m] := by simp [hlt]
      have htk : s.take (m + 1) = s.take m ++ [s[m]] := List.take_succ_eq_append_getElem hlt
      rw [htk, hsm]
      have hkp : keeps s.toArray m = true ↔ (m = 0 ∨ ∃ h : m - 1 < s.length, s[m] ≠ s[m - 1]) := by
        unfold keeps
        have e2 : s.toArray[m - 1]! = s[m - 1]'(by omega) := by simp [show m - 1 < s.length by omega]
        simp only [hsm, e2, decide_eq_true_eq, ne_eq]
        constructor
        · rintro (e | e)
          · exact .inl e
          · exact .inr ⟨by omega, e⟩
        · rintro (e | ⟨_, e⟩)
          · exact .inl e
          · exact .inr e
      have hle' : ∀ z ∈ s.take m, le z s[m] = true := fun z hz => by
        have hp := hs
        rw [← List.take_append_drop m s, List.pairwise_append] at hp
        exact hp.2.2 z hz s[m] (by rw [List.drop_eq_getElem_cons hlt]; exact List.mem_cons_self)
      by_cases hk : keeps s.toArray m = true
      · rw [if_pos hk]
        refine ⟨?_, fun z => by rw [List.mem_append, List.mem_append, i2]⟩
        unfold AscB
        rw [List.pairwise_append]
        refine ⟨i1, by simp, fun a ha b hb => ?_⟩
        rw [List.mem_singleton] at hb
        subst hb
        have ha2 := (i2 a).1 ha
        have hane : a ≠ s[m] := by
          rintro rfl
          rcases hkp.1 hk with e | ⟨hm1, e⟩
          · subst e; simp at ha2
          · -- the one before m is at most s[m], and at least a
            apply e
            have hm0 : m ≠ 0 := by rintro rfl; simp at ha2
            have hp : le (s[m - 1]'hm1) s[m] = true := hle' _ (by
              rw [List.mem_take_iff_getElem]
              exact ⟨m - 1, by omega, rfl⟩)
            obtain ⟨i, hi, hie⟩ := List.mem_take_iff_getElem.1 ha2
            have hq : le s[m] (s[m - 1]'hm1) = true ∨ i = m - 1 := by
              by_cases hi1 : i = m - 1
              · exact .inr hi1
              · left
                have hi2 : i < m - 1 := by omega
                have := (List.pairwise_iff_getElem.1 hs) i (m - 1) (by omega) hm1 hi2
                rwa [hie] at this
            rcases hq with hq | hq
            · rw [hle, Bool.not_eq_true'] at hp hq
              exact h.tri _ _ hp hq
            · subst hq; exact hie.symm
        have := hle' a ha2
        rw [hle, Bool.not_eq_true'] at this
        cases hal : lt a s[m] with
        | true => rfl
        | false => exact absurd (h.tri _ _ hal this) hane
      · rw [if_neg hk]
        rw [List.append_nil]
        refine ⟨i1, fun z => ?_⟩
        rw [i2, List.mem_append, List.mem_singleton]
        constructor
        · exact .inl
        · rintro (e | rfl)
          · exact e
          · have hm0 : m ≠ 0 := fun e => hk (hkp.2 (.inl e))
            have hm1 : m - 1 < s.length := by omega
            have e : s[m] = s[m - 1] := Classical.byContradiction fun hne => hk (hkp.2 (.inr ⟨hm1, hne⟩))
            rw [e]
            rw [List.mem_take_iff_getElem]
            exact ⟨m - 1, by omega, rfl⟩
  unfold compact
  obtain ⟨k1, k2⟩ := key s.length (Nat.le_refl _)
  exact sortD_of h k1 fun z => by rw [k2, List.take_length, hm]
theorem compact_int (l : List Int) : compact (l.mergeSort fun x y => decide (x ≤ y)) = sortI l := compact_sorted stoI _ (fun a b => by simp only [ltI]; rw [← decide_not]; exact decide_eq_decide.2 (by omega)) l
theorem compact_text (l : List (List UInt8)) : compact (l.mergeSort fun x y => decide (x ≤ y)) = sortT l := compact_sorted stoT _ (fun a b => by simp only [ltT]; rw [← decide_not]; exact decide_eq_decide.2 Iff.rfl) l
/-- Bytes of a flag. -/
def flagCh (c : UInt8) : Bool := (decide (97 ≤ c.toNat) && decide (c.toNat ≤ 122)) || (decide (48 ≤ c.toNat) && decide (c.toNat ≤ 57)) || decide (c ∈ ([36, 92, 45, 95, 46] : List UInt8))
def flagB (s : List UInt8) : Bool := s.all flagCh && decide (1 ≤ s.length ∧ s.length ≤ 30)
def flagsB (l : List (List UInt8)) : Bool := l.all flagB
def scCh (c : UInt8) : Bool := decide (32 ≤ c.toNat) && decide (c.toNat ≠ 127)
def scB (s : List UInt8) : Bool := s.all scCh && decide (1 ≤ s.length ∧ s.length ≤ 100)
def thereB (bs : List Bx) (ids : List Int) : Bool := ids.all fun i => bs.any fun b => decide (b.id = i)
end Go.Cs
