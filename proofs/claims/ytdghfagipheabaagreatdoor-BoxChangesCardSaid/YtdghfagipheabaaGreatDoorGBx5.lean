/- Helper text of this claim: Bx5, Bx6, Bx7: lemmas and contracts that the proved statement rests on; no conditions of its own. -/
import Derived.Test.YtdghfagipheabaaGreatDoorGSn0
namespace Go.Cs
open Go.Lib
set_option linter.unusedVariables false
set_option linter.unusedSectionVars false
/-! ### Sorted lists are told by their members -/
theorem asc_ext : ∀ {a b : List Bx}, (a.Pairwise fun x y => x.id < y.id) → (b.Pairwise fun x y => x.id < y.id) → (∀ c, c ∈ a ↔ c ∈ b) → a = b
  | [], [], _, _, _ => rfl
  | [], y :: s, _, _, h => absurd ((h y).2 (by simp)) (by simp)
  | x :: r, [], _, _, h => absurd ((h x).1 (by simp)) (by simp)
  | x :: r, y :: s, ha, hb, h => by
    obtain ⟨a1, a2⟩ := List.pairwise_cons.1 ha
    obtain ⟨b1, b2⟩ := List.pairwise_cons.1 hb
    have hxy : x = y := by
      rcases List.mem_cons.1 ((h x).1 (by simp)) with e | e
      · exact e
      · rcases List.mem_cons.1 ((h y).2 (by simp)) with k | k
        · exact k.symm
        · have := b1 x e; have := a1 y k; omega
    subst hxy
    congr 1
    refine asc_ext a2 b2 fun c => ?_
    have := h c
    simp only [List.mem_cons] at this
    constructor
    · intro hc
      rcases this.1 (.inr hc) with rfl | k
      · have := a1 c hc; omega
      · exact k
    · intro hc
      rcases this.2 (.inr hc) with rfl | k
      · have := b1 c hc; omega
      · exact k
theorem mem_del {l : List Bx} {id : Int} {c : Bx} : c ∈ delL l id ↔ c ∈ l ∧ c.id ≠ id := by
  unfold delL
  rw [List.mem_filter, decide_eq_true_eq]
theorem asc_del {l : List Bx} (h : l.Pairwise fun a b => a.id < b.id) (id : Int) : (delL l id).Pairwise fun a b => a.id < b.id := h.sublist List.filter_sublist
theorem del_ins {l : List Bx} (h : l.Pairwise fun a b => a.id < b.id) {b : Bx} (hb : ∀ c ∈ l, c.id ≠ b.id) : delL (insL l b) b.id = l :=
  asc_ext (asc_del (asc_ins h hb) _) h fun c => by
    rw [mem_del, mem_ins]
    constructor
    · rintro ⟨rfl | h1, h2⟩
      · exact absurd rfl h2
      · exact h1
    · exact fun h1 => ⟨.inr h1, hb c h1⟩
theorem ins_del {l : List Bx} (h : l.Pairwise fun a b => a.id < b.id) {b : Bx} (hb : b ∈ l) : insL (delL l b.id) b = l :=
  asc_ext (asc_ins (asc_del h _) fun c hc => (mem_del.1 hc).2) h fun c => by
    rw [mem_ins, mem_del]
    constructor
    · rintro (rfl | h1)
      · exact hb
      · exact h1.1
    · intro h1
      by_cases e : c.id = b.id
      · exact .inl (id_inj h h1 hb e)
      · exact .inr ⟨h1, e⟩
theorem set_name_back {l : List Bx} (h : l.Pairwise fun a b => a.id < b.id) {x : Bx} (hx : x ∈ l) (nm : List UInt8) : setName (setName l x.id nm) x.id x.name = l := by
  unfold setName
  rw [List.map_map]
  conv => rhs; rw [← List.map_id l]
  refine List.map_congr_left fun b hb => ?_
  simp only [Function.comp]
  by_cases e : b.id = x.id
  · have := id_inj h hb hx e
    subst this
    simp
  · simp [e]
theorem set_up_back {l : List Bx} (h : l.Pairwise fun a b => a.id < b.id) {x : Bx} (hx : x ∈ l) (up : Int) : setUp (setUp l x.id up) x.id x.up = l := by
  unfold setUp
  rw [List.map_map]
  conv => rhs; rw [← List.map_id l]
  refine List.map_congr_left fun b hb => ?_
  simp only [Function.comp]
  by_cases e : b.id = x.id
  · have := id_inj h hb hx e
    subst this
    simp
  · simp [e]
/-! ### Descent and depth -/
theorem Reach.dep {l : List Bx} (hz : upOf l 0 = none) {b y : Int} (h : Reach l b y) : ∀ {d : Nat}, Dep l d y → ∃ e, e ≤ d ∧ Dep l e b := by
  induction h with
  | here => intro d hd; exact ⟨d, Nat.le_refl _, hd⟩
  | @up id u hu _ ih =>
    intro d hd
    cases d with
    | zero =>
      have h0 : id = 0 := hd
      rw [h0, hz] at hu; cases hu
    | succ d =>
      obtain ⟨h0, v, hv, hd⟩ := hd
      rw [hu] at hv
      obtain rfl := Option.some.inj hv
      obtain ⟨e, h1, h2⟩ := ih hd
      exact ⟨e, by omega, h2⟩
theorem RightP.zero {l : List Bx} (hr : RightP l) : upOf l 0 = none := by rw [boxOf_up, zero_no hr]; rfl
theorem reach_back {l : List Bx} (hr : RightP l) {x up y : Int} (h : Reach (setUp l x up) x y) : Reach l x y := by
  induction h with
  | here => exact .here
  | @up id u hu _ ih =>
    by_cases e : id = x
    · rw [e]; exact .here
    · exact .up ((upOf_setUp_ne hr e).1 hu) ih
theorem no_reach_up {l : List Bx} (hr : RightP l) {x : Bx} (hx : x ∈ l) : ¬ Reach l x.id x.up := fun h => by
  obtain ⟨d, h1, h2, h3, h4⟩ := deep_box hr hx
  obtain ⟨e, g1, g2⟩ := h.dep hr.zero ((dep_iff _ _ _ _).1 h4).1
  have := Dep.inj g2 ((dep_iff _ _ _ _).1 h3).1
  omega
/-! ### Each operation has its inverse -/
theorem boxOf_some {l : List Bx} (h : l.Pairwise fun a b => a.id < b.id) {id : Int} {b : Bx} : boxOf l id = some b ↔ b ∈ l ∧ b.id = id :=
  ⟨boxOf_mem, fun ⟨h1, h2⟩ => by rw [← h2]; exact boxOf_of h h1⟩
structure AddOk (l : List Bx) (b : Bx) : Prop where
  name : namedB b.name = true
  role : b.role ∈ rolesL
  id : 1 ≤ b.id ∧ b.id ≤ 1099511627776
  new : ∀ c ∈ l, c.id ≠ b.id
  once : b.role ≠ [] → ∀ c ∈ l, c.role ≠ b.role
  len : l.length < 64
  up : b.up = 0 ∨ ∃ c ∈ l, c.id = b.up
  deep : dpt l b.up < 8
  free : takenL l b.up b.name 0 = false
theorem add_iff {l : List Bx} (up : Int) (name role : List UInt8) (id : Int) : (addL l up name role id).2 = 0 ↔ RightP l ∧ AddOk l ⟨id, up, name, role⟩ := by
  unfold addL
  rw [← rightL_iff]
  by_cases h1 : rightL l = true ∧ namedB name = true ∧ role ∈ rolesL
  · rw [if_neg (by simpa using h1)]
    by_cases h2 : id < 1 ∨ 1099511627776 < id
    · rw [if_pos h2]
      exact ⟨fun e => (by cases e), fun e => by have := e.2.id; dsimp only at this; omega⟩
    · rw [if_neg h2]
      by_cases h3 : hasId l id = true ∨ role ≠ [] ∧ (l.any fun b => decide (b.role = role)) = true
      · rw [if_pos h3]
        refine ⟨fun e => (by cases e), fun e => ?_⟩
        rcases h3 with h3 | ⟨h3, h4⟩
        · obtain ⟨c, hc, he⟩ := (hasId_iff _ _).1 h3
          exact absurd he (e.2.new c hc)
        · obtain ⟨c, hc, he⟩ := List.any_eq_true.1 h4
          exact absurd (by simpa using he) (e.2.once h3 c hc)
      · rw [if_neg h3]
        by_cases h5 : 64 ≤ l.length
        · rw [if_pos h5]
          exact ⟨fun e => (by cases e), fun e => by have := e.2.len; omega⟩
        · rw [if_neg h5]
          by_cases h6 : up = 0 ∨ hasId l up = true
          · rw [if_neg (fun hn => hn h6)]
            by_cases h7 : 8 ≤ dpt l up
            · rw [if_pos h7]
              exact ⟨fun e => (by cases e), fun e => by have := e.2.deep; dsimp only at this; omega⟩
            · rw [if_neg h7]
              by_cases h8 : takenL l up name 0 = true
              · rw [if_pos h8]
                exact ⟨fun e => (by cases e), fun e => by have := e.2.free; dsimp only at this; rw [h8] at this; cases this⟩
              · rw [if_neg h8]
                refine ⟨fun _ => ⟨h1.1, h1.2.1, h1.2.2, ?_, ?_, ?_, by omega, ?_, ?_, by simpa using h8⟩, fun _ => rfl⟩
                · dsimp only; omega
                · intro c hc e; exact h3 (.inl ((hasId_iff _ _).2 ⟨c, hc, e⟩))
                · intro hne c hc e; exact h3 (.inr ⟨hne, List.any_eq_true.2 ⟨c, hc, by simpa using e⟩⟩)
                · dsimp only; rw [← hasId_iff]; exact h6
                · dsimp only; omega
          · rw [if_pos h6]
            refine ⟨fun e => (by cases e), fun e => ?_⟩
            have := e.2.up
            dsimp only at this
            rw [← hasId_iff] at this
            exact absurd this h6
  · rw [if_pos (by simpa using h1)]
    exact ⟨fun e => (by cases e), fun e => absurd ⟨e.1, e.2.name, e.2.role⟩ h1⟩
theorem add_res {l : List Bx} {up : Int} {name role : List UInt8} {id : Int} : (addL l up name role id).1 = if (addL l up name role id).2 = 0 then insL l ⟨id, up, name, role⟩ else [] := by
  unfold addL
  repeat' split
  all_goals first | rfl | contradiction
theorem name_iff {l : List Bx} (id : Int) (nm : List UInt8) : (nameL l id nm).2 = 0 ↔ RightP l ∧ ∃ x ∈ l, x.id = id ∧ namedB nm = true ∧ takenL l x.up nm id = false := by
  unfold nameL
  by_cases h1' : rightL l = true
  · have h1 := (rightL_iff l).1 h1'
    rw [if_neg (by simpa using h1')]
    cases hb : boxOf l id with
    | none => exact ⟨fun e => (by cases e), fun ⟨_, x, hx, he, _⟩ => absurd he (boxOf_none.1 hb x hx)⟩
    | some b =>
      obtain ⟨hm, rfl⟩ := boxOf_mem hb
      dsimp only
      by_cases h2 : namedB nm = true
      · rw [if_neg (by simpa using h2)]
        by_cases h3 : takenL l b.up nm b.id = true
        · rw [if_pos h3]
          refine ⟨fun e => (by cases e), fun ⟨_, x, hx, he, _, h⟩ => ?_⟩
          rw [id_inj h1.asc hx hm he] at h
          rw [h3] at h; cases h
        · rw [if_neg h3]
          exact ⟨fun _ => ⟨h1, b, hm, rfl, h2, by simpa using h3⟩, fun _ => rfl⟩
      · rw [if_pos (by simpa using h2)]
        exact ⟨fun e => (by cases e), fun ⟨_, x, hx, he, h, _⟩ => absurd h h2⟩
  · rw [if_pos (by simpa using h1')]
    exact ⟨fun e => (by cases e), fun e => absurd ((rightL_iff l).2 e.1) h1'⟩
theorem name_res {l : List Bx} {id : Int} {nm : List UInt8} : (nameL l id nm).1 = if (nameL l id nm).2 = 0 then setName l id nm else [] := by
  unfold nameL
  repeat' split
  all_goals first | rfl | contradiction
structure MoveOk (l : List Bx) (x : Bx) (up : Int) : Prop where
  par : up = 0 ∨ ∃ c ∈ l, c.id = up
  loop : ¬ Reach l x.id up
  deep : dpt l up + belowL l x.id ≤ 8
  free : takenL l up x.name x.id = false
theorem within_up {l : List Bx} (hr : RightP l) {x : Bx} (hx : x ∈ l) {up : Int} (hup : up = 0 ∨ ∃ c ∈ l, c.id = up) : (up ≠ 0 ∧ within l up x.id = true) ↔ Reach l x.id up := by
  have hx0 : x.id ≠ 0 := by have := (hr.pos x hx).1; omega
  rcases hup with rfl | ⟨c, hc, rfl⟩
  · constructor
    · exact fun h => absurd rfl h.1
    · intro h
      generalize hz : (0 : Int) = z at h
      cases h with
      | here => exact absurd hz.symm hx0
      | up e _ => rw [← hz, hr.zero] at e; cases e
  · obtain ⟨d, hd, _⟩ := hr.dep hc
    rw [within_of hr hx0 hd]
    have : c.id ≠ 0 := by have := (hr.pos c hc).1; omega
    exact ⟨fun h => h.2, fun h => ⟨this, h⟩⟩
theorem move_iff {l : List Bx} (id up : Int) : (moveL l id up).2 = 0 ↔ RightP l ∧ ∃ x ∈ l, x.id = id ∧ MoveOk l x up := by
  unfold moveL
  by_cases h1' : rightL l = true
  · have h1 := (rightL_iff l).1 h1'
    rw [if_neg (by simpa using h1')]
    cases hb : boxOf l id with
    | none => exact ⟨fun e => (by cases e), fun ⟨_, x, hx, he, _⟩ => absurd he (boxOf_none.1 hb x hx)⟩
    | some b =>
      obtain ⟨hm, rfl⟩ := boxOf_mem hb
      dsimp only
      have back : ∀ {p : Prop}, (MoveOk l b up → p) → (RightP l ∧ ∃ x ∈ l, x.id = b.id ∧ MoveOk l x up) → p := fun hp ⟨_, x, hx, he, h⟩ => by
        rw [id_inj h1.asc hx hm he] at h
        exact hp h
      by_cases h2 : up = 0 ∨ hasId l up = true
      · rw [if_neg (fun hn => hn h2)]
        have h2' : up = 0 ∨ ∃ c ∈ l, c.id = up := by rwa [hasId_iff] at h2
        by_cases h3 : up ≠ 0 ∧ within l up b.id = true
        · rw [if_pos h3]
          exact ⟨fun e => (by cases e), back fun h => absurd ((within_up h1 hm h2').1 h3) h.loop⟩
        · rw [if_neg h3]
          by_cases h4 : 8 < dpt l up + belowL l b.id
          · rw [if_pos h4]
            exact ⟨fun e => (by cases e), back fun h => by have := h.deep; omega⟩
          · rw [if_neg h4]
            by_cases h5 : takenL l up b.name b.id = true
            · rw [if_pos h5]
              exact ⟨fun e => (by cases e), back fun h => by have := h.free; rw [h5] at this; cases this⟩
            · rw [if_neg h5]
              exact ⟨fun _ => ⟨h1, b, hm, rfl, h2', fun e => h3 ((within_up h1 hm h2').2 e), by omega, by simpa using h5⟩, fun _ => rfl⟩
      · rw [if_pos h2]
        exact ⟨fun e => (by cases e), back fun h => absurd (by rw [hasId_iff]; exact h.par) h2⟩
  · rw [if_pos (by simpa using h1')]
    exact ⟨fun e => (by cases e), fun e => absurd ((rightL_iff l).2 e.1) h1'⟩
theorem move_res {l : List Bx} {id up : Int} : (moveL l id up).1 = if (moveL l id up).2 = 0 then setUp l id up else [] := by
  unfold moveL
  repeat' split
  all_goals first | rfl | contradiction
theorem drop_iff {l : List Bx} (id : Int) : (dropL l id).2 = 0 ↔ RightP l ∧ (∃ x ∈ l, x.id = id) ∧ ∀ b ∈ l, b.up ≠ id := by
  unfold dropL
  by_cases h1' : rightL l = true
  · have h1 := (rightL_iff l).1 h1'
    rw [if_neg (by simpa using h1')]
    by_cases h2 : hasId l id = true
    · rw [if_neg (by simpa using h2)]
      by_cases h3 : (l.any fun b => decide (b.up = id)) = true
      · rw [if_pos h3]
        obtain ⟨c, hc, he⟩ := List.any_eq_true.1 h3
        exact ⟨fun e => (by cases e), fun e => absurd (by simpa using he) (e.2.2 c hc)⟩
      · rw [if_neg h3]
        refine ⟨fun _ => ⟨h1, (hasId_iff _ _).1 h2, fun b hb e => h3 (List.any_eq_true.2 ⟨b, hb, by simpa using e⟩)⟩, fun _ => rfl⟩
    · rw [if_pos (by simpa using h2)]
      exact ⟨fun e => (by cases e), fun e => absurd ((hasId_iff _ _).2 e.2.1) h2⟩
  · rw [if_pos (by simpa using h1')]
    exact ⟨fun e => (by cases e), fun e => absurd ((rightL_iff l).2 e.1) h1'⟩
theorem drop_res {l : List Bx} {id : Int} : (dropL l id).1 = if (dropL l id).2 = 0 then delL l id else [] := by
  unfold dropL
  repeat' split
  all_goals first | rfl | contradiction
theorem pair_eq {α β : Type} {p : α × β} {a : α} {b : β} (h1 : p.1 = a) (h2 : p.2 = b) : p = (a, b) := by
  obtain ⟨x, y⟩ := p
  cases h1; cases h2; rfl
theorem back_add {l : List Bx} {b : Bx} (hr : RightP l) (h : AddOk l b) : RightP (insL l b) ∧ dropL (insL l b) b.id = (l, 0) := by
  have hm := right_add hr h.name h.role h.id h.new h.once h.len h.up h.deep h.free
  have h2 : (dropL (insL l b) b.id).2 = 0 := by
    rw [drop_iff]
    refine ⟨hm, ⟨b, mem_ins.2 (.inl rfl), rfl⟩, fun c hc e => ?_⟩
    have hb := h.id
    rcases mem_ins.1 hc with rfl | hc
    · rcases h.up with h0 | ⟨d, hd, he⟩
      · omega
      · exact h.new d hd (by omega)
    · rcases up_cases hr hc with h0 | ⟨d, hd, he⟩
      · omega
      · exact h.new d hd (by omega)
  refine ⟨hm, pair_eq ?_ h2⟩
  rw [drop_res, if_pos h2, del_ins hr.asc h.new]
theorem back_name {l : List Bx} {x : Bx} (hr : RightP l) (hx : x ∈ l) {nm : List UInt8} (h1 : namedB nm = true) (h2 : takenL l x.up nm x.id = false) : RightP (setName l x.id nm) ∧ nameL (setName l x.id nm) x.id x.name = (l, 0) := by
  have hm := right_name hr hx h1 h2
  have h3 : (nameL (setName l x.id nm) x.id x.name).2 = 0 := by
    rw [name_iff]
    refine ⟨hm, { x with name := nm }, List.mem_map.2 ⟨x, hx, by rw [if_pos rfl]⟩, rfl, hr.named x hx, (taken_iff _ _ _ _).2 fun b hb e1 e2 e3 => ?_⟩
    obtain ⟨c, hc, rfl⟩ := List.mem_map.1 hb
    by_cases e : c.id = x.id
    · rw [if_pos e] at e2; exact e2 e
    · rw [if_neg e] at e1 e2 e3
      exact e (by rw [uniq_eq hr hc hx e1 e3])
  refine ⟨hm, pair_eq ?_ h3⟩
  rw [name_res, if_pos h3, set_name_back hr.asc hx]
theorem back_move {l : List Bx} {x : Bx} (hr : RightP l) (hx : x ∈ l) {up : Int} (h : MoveOk l x up) : RightP (setUp l x.id up) ∧ moveL (setUp l x.id up) x.id x.up = (l, 0) := by
  have hm := right_move hr hx h.par h.loop h.deep h.free
  have hx' : { x with up := up } ∈ setUp l x.id up := (mem_setUp hr).2 ⟨x, hx, by rw [if_pos rfl]⟩
  have hup : x.up = 0 ∨ ∃ c ∈ setUp l x.id up, c.id = x.up := by
    rcases up_cases hr hx with h0 | ⟨c, hc, h0⟩
    · exact .inl h0
    · exact .inr ⟨_, (mem_setUp hr).2 ⟨c, hc, rfl⟩, by split <;> exact h0⟩
  have hno : ¬ Reach (setUp l x.id up) x.id x.up := fun e => no_reach_up hr hx (reach_back hr e)
  have h3 : (moveL (setUp l x.id up) x.id x.up).2 = 0 := by
    rw [move_iff]
    refine ⟨hm, { x with up := up }, hx', rfl, hup, hno, ?_, (taken_iff _ _ _ _).2 fun b hb e1 e2 e3 => ?_⟩
    · have := (move_deep hm hx' hup hno).2
      refine this ?_
      rw [show setUp (setUp l x.id up) ({ x with up := up } : Bx).id x.up = l from set_up_back hr.asc hx up]
      exact fun b hb => hr.dep hb
    · obtain ⟨c, hc, rfl⟩ := (mem_setUp hr).1 hb
      by_cases e : c.id = x.id
      · rw [if_pos e] at e2; exact e2 e
      · rw [if_neg e] at e1 e2 e3
        exact e (congrArg Bx.id (uniq_eq hr hc hx e1 e3))
  refine ⟨hm, pair_eq ?_ h3⟩
  rw [move_res, if_pos h3, set_up_back hr.asc hx]
theorem role_eq {l : List Bx} (hr : RightP l) {a b : Bx} (ha : a ∈ l) (hb : b ∈ l) (hne : b.role ≠ []) (he : a.role = b.role) : a = b := by
  obtain ⟨i, hi, rfl⟩ := List.getElem_of_mem ha
  obtain ⟨j, hj, rfl⟩ := List.getElem_of_mem hb
  have h := hr.urole
  rw [List.pairwise_iff_getElem] at h
  rcases Nat.lt_trichotomy i j with hij | hij | hij
  · exact absurd ⟨hne, he⟩ (h i j hi hj hij)
  · subst hij; rfl
  · exact absurd ⟨by rw [he]; exact hne, he.symm⟩ (h j i hj hi hij)
theorem back_drop {l : List Bx} {x : Bx} (hr : RightP l) (hx : x ∈ l) (h : ∀ b ∈ l, b.up ≠ x.id) : RightP (delL l x.id) ∧ addL (delL l x.id) x.up x.name x.role x.id = (l, 0) := by
  have hm := right_drop hr h
  have hup : x.up = 0 ∨ ∃ c ∈ delL l x.id, c.id = x.up := by
    rcases up_cases hr hx with h0 | ⟨c, hc, h0⟩
    · exact .inl h0
    · exact .inr ⟨c, mem_del.2 ⟨hc, fun e => h x hx (by omega)⟩, h0⟩
  obtain ⟨d, q1, q2, q3, q4⟩ := deep_box hr hx
  have hd : Dep (delL l x.id) d x.up := by
    refine Dep.congr (fun i => i ≠ x.id) (fun i u hs hu => ?_) d _ (h x hx) ((dep_iff _ _ _ _).1 q4).1
    obtain ⟨c, hc, rfl, rfl⟩ := upOf_mem hu
    exact ⟨(upOf_eq hm.asc).2 ⟨c, mem_del.2 ⟨hc, hs⟩, rfl, rfl⟩, h c hc⟩
  have h3 : (addL (delL l x.id) x.up x.name x.role x.id).2 = 0 := by
    rw [add_iff]
    refine ⟨hm, hr.named x hx, hr.roles x hx, hr.pos x hx, fun c hc => (mem_del.1 hc).2, fun hne c hc e => (mem_del.1 hc).2 (by rw [role_eq hr (mem_del.1 hc).1 hx hne e]), ?_, hup, by rw [dpt_of hd]; omega, (taken_iff _ _ _ _).2 fun b hb e1 _ e3 => (mem_del.1 hb).2 (by rw [uniq_eq hr (mem_del.1 hb).1 hx e1 e3])⟩
    have hl := congrArg List.length (ins_del hr.asc hx)
    rw [ins_len] at hl
    have := hr.len
    omega
  refine ⟨hm, pair_eq ?_ h3⟩
  rw [add_res, if_pos h3]
  exact ins_del hr.asc hx
end Go.Cs

namespace Go.Cs
open Go.Lib
set_option linter.unusedVariables false
set_option linter.unusedSectionVars false
/-! ### Paths and descent -/
def tailS (r : List (List UInt8)) : List UInt8 := r.flatMap fun x => 47 :: x
theorem join_app : ∀ (a r : List (List UInt8)), a ≠ [] → joinS (a ++ r) = joinS a ++ tailS r
  | [], r, h => absurd rfl h
  | [x], [], _ => by simp [joinS, tailS]
  | [x], y :: r, _ => by
    have := join_app [y] r (by simp)
    have h2 : joinS (y :: r) = y ++ tailS r := this
    show x ++ 47 :: joinS (y :: r) = _
    rw [h2]
    simp [joinS, tailS]
  | x :: y :: a, r, _ => by
    have := join_app (y :: a) r (by simp)
    show joinS (x :: y :: (a ++ r)) = _
    rw [joinS]
    have h2 : joinS (y :: (a ++ r)) = joinS (y :: a) ++ tailS r := this
    rw [h2, joinS, List.append_assoc]; rfl
theorem split_join_sep : ∀ (a : List (List UInt8)) (t : List UInt8), a ≠ [] → (∀ x ∈ a, ¬ (47 : UInt8) ∈ x) → splitS (joinS a ++ 47 :: t) = a ++ splitS t
  | [], t, h, _ => absurd rfl h
  | [x], t, _, h => splitS_app x (h x (by simp)) t
  | x :: y :: a, t, _, h => by
    rw [joinS, List.append_assoc]
    show splitS (x ++ 47 :: (joinS (y :: a) ++ 47 :: t)) = _
    rw [splitS_app x (h x (by simp)), split_join_sep (y :: a) t (by simp) fun z hz => h z (by simp [hz])]; rfl
section
variable {l : List Bx} (hr : RightP l)
include hr
theorem names_reach {x y : Int} (h : Reach l x y) : ∃ r, names l y = names l x ++ r := by
  induction h with
  | here => exact ⟨[], by simp⟩
  | @up id u hu _ ih =>
    obtain ⟨r, hr2⟩ := ih
    obtain ⟨b, hb, rfl, rfl⟩ := upOf_mem hu
    exact ⟨r ++ [b.name], by rw [names_box hr hb, hr2, List.append_assoc]⟩
/-- A beginning of a box's names leads to one of its ancestors. -/
theorem anc : ∀ (d : Nat) (y : Int), Dep l d y → ∀ p r, p ≠ [] → names l y = p ++ r → ∃ a ∈ l, names l a.id = p ∧ Reach l a.id y
  | 0, y, h, p, r, hp, he => by
    have : y = 0 := h
    rw [this, names_root hr] at he
    exact absurd (List.append_eq_nil_iff.1 he.symm).1 hp
  | d + 1, y, ⟨h0, u, hu, h⟩, p, r, hp, he => by
    obtain ⟨b, hb, rfl, rfl⟩ := upOf_mem hu
    rcases List.eq_nil_or_concat r with rfl | ⟨r', z, rfl⟩
    · exact ⟨b, hb, by rw [he, List.append_nil], .here⟩
    · rw [names_box hr hb, List.concat_eq_append, ← List.append_assoc] at he
      have h1 := (List.append_inj' he rfl).1
      obtain ⟨a, ha, h2, h3⟩ := anc d b.up h p r' hp h1
      exact ⟨a, ha, h2, .up hu h3⟩
theorem names_id {a b : Bx} (ha : a ∈ l) (hb : b ∈ l) (h : names l a.id = names l b.id) : a = b := by
  have h1 := walk_box hr ha
  have h2 := walk_box hr hb
  rw [h, h2] at h1
  exact id_inj hr.asc ha hb (Option.some.inj h1.symm)
theorem no47 (id : Int) : ∀ x ∈ names l id, ¬ (47 : UInt8) ∈ x := fun x hx => named_no47 (names_all hr id x hx)
/-- Below a box lies what has its path ahead of its own. -/
theorem below_iff {x y : Bx} (hx : x ∈ l) (hy : y ∈ l) : (Reach l x.id y.id ∧ y ≠ x) ↔ ∃ t, joinS (names l y.id) = joinS (names l x.id) ++ 47 :: t := by
  constructor
  · rintro ⟨h, hne⟩
    obtain ⟨r, h1⟩ := names_reach hr h
    cases r with
    | nil => exact absurd (names_id hr hy hx (by rw [h1, List.append_nil])) hne
    | cons z r =>
      refine ⟨z ++ tailS r, ?_⟩
      rw [h1, join_app _ _ (names_ne hr hx)]
      simp [tailS]
  · rintro ⟨t, h⟩
    have h1 := split_join_sep (names l x.id) t (names_ne hr hx) (no47 hr _)
    rw [← h, split_join _ (names_ne hr hy) (no47 hr _)] at h1
    obtain ⟨d, hd, _⟩ := hr.dep hy
    obtain ⟨a, ha, h2, h3⟩ := anc hr d y.id hd _ _ (names_ne hr hx) h1
    have hax := names_id hr ha hx h2
    subst hax
    refine ⟨h3, ?_⟩
    rintro rfl
    have := congrArg List.length h1
    rw [List.length_append] at this
    have := splitS_ne t
    exact this (List.eq_nil_of_length_eq_zero (by omega))
end
/-- As the law asks it. -/
theorem head_iff (a s : List UInt8) : (a.length < s.length ∧ s.take (a.length + 1) = a ++ [47]) ↔ ∃ t, s = a ++ 47 :: t := by
  constructor
  · rintro ⟨h1, h2⟩
    refine ⟨s.drop (a.length + 1), ?_⟩
    have := List.take_append_drop (a.length + 1) s
    rw [h2] at this
    rw [← this]; simp
  · rintro ⟨t, rfl⟩
    refine ⟨by simp, ?_⟩
    rw [List.take_append, List.take_of_length_le (by omega), Nat.add_sub_cancel_left]
    rfl
/-! ### Paths after a move -/
section
variable {l : List Bx} (hr : RightP l) {x : Bx} (hx : x ∈ l) {up : Int} (h : MoveOk l x up)
include hr hx h
theorem names_out : ∀ (d : Nat) (y : Int), Dep l d y → ¬ Reach l x.id y → names (setUp l x.id up) y = names l y
  | 0, y, hd, _ => by
    have hm := right_move hr hx h.par h.loop h.deep h.free
    have : y = 0 := hd
    rw [this, names_root hr, names_root hm]
  | d + 1, y, ⟨h0, u, hu, hd⟩, hn => by
    have hm := right_move hr hx h.par h.loop h.deep h.free
    obtain ⟨b, hb, rfl, rfl⟩ := upOf_mem hu
    have hbx : b.id ≠ x.id := fun e => hn (by rw [e]; exact .here)
    have hb2 : b ∈ setUp l x.id up := (mem_setUp hr).2 ⟨b, hb, by rw [if_neg hbx]⟩
    rw [names_box hr hb, names_box hm hb2, names_out d b.up hd fun e => hn (.up hu e)]
theorem names_in {y : Int} (hy : Reach l x.id y) : ∃ r, names l y = names l x.id ++ r ∧ names (setUp l x.id up) y = names (setUp l x.id up) x.id ++ r := by
  have hm := right_move hr hx h.par h.loop h.deep h.free
  induction hy with
  | here => exact ⟨[], by simp, by simp⟩
  | @up id u hu hy ih =>
    by_cases e : id = x.id
    · rw [e]; exact ⟨[], by simp, by simp⟩
    · obtain ⟨r, h1, h2⟩ := ih
      obtain ⟨b, hb, rfl, rfl⟩ := upOf_mem hu
      have hb2 : b ∈ setUp l x.id up := (mem_setUp hr).2 ⟨b, hb, by rw [if_neg e]⟩
      exact ⟨r ++ [b.name], by rw [names_box hr hb, h1, List.append_assoc], by rw [names_box hm hb2, h2, List.append_assoc]⟩
end
/-- The path of a mailbox after a move, as the law puts it. -/
def movedS (own now s : List UInt8) : List UInt8 := if own.length < s.length ∧ s.take (own.length + 1) = own ++ [47] ∨ s = own then now ++ s.drop own.length else s
theorem full_of {l : List Bx} (hr : RightP l) (id : Int) : fullL l id = joinS (names l id) := by
  unfold fullL
  rw [if_pos ((rightL_iff l).2 hr), full_names hr]
theorem moved_full {l : List Bx} (hr : RightP l) {x : Bx} (hx : x ∈ l) {up : Int} (h : MoveOk l x up) {y : Bx} (hy : y ∈ l) :
    fullL (setUp l x.id up) y.id = movedS (fullL l x.id) (fullL (setUp l x.id up) x.id) (fullL l y.id) := by
  have hm := right_move hr hx h.par h.loop h.deep h.free
  have hx2 : { x with up := up } ∈ setUp l x.id up := (mem_setUp hr).2 ⟨x, hx, by rw [if_pos rfl]⟩
  have hne2 : names (setUp l x.id up) x.id ≠ [] := names_ne (b := { x with up := up }) hm hx2
  rw [full_of hm, full_of hm, full_of hr, full_of hr]
  unfold movedS
  have hiff := (head_iff (joinS (names l x.id)) (joinS (names l y.id))).trans (below_iff hr hx hy).symm
  obtain ⟨d, hd, _⟩ := hr.dep hy
  by_cases hc : Reach l x.id y.id
  · obtain ⟨r, h1, h2⟩ := names_in hr hx h hc
    rw [if_pos (by
      by_cases e : y = x
      · exact .inr (by rw [e])
      · exact .inl (hiff.2 ⟨hc, e⟩)), h1, h2, join_app _ _ (names_ne hr hx), join_app _ _ hne2, List.drop_left]
  · rw [if_neg, names_out hr hx h d y.id hd hc]
    rintro (e | e)
    · exact hc (hiff.1 e).1
    · refine hc ?_
      have h1 : names l y.id = names l x.id := by
        have := congrArg splitS e
        rwa [split_join _ (names_ne hr hy) (no47 hr _), split_join _ (names_ne hr hx) (no47 hr _)] at this
      rw [names_id hr hy hx h1]; exact .here
/-- What the law says of Move. -/
theorem move_says {l : List Bx} (hr : RightP l) (id up : Int) :
    (fullL l id = [] ∨ up ≠ 0 ∧ fullL l up = [] → (moveL l id up).2 = 5) ∧
    (¬ (fullL l id = [] ∨ up ≠ 0 ∧ fullL l up = []) → (up = id ∨ (fullL l id).length < (fullL l up).length ∧ (fullL l up).take ((fullL l id).length + 1) = fullL l id ++ [47]) → (moveL l id up).2 = 11) ∧
    (¬ (fullL l id = [] ∨ up ≠ 0 ∧ fullL l up = []) → ¬ (up = id ∨ (fullL l id).length < (fullL l up).length ∧ (fullL l up).take ((fullL l id).length + 1) = fullL l id ++ [47]) → (moveL l id up).2 ≠ 0 → (moveL l id up).2 = 10 ∨ (moveL l id up).2 = 4) := by
  have hR := (rightL_iff l).2 hr
  have hempty : ∀ id, fullL l id = [] ↔ boxOf l id = none := fun id => by
    rw [full_of hr]
    constructor
    · intro h
      cases hb : boxOf l id with
      | none => rfl
      | some b =>
        obtain ⟨hm, rfl⟩ := boxOf_mem hb
        exact absurd h (join_ne _ (names_ne hr hm) fun x hx => named_ne (names_all hr _ x hx))
    · intro h
      have := full_none hr (boxOf_none.1 h)
      rwa [full_names hr] at this
  have hhas : ∀ id, hasId l id = true ↔ boxOf l id ≠ none := fun id => by
    rw [hasId_iff, Ne, boxOf_none]
    constructor
    · rintro ⟨b, hb, he⟩ h; exact h b hb he
    · intro h
      refine Classical.byContradiction fun hn => h fun b hb he => hn ⟨b, hb, he⟩
  rw [hempty, hempty]
  unfold moveL
  rw [if_neg (by simpa using hR)]
  cases hb : boxOf l id with
  | none => exact ⟨fun _ => rfl, fun h => absurd (.inl rfl) h, fun h => absurd (.inl rfl) h⟩
  | some x =>
    obtain ⟨hx, rfl⟩ := boxOf_mem hb
    dsimp only
    by_cases h1 : up = 0 ∨ hasId l up = true
    · have h1' : up = 0 ∨ ∃ c ∈ l, c.id = up := by rwa [hasId_iff] at h1
      have hn1 : ¬ ((some x : Option Bx) = none ∨ up ≠ 0 ∧ boxOf l up = none) := by
        rintro (h | ⟨h, h2⟩)
        · cases h
        · rcases h1 with h1 | h1
          · exact h h1
          · exact (hhas up).1 h1 h2
      rw [if_neg (fun hn => hn h1)]
      have key : (up ≠ 0 ∧ within l up x.id = true) ↔ (up = x.id ∨ (fullL l x.id).length < (fullL l up).length ∧ (fullL l up).take ((fullL l x.id).length + 1) = fullL l x.id ++ [47]) := by
        rw [within_up hr hx h1', head_iff]
        rcases h1' with rfl | ⟨c, hc, rfl⟩
        · rw [full_of hr 0, names_root hr]
          have hx0 := (hr.pos x hx).1
          constructor
          · intro h
            generalize hz : (0 : Int) = z at h
            cases h with
            | here => omega
            | up e _ => rw [← hz, hr.zero] at e; cases e
          · rintro (h | ⟨t, h⟩)
            · omega
            · have := congrArg List.length h
              rw [List.length_append] at this
              simp [joinS] at this
        · rw [full_of hr, full_of hr, ← below_iff hr hx hc]
          constructor
          · intro h
            by_cases e : c = x
            · exact .inl (by rw [e])
            · exact .inr ⟨h, e⟩
          · rintro (h | h)
            · rw [h]; exact .here
            · exact h.1
      refine ⟨fun h => absurd h hn1, fun _ h2 => by rw [if_pos (key.2 h2)], fun _ h2 h3 => ?_⟩
      rw [if_neg fun e => h2 (key.1 e)] at h3 ⊢
      split
      · exact .inl rfl
      · rename_i q
        rw [if_neg q] at h3
        split
        · exact .inr rfl
        · rename_i q2; rw [if_neg q2] at h3; exact absurd rfl h3
    · rw [if_pos h1]
      have hn1 : up ≠ 0 ∧ boxOf l up = none := by
        refine ⟨fun e => h1 (.inl e), Classical.byContradiction fun e => h1 (.inr ((hhas up).2 e))⟩
      exact ⟨fun _ => rfl, fun h => absurd (.inr hn1) h, fun h => absurd (.inr hn1) h⟩
end Go.Cs

namespace Go.Cs
open Go.Lib
set_option linter.unusedVariables false
set_option linter.unusedSectionVars false
/-! ### Operations, as the laws apply them -/
structure ActB where
  Do : Int
  Id : Int
  Up : Int
  Name : List UInt8
  Role : List UInt8
def doneL (l : List Bx) (a : ActB) : List Bx × Nat :=
  if a.Do % 4 = 0 then addL l a.Up a.Name a.Role a.Id
  else if a.Do % 4 = 1 then nameL l a.Id a.Name
  else if a.Do % 4 = 2 then moveL l a.Id a.Up
  else dropL l a.Id
theorem right_nil : RightP [] := ⟨by simp, by simp, .nil, by simp, by simp, .nil, .nil, by simp⟩
theorem done_nil (l : List Bx) (a : ActB) (h : (doneL l a).2 ≠ 0) : (doneL l a).1 = [] := by
  unfold doneL at h ⊢
  split at h <;> rename_i q1
  · rw [if_pos q1, add_res, if_neg h]
  · rw [if_neg q1]
    split at h <;> rename_i q2
    · rw [if_pos q2, name_res, if_neg h]
    · rw [if_neg q2]
      split at h <;> rename_i q3
      · rw [if_pos q3, move_res, if_neg h]
      · rw [if_neg q3, drop_res, if_neg h]
/-- The operation that takes one back. -/
def backA (l : List Bx) (a : ActB) : ActB :=
  let b := match boxOf l a.Id with | some x => { a with Up := x.up, Name := x.name, Role := x.role } | none => a
  if a.Do % 4 = 0 then { b with Do := 3 } else if a.Do % 4 = 3 then { b with Do := 0 } else b
theorem done_back (l : List Bx) (a : ActB) (hr : RightP l) (h : (doneL l a).2 = 0) : RightP (doneL l a).1 ∧ doneL (doneL l a).1 (backA l a) = (l, 0) := by
  have hm : a.Do % 4 = 0 ∨ a.Do % 4 = 1 ∨ a.Do % 4 = 2 ∨ a.Do % 4 = 3 := by omega
  rcases hm with q | q | q | q
  · have e : doneL l a = addL l a.Up a.Name a.Role a.Id := by unfold doneL; rw [if_pos q]
    rw [e] at h ⊢
    rw [add_res, if_pos h]
    obtain ⟨_, hk⟩ := (add_iff _ _ _ _).1 h
    obtain ⟨h1, h2⟩ := back_add hr hk
    refine ⟨h1, ?_⟩
    have hb : boxOf l a.Id = none := boxOf_none.2 hk.new
    unfold backA
    rw [hb, if_pos q]
    unfold doneL
    dsimp only
    rw [if_neg (by omega), if_neg (by omega), if_neg (by omega)]
    exact h2
  · have e : doneL l a = nameL l a.Id a.Name := by unfold doneL; rw [if_neg (by omega), if_pos q]
    rw [e] at h ⊢
    rw [name_res, if_pos h]
    obtain ⟨_, x, hx, hid, h3, h4⟩ := (name_iff _ _).1 h
    rw [← hid] at h4 ⊢
    obtain ⟨h1, h2⟩ := back_name hr hx h3 h4
    refine ⟨h1, ?_⟩
    unfold backA
    rw [← hid, boxOf_of hr.asc hx, if_neg (by omega), if_neg (by omega)]
    unfold doneL
    dsimp only
    rw [if_neg (by omega), if_pos q]
    exact h2
  · have e : doneL l a = moveL l a.Id a.Up := by unfold doneL; rw [if_neg (by omega), if_neg (by omega), if_pos q]
    rw [e] at h ⊢
    rw [move_res, if_pos h]
    obtain ⟨_, x, hx, hid, hk⟩ := (move_iff _ _).1 h
    rw [← hid]
    obtain ⟨h1, h2⟩ := back_move hr hx hk
    refine ⟨h1, ?_⟩
    unfold backA
    rw [← hid, boxOf_of hr.asc hx, if_neg (by omega), if_neg (by omega)]
    unfold doneL
    dsimp only
    rw [if_neg (by omega), if_neg (by omega), if_pos q]
    exact h2
  · have e : doneL l a = dropL l a.Id := by unfold doneL; rw [if_neg (by omega), if_neg (by omega), if_neg (by omega)]
    rw [e] at h ⊢
    rw [drop_res, if_pos h]
    obtain ⟨_, ⟨x, hx, hid⟩, h4⟩ := (drop_iff _).1 h
    rw [← hid] at h4 ⊢
    obtain ⟨h1, h2⟩ := back_drop hr hx h4
    refine ⟨h1, ?_⟩
    unfold backA
    rw [← hid, boxOf_of hr.asc hx, if_neg (by omega), if_pos q]
    unfold doneL
    dsimp only
    rw [if_pos (by omega)]
    exact h2
theorem done_right (l : List Bx) (a : ActB) (hr : RightP l) (h : (doneL l a).2 = 0) : RightP (doneL l a).1 := (done_back l a hr h).1
end Go.Cs
