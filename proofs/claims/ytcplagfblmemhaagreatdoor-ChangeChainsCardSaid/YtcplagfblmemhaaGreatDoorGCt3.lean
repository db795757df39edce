/- Helper text of this claim: lemmas and contracts that the proved statement rests on; no conditions of its own. -/
import Derived.Lib.Small
import Derived.Test.YtcplagfblmemhaaGreatDoorGOpn
namespace Go.Cs
set_option linter.unusedVariables false
set_option maxHeartbeats 4000000
set_option linter.unusedVariables false
theorem zkQ (k : Nat) (r : Int) (h : cmpF k r = 0) : (foldSp k).1 ≤ r ∧ r ≤ (foldSp k).2.1 := by
 unfold cmpF at h
 repeat' split at h
 all_goals omega
theorem znA (k : Nat) (r : Int) (hp : Pos (fun i => cmpF i r) 17 k) (hn : ¬ (k < 17 ∧ cmpF k r = 0)) (m : Nat) (hm : m < 17) : ¬ ((foldSp m).1 ≤ r ∧ r ≤ (foldSp m).2.1) := by
 obtain ⟨h1, h2, h3⟩ := hp
 intro hc
 have h0 : cmpF m r = 0 := by unfold cmpF; rw [if_neg (by omega), if_neg (by omega)]
 have hge : ¬ m < k := fun h => by have := h2 m h; dsimp only at this; omega
 by_cases e : m = k
 ·exact hn ⟨by omega, by rw [← e]; exact h0⟩
 ·have h4 := h3 k (Nat.le_refl _) (by omega)
  dsimp only at h4
  have h5 : ¬ cmpF k r < 0 := by omega
  rw [zjA] at h5
  have h6 := zjU ⟨k, by omega⟩ ⟨m, hm⟩ (by simp only; omega)
  simp only at h6
  omega
theorem zlt (k : Nat) (hk : k < 17) (r : Nat) (h : (foldSp k).1 ≤ (r : Int) ∧ (r : Int) ≤ (foldSp k).2.1) : ((lowC r : Nat) : Int) = if ((r : Int) - (foldSp k).1) % (foldSp k).2.2.1 = 0 then (r : Int) + (foldSp k).2.2.2 else r := by
 match k, hk with
 | 0, _ | 1, _ | 2, _ | 3, _ | 4, _ | 5, _ | 6, _ | 7, _ | 8, _ | 9, _ | 10, _ | 11, _ | 12, _ | 13, _ | 14, _ | 15, _ | 16, _ =>
  simp only [foldSp, foldT, List.getD_cons_zero, List.getD_cons_succ] at h ⊢
  unfold lowC
  repeat (first | rw [if_pos (by omega)] | rw [if_neg (by omega)])
  try (repeat' split)
  all_goals omega
 | n + 17, hk => omega
theorem zpT (r : Nat) (h : ∀ m, m < 17 → ¬ ((foldSp m).1 ≤ (r : Int) ∧ (r : Int) ≤ (foldSp m).2.1)) : lowC r = r := by
 have h0 := h 0 (by omega); have h1 := h 1 (by omega); have h2 := h 2 (by omega); have h3 := h 3 (by omega); have h4 := h 4 (by omega); have h5 := h 5 (by omega); have h6 := h 6 (by omega)
 have h7 := h 7 (by omega); have h8 := h 8 (by omega); have h9 := h 9 (by omega); have h10 := h 10 (by omega); have h11 := h 11 (by omega); have h12 := h 12 (by omega); have h13 := h 13 (by omega)
 have h14 := h 14 (by omega); have h15 := h 15 (by omega); have h16 := h 16 (by omega)
 clear h
 simp only [foldSp, foldT, List.getD_cons_zero, List.getD_cons_succ] at h0 h1 h2 h3 h4 h5 h6 h7 h8 h9 h10 h11 h12 h13 h14 h15 h16
 unfold lowC
 repeat (first | rw [if_pos (by omega)] | rw [if_neg (by omega)])
end Go.Cs
namespace Go.Cs
set_option linter.unusedVariables false
set_option maxHeartbeats 4000000
open Go.Lib
set_option linter.unusedVariables false
def mk (l : List UInt8) (p : Nat × Nat) : List UInt8 × Nat × Nat := (foldL (cutL l p), p.1, p.2)
theorem Bd.take {l : List UInt8} {n : Nat} (h : Bd l n) : ∀ b, n ≤ b → Bd (l.take b) n := by
 induction h with
 | zero l => exact fun b _ => .zero _
 | step l n hne _ ih =>
  intro b hb
  have hw := decodeL_width l
  have hd := znj l b hne (by omega)
  have hl : 0 < l.length := List.length_pos_iff.2 hne
  have hne' : l.take b ≠ [] := by
   intro e
   have := congrArg List.length e
   rw [List.length_take, List.length_nil] at this
   omega
  have h1 := ih (b - (decodeL l).2) (by omega)
  rw [← hd]
  refine .step _ _ hne' ?_
  rw [hd, List.drop_take]
  exact h1
def W (u : List (Nat × Nat)) : Nat := (u.map (·.2)).sum
def need (l : List UInt8) : Nat := if 194 ≤ (l.getD 0 0).toNat ∧ (l.getD 0 0).toNat ≤ 223 then 2 else if 224 ≤ (l.getD 0 0).toNat ∧ (l.getD 0 0).toNat ≤ 239 then 3 else if 240 ≤ (l.getD 0 0).toNat ∧ (l.getD 0 0).toNat ≤ 244 then 4 else 1
theorem zcQ {α : Type} [DecidableEq α] : ∀ (a b : List α), a.Nodup → (∀ x ∈ a, x ∈ b) → a.length ≤ b.length
 | [], b, _, _ => Nat.zero_le _
 | x :: r, b, hn, hs => by
  rw [List.nodup_cons] at hn
  have hx : x ∈ b := hs x (by simp)
  have h1 := zcQ r (b.erase x) hn.2 fun y hy => by
   have hne : y ≠ x := fun e => hn.1 (e ▸ hy)
   exact (List.mem_erase_of_ne hne).2 (hs y (by simp [hy]))
  have h2 := List.length_erase_of_mem hx
  have h3 : 0 < b.length := List.length_pos_iff.2 fun e => by rw [e] at hx; cases hx
  simp only [List.length_cons]
  omega
theorem zcO {α : Type} (p : α → Bool) : ∀ (l : List α) (j : Nat), (∀ x ∈ l.take j, p x = true) → (j ≤ l.length) → (∀ x, l[j]? = some x → p x = false) → (l.takeWhile p).length = j
 | [], j, _, hj, _ => by simp at hj; simp [hj]
 | a :: r, 0, _, _, h => by
  have := h a rfl
  simp [this]
 | a :: r, j + 1, h1, hj, h => by
  have ha := h1 a (by simp)
  simp only [List.takeWhile_cons, ha, if_true, List.length_cons]
  rw [zcO p r j (fun x hx => h1 x (by simp [hx])) (by simpa using hj) (fun x hx => h x (by simpa using hx))]
set_option linter.unusedSectionVars false
def Dep (l : List Bx) : Nat → Int → Prop
 | 0, id => id = 0
 | d + 1, id => id ≠ 0 ∧ ∃ u, upOf l id = some u ∧ Dep l d u
theorem zcR (l : List Bx) : ∀ (n d : Nat) (id : Int), dep l n id = some d ↔ Dep l d id ∧ d ≤ n
 | 0, 0, id => by unfold dep Dep; by_cases h : id = 0 <;> simp [h]
 | 0, d + 1, id => by unfold dep; by_cases h : id = 0 <;> simp [h]
 | n + 1, 0, id => by
  unfold dep Dep
  by_cases h : id = 0
  ·simp [h]
  ·rw [if_neg h]
   constructor
   ·intro e
    cases hu : upOf l id with
    | none => rw [hu] at e; cases e
    | some u =>
     rw [hu] at e
     dsimp only at e
     cases hd : dep l n u with
     | none => rw [hd] at e; cases e
     | some x => rw [hd] at e; simp at e
   ·intro e; exact absurd e.1 h
 | n + 1, d + 1, id => by
  unfold dep Dep
  by_cases h : id = 0
  ·simp [h]
  ·rw [if_neg h]
   constructor
   ·intro e
    cases hu : upOf l id with
    | none => rw [hu] at e; cases e
    | some u =>
     rw [hu] at e
     dsimp only at e
     cases hd : dep l n u with
     | none => rw [hd] at e; cases e
     | some x =>
      rw [hd] at e
      simp at e
      subst e
      obtain ⟨h1, h2⟩ := (zcR l n x u).1 hd
      exact ⟨⟨h, u, rfl, h1⟩, by omega⟩
   ·rintro ⟨⟨_, u, hu, h1⟩, h2⟩
    rw [hu]
    dsimp only
    rw [(zcR l n d u).2 ⟨h1, by omega⟩]; rfl
theorem Dep.inj {l : List Bx} : ∀ {d e : Nat} {id : Int}, Dep l d id → Dep l e id → d = e
 | 0, 0, id, _, _ => rfl
 | 0, e + 1, id, h, k => absurd h k.1
 | d + 1, 0, id, h, k => absurd k h.1
 | d + 1, e + 1, id, ⟨_, u, hu, h⟩, ⟨_, v, hv, k⟩ => by
  rw [hu] at hv
  obtain rfl := Option.some.inj hv
  rw [Dep.inj h k]
theorem Dep.len {l : List Bx} {d : Nat} {id : Int} (h : Dep l d id) : d ≤ l.length := by
 have key : ∀ (d : Nat) (id : Int), Dep l d id → ∃ c : List Int, c.length = d ∧ c.Nodup ∧ (∀ x ∈ c, x ∈ l.map (·.id)) ∧ ∀ x ∈ c, ∃ e, e ≤ d ∧ Dep l e x := by
  intro d
  induction d with
  | zero => intro id _; exact ⟨[], rfl, .nil, by simp, by simp⟩
  | succ d ih =>
   rintro id ⟨h0, u, hu, hd⟩
   obtain ⟨c, h1, h2, h3, h4⟩ := ih u hd
   obtain ⟨b, hb, hid, _⟩ := zbI hu
   refine ⟨id :: c, by simp [h1], List.nodup_cons.2 ⟨fun hm => ?_, h2⟩, fun x hx => ?_, fun x hx => ?_⟩
   ·obtain ⟨e, he, hde⟩ := h4 id hm
    have := Dep.inj hde (show Dep l (d + 1) id from ⟨h0, u, hu, hd⟩)
    omega
   ·rcases List.mem_cons.1 hx with rfl | hx
    ·exact List.mem_map.2 ⟨b, hb, hid⟩
    ·exact h3 x hx
   ·rcases List.mem_cons.1 hx with rfl | hx
    ·exact ⟨d + 1, Nat.le_refl _, h0, u, hu, hd⟩
    ·obtain ⟨e, he, hde⟩ := h4 x hx
     exact ⟨e, by omega, hde⟩
 obtain ⟨c, h1, h2, h3, _⟩ := key d id h
 have := zcQ c (l.map (·.id)) h2 h3
 rw [List.length_map] at this
 omega
theorem RightP.dep {l : List Bx} (hr : RightP l) {b : Bx} (hb : b ∈ l) : ∃ d, Dep l d b.id ∧ d ≤ 8 := by
 obtain ⟨d, h1, h2⟩ := hr.deep b hb
 exact ⟨d, ((zcR _ _ _ _).1 h1).1, h2⟩
theorem zfz {l : List Bx} {b : Bx} {d : Nat} (h : Dep l d b.id) (h8 : d ≤ 8) : ∃ d, Go.Cs.dep l l.length b.id = some d ∧ d ≤ 8 := ⟨d, (zcR _ _ _ _).2 ⟨h, h.len⟩, h8⟩
def dpt (l : List Bx) (id : Int) : Nat := (dep l l.length id).getD 0
theorem zfZ {l : List Bx} {d : Nat} {id : Int} (h : Dep l d id) : dpt l id = d := by
 unfold dpt
 rw [(zcR _ _ _ _).2 ⟨h, h.len⟩]; rfl
inductive Reach (l : List Bx) (b : Int) : Int → Prop
 | here : Reach l b b
 | up {id u : Int} : upOf l id = some u → Reach l b u → Reach l b id
def withinN (l : List Bx) : Nat → Int → Int → Bool
 | 0, id, b => decide (id = b)
 | n + 1, id, b => if id = 0 ∨ id = b then decide (id = b) else match upOf l id with
  | none => false
  | some u => withinN l n u b
def within (l : List Bx) (id b : Int) : Bool := withinN l l.length id b
theorem zgn {l : List Bx} (hz : upOf l 0 = none) {b : Int} (hb : b ≠ 0) : ∀ (n d : Nat) (id : Int), Dep l d id → d ≤ n → (withinN l n id b = true ↔ Reach l b id)
 | 0, d, id, h, hn => by
  obtain rfl : d = 0 := by omega
  have : id = 0 := h
  subst this
  simp only [withinN, decide_eq_true_eq]
  constructor
  ·intro e; exact absurd e.symm hb
  ·intro e
   cases e with
   | here => rfl
   | up h _ => rw [hz] at h; cases h
 | n + 1, d, id, h, hn => by
  unfold withinN
  by_cases hc : id = 0 ∨ id = b
  ·rw [if_pos hc, decide_eq_true_eq]
   constructor
   ·rintro rfl; exact .here
   ·intro e
    rcases hc with rfl | rfl
    ·cases e with
     | here => rfl
     | up h _ => rw [hz] at h; cases h
    ·rfl
  ·rw [if_neg hc]
   cases d with
   | zero => exact absurd (.inl h) hc
   | succ d =>
    obtain ⟨h0, u, hu, hd⟩ := h
    rw [hu]
    dsimp only
    rw [zgn hz hb n d u hd (by omega)]
    constructor
    ·exact fun e => .up hu e
    ·intro e
     cases e with
     | here => exact absurd (.inr rfl) hc
     | up h k => rw [hu] at h; rw [Option.some.inj h]; exact k
theorem zdJ {l : List Bx} (hr : RightP l) {b id : Int} (hb : b ≠ 0) {d : Nat} (h : Dep l d id) : within l id b = true ↔ Reach l b id :=
 zgn (by rw [zeb, zfq hr]; rfl) hb _ d id h h.len
def hasId (l : List Bx) (id : Int) : Bool := l.any fun b => decide (b.id = id)
theorem zaw (l : List Bx) (id : Int) : hasId l id = true ↔ ∃ b ∈ l, b.id = id := by unfold hasId; simp
def takenL (l : List Bx) (up : Int) (name : List UInt8) (but : Int) : Bool := l.any fun b => decide (b.up = up ∧ b.id ≠ but ∧ foldL b.name = foldL name)
theorem zcS (l : List Bx) (up : Int) (name : List UInt8) (but : Int) : takenL l up name but = false ↔ ∀ b ∈ l, b.up = up → b.id ≠ but → foldL b.name ≠ foldL name := by
 unfold takenL
 rw [List.any_eq_false]
 constructor
 ·intro h b hb h1 h2 h3; exact h b hb (by simp [h1, h2, h3])
 ·intro h b hb e
  simp only [decide_eq_true_eq] at e
  exact h b hb e.1 e.2.1 e.2.2
def belowL (l : List Bx) (id : Int) : Nat := l.foldl (fun m b => if within l b.id id then max m (dpt l b.id - dpt l id + 1) else m) 0
def idxL (l : List Bx) (id : Int) : Nat := (l.takeWhile fun b => decide (b.id < id)).length
def insL (l : List Bx) (b : Bx) : List Bx := l.take (idxL l b.id) ++ b :: l.drop (idxL l b.id)
def setName (l : List Bx) (id : Int) (nm : List UInt8) : List Bx := l.map fun b => if b.id = id then { b with name := nm } else b
def setUp (l : List Bx) (id up : Int) : List Bx := l.map fun b => if b.id = id then { b with up := up } else b
def delL (l : List Bx) (id : Int) : List Bx := l.filter fun b => decide (b.id ≠ id)
def addL (l : List Bx) (up : Int) (name role : List UInt8) (id : Int) : List Bx × Nat :=
 if ¬ (rightL l = true ∧ namedB name = true ∧ role ∈ rolesL) then ([], 1)
 else if id < 1 ∨ 1099511627776 < id then ([], 6)
 else if hasId l id = true ∨ role ≠ [] ∧ (l.any fun b => decide (b.role = role)) = true then ([], 4)
 else if 64 ≤ l.length then ([], 3)
 else if ¬ (up = 0 ∨ hasId l up = true) then ([], 5)
 else if 8 ≤ dpt l up then ([], 10)
 else if takenL l up name 0 = true then ([], 4)
 else (insL l ⟨id, up, name, role⟩, 0)
def nameL (l : List Bx) (id : Int) (name : List UInt8) : List Bx × Nat :=
 if ¬ rightL l = true then ([], 1)
 else match boxOf l id with
  | none => ([], 5)
  | some b => if ¬ namedB name = true then ([], 1)
   else if takenL l b.up name id = true then ([], 4)
   else (setName l id name, 0)
def moveL (l : List Bx) (id up : Int) : List Bx × Nat :=
 if ¬ rightL l = true then ([], 1)
 else match boxOf l id with
  | none => ([], 5)
  | some b => if ¬ (up = 0 ∨ hasId l up = true) then ([], 5)
   else if up ≠ 0 ∧ within l up id = true then ([], 11)
   else if 8 < dpt l up + belowL l id then ([], 10)
   else if takenL l up b.name id = true then ([], 4)
   else (setUp l id up, 0)
def dropL (l : List Bx) (id : Int) : List Bx × Nat :=
 if ¬ rightL l = true then ([], 1)
 else if ¬ hasId l id = true then ([], 5)
 else if (l.any fun b => decide (b.up = id)) = true then ([], 20)
 else (delL l id, 0)
theorem zhL {l : List Bx} (h : l.Pairwise fun a b => a.id < b.id) (id : Int) : (∀ b ∈ l.take (idxL l id), b.id < id) ∧ (∀ b ∈ l.drop (idxL l id), id ≤ b.id) := by
 unfold idxL
 induction l with
 | nil => simp
 | cons a l ih =>
  obtain ⟨h1, h2⟩ := List.pairwise_cons.1 h
  by_cases ha : a.id < id
  ·rw [List.takeWhile_cons_of_pos (by simpa using ha), List.length_cons, List.take_succ_cons, List.drop_succ_cons]
   refine ⟨fun b hb => ?_, (ih h2).2⟩
   rcases List.mem_cons.1 hb with rfl | hb
   ·exact ha
   ·exact (ih h2).1 b hb
  ·rw [List.takeWhile_cons_of_neg (by simpa using ha)]
   refine ⟨by simp, fun b hb => ?_⟩
   rcases List.mem_cons.1 hb with rfl | hb
   ·omega
   ·have := h1 b hb; omega
theorem mem_ins {l : List Bx} {b c : Bx} : c ∈ insL l b ↔ c = b ∨ c ∈ l := by
 unfold insL
 conv => rhs; rw [← List.take_append_drop (idxL l b.id) l]
 simp only [List.mem_append, List.mem_cons]
 constructor
 ·rintro (h | h | h)
  ·exact .inr (.inl h)
  ·exact .inl h
  ·exact .inr (.inr h)
 ·rintro (h | h | h)
  ·exact .inr (.inl h)
  ·exact .inl h
  ·exact .inr (.inr h)
theorem zpq (l : List Bx) (b : Bx) : (insL l b).length = l.length + 1 := by
 unfold insL
 rw [List.length_append, List.length_cons, List.length_take, List.length_drop]
 have : idxL l b.id ≤ l.length := (List.takeWhile_prefix _).length_le
 omega
theorem zkX {l : List Bx} (h : l.Pairwise fun a b => a.id < b.id) {b : Bx} (hb : ∀ c ∈ l, c.id ≠ b.id) : (insL l b).Pairwise fun a b => a.id < b.id := by
 obtain ⟨h1, h2⟩ := zhL h b.id
 have h' := h
 rw [← List.take_append_drop (idxL l b.id) l, List.pairwise_append] at h'
 obtain ⟨p1, p2, p3⟩ := h'
 unfold insL
 rw [List.pairwise_append]
 refine ⟨p1, List.pairwise_cons.2 ⟨fun c hc => ?_, p2⟩, fun a ha c hc => ?_⟩
 ·have := h2 c hc
  have := hb c (List.mem_of_mem_drop hc)
  omega
 ·rcases List.mem_cons.1 hc with rfl | hc
  ·exact h1 a ha
  ·exact p3 a ha c hc
theorem zjc {l : List Bx} {b : Bx} {R : Bx → Bx → Prop} (h : l.Pairwise R) (h1 : ∀ c ∈ l, R c b) (h2 : ∀ c ∈ l, R b c) : (insL l b).Pairwise R := by
 rw [← List.take_append_drop (idxL l b.id) l, List.pairwise_append] at h
 obtain ⟨p1, p2, p3⟩ := h
 unfold insL
 rw [List.pairwise_append]
 refine ⟨p1, List.pairwise_cons.2 ⟨fun c hc => h2 c (List.mem_of_mem_drop hc), p2⟩, fun a ha c hc => ?_⟩
 rcases List.mem_cons.1 hc with rfl | hc
 ·exact h1 a (List.mem_of_mem_take ha)
 ·exact p3 a ha c hc
theorem Dep.congr {l l' : List Bx} (S : Int → Prop) (hS : ∀ id u, S id → upOf l id = some u → upOf l' id = some u ∧ S u) : ∀ (d : Nat) (id : Int), S id → Dep l d id → Dep l' d id
 | 0, id, _, h => h
 | d + 1, id, hs, ⟨h0, u, hu, h⟩ => ⟨h0, u, (hS id u hs hu).1, Dep.congr S hS d u (hS id u hs hu).2 h⟩
theorem zdp {l : List Bx} (h : l.Pairwise fun a b => a.id < b.id) {id u : Int} : upOf l id = some u ↔ ∃ b ∈ l, b.id = id ∧ b.up = u := by
 constructor
 ·exact zbI
 ·rintro ⟨b, hb, rfl, rfl⟩; exact ziS h hb
section
variable {l : List Bx} (hr : RightP l) {x : Bx} (hx : x ∈ l) {up : Int} (hup : up = 0 ∨ ∃ c ∈ l, c.id = up) (hn : ¬ Reach l x.id up)
include hr
theorem zdI (hup : up = 0 ∨ ∃ c ∈ l, c.id = up) : Dep l (dpt l up) up ∧ dpt l up ≤ 8 := by
 rcases hup with rfl | ⟨c, hc, rfl⟩
 ·have : Dep l 0 0 := rfl
  rw [zfZ this]; exact ⟨this, Nat.zero_le _⟩
 ·obtain ⟨d, h, h8⟩ := hr.dep hc
  rw [zfZ h]; exact ⟨h, h8⟩
theorem zeV (id up : Int) : (setUp l id up).Pairwise fun a b => a.id < b.id := by
 unfold setUp
 rw [List.pairwise_map]
 refine hr.asc.imp fun {a b} h => ?_
 have e : ∀ c : Bx, (if c.id = id then { c with up := up } else c).id = c.id := fun c => by split <;> rfl
 rw [e, e]; exact h
theorem zbE {id up : Int} {c : Bx} : c ∈ setUp l id up ↔ ∃ b ∈ l, c = if b.id = id then { b with up := up } else b := by
 unfold setUp
 rw [List.mem_map]
 exact ⟨fun ⟨b, h1, h2⟩ => ⟨b, h1, h2.symm⟩, fun ⟨b, h1, h2⟩ => ⟨b, h1, h2.symm⟩⟩
include hx
theorem zfs : upOf (setUp l x.id up) x.id = some up := by
 rw [zdp (zeV hr _ _)]
 exact ⟨{ x with up := up }, (zbE hr).2 ⟨x, hx, by rw [if_pos rfl]⟩, rfl, rfl⟩
omit hx in
theorem zcG {id y u : Int} (hy : y ≠ id) : upOf (setUp l id up) y = some u ↔ upOf l y = some u := by
 rw [zdp (zeV hr _ _), zdp hr.asc]
 constructor
 ·rintro ⟨b, hb, rfl, rfl⟩
  obtain ⟨c, hc, rfl⟩ := (zbE hr).1 hb
  by_cases e : c.id = id
  ·rw [if_pos e] at hy; exact absurd e hy
  ·rw [if_neg e]; exact ⟨c, hc, rfl, rfl⟩
 ·rintro ⟨b, hb, rfl, rfl⟩
  exact ⟨b, (zbE hr).2 ⟨b, hb, by rw [if_neg hy]⟩, rfl, rfl⟩
omit hx in
theorem ziq {id : Int} : ∀ (d : Nat) (y : Int), ¬ Reach l id y → Dep l d y → Dep (setUp l id up) d y
 | 0, y, _, h => h
 | d + 1, y, hy, ⟨h0, u, hu, h⟩ => ⟨h0, u, (zcG hr (fun e => hy (by rw [e]; exact .here))).2 hu, ziq d u (fun e => hy (.up hu e)) h⟩
theorem zoV {di du : Nat} (hi : Dep l di x.id) (hu : Dep l du up) (hn : ¬ Reach l x.id up) : ∀ (d : Nat) (y : Int), Reach l x.id y → Dep l d y → di ≤ d ∧ Dep (setUp l x.id up) (d - di + du + 1) y
 | 0, y, hy, h => by
  have h0 : y = 0 := h
  cases hy with
  | here => exact absurd (hr.pos x hx).1 (by omega)
  | up e _ => rw [h0, zeb, zfq hr] at e; cases e
 | d + 1, y, hy, ⟨h0, u, hu2, h⟩ => by
  by_cases e : y = x.id
  ·subst e
   have := Dep.inj hi (show Dep l (d + 1) x.id from ⟨h0, u, hu2, h⟩)
   refine ⟨by omega, ?_⟩
   rw [show d + 1 - di + du + 1 = du + 1 by omega]
   exact ⟨h0, up, zfs hr hx, ziq hr _ _ hn hu⟩
  ·cases hy with
   | here => exact absurd rfl e
   | up k hk =>
    rw [k] at hu2
    obtain rfl := Option.some.inj hu2
    obtain ⟨g1, g2⟩ := zoV hi hu hn d _ hk h
    refine ⟨by omega, ?_⟩
    rw [show d + 1 - di + du + 1 = (d - di + du + 1) + 1 by omega]
    exact ⟨h0, _, (zcG hr e).2 k, g2⟩
include hup hn
theorem zhm {y : Bx} (hy : y ∈ l) : ∃ d, Dep (setUp l x.id up) d y.id ∧ (within l y.id x.id = true → dpt l x.id ≤ dpt l y.id ∧ d = dpt l y.id - dpt l x.id + dpt l up + 1) ∧ (¬ within l y.id x.id = true → d ≤ 8) := by
 have hx0 : x.id ≠ 0 := by have := (hr.pos x hx).1; omega
 obtain ⟨dy, h1, h2⟩ := hr.dep hy
 obtain ⟨dx, h3, h4⟩ := hr.dep hx
 obtain ⟨h5, h6⟩ := zdI hr hup
 have hw := zdJ hr hx0 h1
 by_cases hc : Reach l x.id y.id
 ·obtain ⟨g1, g2⟩ := zoV hr hx h3 h5 hn dy y.id hc h1
  refine ⟨_, g2, fun _ => ?_, fun h => absurd (hw.2 hc) h⟩
  rw [zfZ h1, zfZ h3]
  exact ⟨g1, rfl⟩
 ·exact ⟨dy, ziq hr dy y.id hc h1, fun h => absurd (hw.1 h) hc, fun _ => h2⟩
omit hr hx hup hn in
theorem zjJ (f : Bx → Bool) (g : Bx → Nat) (N : Nat) : ∀ (l : List Bx) (m : Nat), l.foldl (fun m b => if f b then max m (g b) else m) m ≤ N ↔ m ≤ N ∧ ∀ b ∈ l, f b = true → g b ≤ N
 | [], m => by simp
 | b :: l, m => by
  rw [List.foldl_cons, zjJ f g N l]
  constructor
  ·rintro ⟨h1, h2⟩
   split at h1
   ·rename_i hf
    refine ⟨by omega, fun c hc hf2 => ?_⟩
    rcases List.mem_cons.1 hc with rfl | hc
    ·omega
    ·exact h2 c hc hf2
   ·rename_i hf
    refine ⟨h1, fun c hc hf2 => ?_⟩
    rcases List.mem_cons.1 hc with rfl | hc
    ·exact absurd hf2 hf
    ·exact h2 c hc hf2
  ·rintro ⟨h1, h2⟩
   refine ⟨?_, fun c hc => h2 c (by simp [hc])⟩
   split
   ·rename_i hf
    have := h2 b (by simp) hf
    omega
   ·exact h1
theorem zhu : dpt l up + belowL l x.id ≤ 8 ↔ ∀ b ∈ setUp l x.id up, ∃ d, Dep (setUp l x.id up) d b.id ∧ d ≤ 8 := by
 have hidem : ∀ b ∈ setUp l x.id up, ∃ y ∈ l, y.id = b.id := fun b hb => by
  obtain ⟨y, hy, rfl⟩ := (zbE hr).1 hb
  exact ⟨y, hy, by split <;> rfl⟩
 have h8 := (zdI hr hup).2
 have hb := zjJ (fun b => within l b.id x.id) (fun b => dpt l b.id - dpt l x.id + 1) (8 - dpt l up) l 0
 have hbb : belowL l x.id ≤ 8 - dpt l up ↔ dpt l up + belowL l x.id ≤ 8 := by omega
 rw [← hbb]
 refine hb.trans ⟨?_, ?_⟩
 ·rintro ⟨_, h⟩ b hb2
  obtain ⟨y, hy, he⟩ := hidem b hb2
  obtain ⟨d, g1, g2, g3⟩ := zhm hr hx hup hn hy
  rw [he] at g1
  refine ⟨d, g1, ?_⟩
  by_cases hw : within l y.id x.id = true
  ·have := h y hy hw
   have := (g2 hw).2
   omega
  ·exact g3 hw
 ·intro h
  refine ⟨Nat.zero_le _, fun y hy hw => ?_⟩
  obtain ⟨d, g1, g2, g3⟩ := zhm hr hx hup hn hy
  have hb3 : (if y.id = x.id then { y with up := up } else y) ∈ setUp l x.id up := (zbE hr).2 ⟨y, hy, rfl⟩
  obtain ⟨e, h1, h2⟩ := h _ hb3
  rw [show (if y.id = x.id then { y with up := up } else y : Bx).id = y.id by split <;> rfl] at h1
  have := Dep.inj g1 h1
  have := (g2 hw).2
  omega
end
theorem zmg {l : List Bx} (hr : RightP l) {b : Bx} (h1 : namedB b.name = true) (h2 : b.role ∈ rolesL) (h3 : 1 ≤ b.id ∧ b.id ≤ 1099511627776) (h4 : ∀ c ∈ l, c.id ≠ b.id) (h5 : b.role ≠ [] → ∀ c ∈ l, c.role ≠ b.role) (h6 : l.length < 64)
  (h7 : b.up = 0 ∨ ∃ c ∈ l, c.id = b.up) (h8 : dpt l b.up < 8) (h9 : takenL l b.up b.name 0 = false) : RightP (insL l b) := by
 have ht := (zcS _ _ _ _).1 h9
 have hasc := zkX hr.asc h4
 have hc : ∀ d id, (id = 0 ∨ ∃ c ∈ l, c.id = id) → Dep l d id → Dep (insL l b) d id := fun d id => Dep.congr (fun id => id = 0 ∨ ∃ c ∈ l, c.id = id) (fun id u hs hu => by
  obtain ⟨c, hc, rfl, rfl⟩ := zbI hu
  exact ⟨(zdp hasc).2 ⟨c, mem_ins.2 (.inr hc), rfl, rfl⟩, up_cases hr hc⟩) d id
 have mem : ∀ {p : Bx → Prop}, p b → (∀ c ∈ l, p c) → ∀ c ∈ insL l b, p c := fun hb hl c hc => by
  rcases mem_ins.1 hc with rfl | hc
  ·exact hb
  ·exact hl c hc
 refine ⟨by rw [zpq]; omega, mem h3 hr.pos, hasc, mem h1 hr.named, mem h2 hr.roles, zjc hr.uniq (fun c hc e => ?_) (fun c hc e => ?_), zjc hr.urole (fun c hc e => h5 e.1 c hc e.2) (fun c hc e => ?_), mem ?_ fun c hc2 => ?_⟩
 ·exact ht c hc e.1 (by have := (hr.pos c hc).1; omega) e.2
 ·exact ht c hc e.1.symm (by have := (hr.pos c hc).1; omega) e.2.symm
 ·exact h5 (by rw [e.2]; exact e.1) c hc e.2.symm
 ·obtain ⟨g1, _⟩ := zdI hr h7
  exact zfz (d := dpt l b.up + 1) ⟨by omega, b.up, (zdp hasc).2 ⟨b, mem_ins.2 (.inl rfl), rfl, rfl⟩, hc _ _ h7 g1⟩ (by omega)
 ·obtain ⟨d, g1, g2⟩ := hr.dep hc2
  exact zfz (hc d _ (.inr ⟨c, hc2, rfl⟩) g1) g2
theorem zkN {l : List Bx} (hr : RightP l) {x : Bx} (hx : x ∈ l) {nm : List UInt8} (h1 : namedB nm = true) (h2 : takenL l x.up nm x.id = false) : RightP (setName l x.id nm) := by
 have ht := (zcS _ _ _ _).1 h2
 have hid : ∀ c : Bx, (if c.id = x.id then { c with name := nm } else c).id = c.id := fun c => by split <;> rfl
 have hupc : ∀ c : Bx, (if c.id = x.id then { c with name := nm } else c).up = c.up := fun c => by split <;> rfl
 have hrole : ∀ c : Bx, (if c.id = x.id then { c with name := nm } else c).role = c.role := fun c => by split <;> rfl
 have hasc : (setName l x.id nm).Pairwise fun a b => a.id < b.id := by
  unfold setName
  rw [List.pairwise_map]
  exact hr.asc.imp fun {a b} h => by rw [hid, hid]; exact h
 have mem : ∀ {p : Bx → Prop}, (∀ c ∈ l, p (if c.id = x.id then { c with name := nm } else c)) → ∀ c ∈ setName l x.id nm, p c := fun h c hc => by
  obtain ⟨b, hb, rfl⟩ := List.mem_map.1 hc
  exact h b hb
 have hup : ∀ id u, upOf l id = some u → upOf (setName l x.id nm) id = some u := fun id u h => by
  obtain ⟨c, hc, rfl, rfl⟩ := zbI h
  exact (zdp hasc).2 ⟨_, List.mem_map.2 ⟨c, hc, rfl⟩, hid c, hupc c⟩
 refine ⟨by unfold setName; rw [List.length_map]; exact hr.len, mem fun c hc => by rw [hid]; exact hr.pos c hc, hasc, mem fun c hc => ?_, mem fun c hc => by rw [hrole]; exact hr.roles c hc, ?_, ?_, mem fun c hc => ?_⟩
 ·split
  ·exact h1
  ·exact hr.named c hc
 ·unfold setName
  rw [List.pairwise_map]
  refine (hr.asc.and hr.uniq).imp_of_mem fun {a b} ha hb h e => ?_
  obtain ⟨g1, g2⟩ := h
  rw [hupc, hupc] at e
  by_cases ea : a.id = x.id
  ·have := zcV hr.asc ha hx ea
   subst this
   rw [if_pos rfl, if_neg (by omega)] at e
   exact ht b hb e.1.symm (by omega) e.2.symm
  ·by_cases eb : b.id = x.id
   ·have := zcV hr.asc hb hx eb
    subst this
    rw [if_pos rfl, if_neg (by omega)] at e
    exact ht a ha e.1 (by omega) e.2
   ·rw [if_neg ea, if_neg eb] at e
    exact g2 e
 ·unfold setName
  rw [List.pairwise_map]
  exact hr.urole.imp fun {a b} h => by rw [hrole, hrole]; exact h
 ·obtain ⟨d, g1, g2⟩ := hr.dep hc
  rw [hid]
  exact zfz (b := c) (Dep.congr (fun _ => True) (fun id u _ hu => ⟨hup id u hu, trivial⟩) d _ trivial g1) g2
theorem zkz {l : List Bx} (hr : RightP l) {x : Bx} (hx : x ∈ l) {up : Int} (hup : up = 0 ∨ ∃ c ∈ l, c.id = up) (hn : ¬ Reach l x.id up) (h8 : dpt l up + belowL l x.id ≤ 8) (h2 : takenL l up x.name x.id = false) : RightP (setUp l x.id up) := by
 have ht := (zcS _ _ _ _).1 h2
 have hid : ∀ c : Bx, (if c.id = x.id then { c with up := up } else c).id = c.id := fun c => by split <;> rfl
 have hname : ∀ c : Bx, (if c.id = x.id then { c with up := up } else c).name = c.name := fun c => by split <;> rfl
 have hrole : ∀ c : Bx, (if c.id = x.id then { c with up := up } else c).role = c.role := fun c => by split <;> rfl
 have mem : ∀ {p : Bx → Prop}, (∀ c ∈ l, p (if c.id = x.id then { c with up := up } else c)) → ∀ c ∈ setUp l x.id up, p c := fun h c hc => by
  obtain ⟨b, hb, rfl⟩ := List.mem_map.1 hc
  exact h b hb
 refine ⟨by unfold setUp; rw [List.length_map]; exact hr.len, mem fun c hc => by rw [hid]; exact hr.pos c hc, zeV hr _ _, mem fun c hc => by rw [hname]; exact hr.named c hc, mem fun c hc => by rw [hrole]; exact hr.roles c hc, ?_, ?_, fun b hb => ?_⟩
 ·unfold setUp
  rw [List.pairwise_map]
  refine (hr.asc.and hr.uniq).imp_of_mem fun {a b} ha hb h e => ?_
  obtain ⟨g1, g2⟩ := h
  rw [hname, hname] at e
  by_cases ea : a.id = x.id
  ·have := zcV hr.asc ha hx ea
   subst this
   rw [if_pos rfl, if_neg (by omega)] at e
   exact ht b hb e.1.symm (by omega) e.2.symm
  ·by_cases eb : b.id = x.id
   ·have := zcV hr.asc hb hx eb
    subst this
    rw [if_pos rfl, if_neg (by omega)] at e
    exact ht a ha e.1 (by omega) e.2
   ·rw [if_neg ea, if_neg eb] at e
    exact g2 e
 ·unfold setUp
  rw [List.pairwise_map]
  exact hr.urole.imp fun {a b} h => by rw [hrole, hrole]; exact h
 ·obtain ⟨d, g1, g2⟩ := (zhu hr hx hup hn).1 h8 b hb
  exact zfz g1 g2
theorem zkg {l : List Bx} (hr : RightP l) {id : Int} (h : ∀ b ∈ l, b.up ≠ id) : RightP (delL l id) := by
 have hsub : (delL l id).Sublist l := List.filter_sublist
 have hm : ∀ {c : Bx}, c ∈ delL l id ↔ c ∈ l ∧ c.id ≠ id := by
  intro c
  unfold delL
  rw [List.mem_filter, decide_eq_true_eq]
 have hasc := hr.asc.sublist hsub
 refine ⟨Nat.le_trans hsub.length_le hr.len, fun b hb => hr.pos b (hsub.mem hb), hasc, fun b hb => hr.named b (hsub.mem hb), fun b hb => hr.roles b (hsub.mem hb), hr.uniq.sublist hsub, hr.urole.sublist hsub, fun b hb => ?_⟩
 obtain ⟨d, g1, g2⟩ := hr.dep (hsub.mem hb)
 refine zfz (Dep.congr (fun i => i = 0 ∨ ∃ c ∈ delL l id, c.id = i) (fun i u hs hu => ?_) d _ (.inr ⟨b, hb, rfl⟩) g1) g2
 obtain ⟨c, hc, rfl, rfl⟩ := zbI hu
 have hci : c ∈ delL l id := by
  rcases hs with hs | ⟨e, he, hs⟩
  ·have := (hr.pos c hc).1; omega
  ·rw [← zcV hr.asc (hsub.mem he) hc hs]; exact he
 refine ⟨(zdp hasc).2 ⟨c, hci, rfl, rfl⟩, ?_⟩
 rcases up_cases hr hc with h0 | ⟨e, he, h0⟩
 ·exact .inl h0
 ·exact .inr ⟨e, hm.2 ⟨he, fun e2 => h c hc (by omega)⟩, h0⟩
theorem zlS : ∀ {a b : List Bx}, (a.Pairwise fun x y => x.id < y.id) → (b.Pairwise fun x y => x.id < y.id) → (∀ c, c ∈ a ↔ c ∈ b) → a = b
 | [], [], _, _, _ => rfl
 | [], y :: s, _, _, h => absurd ((h y).2 (by simp)) (by simp)
 | x :: r, [], _, _, h => absurd ((h x).1 (by simp)) (by simp)
 | x :: r, y :: s, ha, hb, h => by
  obtain ⟨a1, a2⟩ := List.pairwise_cons.1 ha
  obtain ⟨b1, b2⟩ := List.pairwise_cons.1 hb
  have hxy : x = y := by
   rcases List.mem_cons.1 ((h x).1 (by simp)) with e | e
   ·exact e
   ·rcases List.mem_cons.1 ((h y).2 (by simp)) with k | k
    ·exact k.symm
    ·have := b1 x e; have := a1 y k; omega
  subst hxy
  congr 1
  refine zlS a2 b2 fun c => ?_
  have := h c
  simp only [List.mem_cons] at this
  constructor
  ·intro hc
   rcases this.1 (.inr hc) with rfl | k
   ·have := a1 c hc; omega
   ·exact k
  ·intro hc
   rcases this.2 (.inr hc) with rfl | k
   ·have := b1 c hc; omega
   ·exact k
theorem ziU {l : List Bx} {id : Int} {c : Bx} : c ∈ delL l id ↔ c ∈ l ∧ c.id ≠ id := by
 unfold delL
 rw [List.mem_filter, decide_eq_true_eq]
theorem zpz {l : List Bx} (h : l.Pairwise fun a b => a.id < b.id) (id : Int) : (delL l id).Pairwise fun a b => a.id < b.id := h.sublist List.filter_sublist
theorem zpx {l : List Bx} (h : l.Pairwise fun a b => a.id < b.id) {b : Bx} (hb : ∀ c ∈ l, c.id ≠ b.id) : delL (insL l b) b.id = l :=
 zlS (zpz (zkX h hb) _) h fun c => by
  rw [ziU, mem_ins]
  constructor
  ·rintro ⟨rfl | h1, h2⟩
   ·exact absurd rfl h2
   ·exact h1
  ·exact fun h1 => ⟨.inr h1, hb c h1⟩
theorem zhe {l : List Bx} (h : l.Pairwise fun a b => a.id < b.id) {x : Bx} (hx : x ∈ l) (nm : List UInt8) : setName (setName l x.id nm) x.id x.name = l := by
 unfold setName
 rw [List.map_map]
 conv => rhs; rw [← List.map_id l]
 refine List.map_congr_left fun b hb => ?_
 simp only [Function.comp]
 by_cases e : b.id = x.id
 ·have := zcV h hb hx e
  subst this
  simp
 ·simp [e]
theorem zeX {l : List Bx} (h : l.Pairwise fun a b => a.id < b.id) {x : Bx} (hx : x ∈ l) (up : Int) : setUp (setUp l x.id up) x.id x.up = l := by
 unfold setUp
 rw [List.map_map]
 conv => rhs; rw [← List.map_id l]
 refine List.map_congr_left fun b hb => ?_
 simp only [Function.comp]
 by_cases e : b.id = x.id
 ·have := zcV h hb hx e
  subst this
  simp
 ·simp [e]
theorem Reach.dep {l : List Bx} (hz : upOf l 0 = none) {b y : Int} (h : Reach l b y) : ∀ {d : Nat}, Dep l d y → ∃ e, e ≤ d ∧ Dep l e b := by
 induction h with
 | here => intro d hd; exact ⟨d, Nat.le_refl _, hd⟩
 | @up id u hu _ ih =>
  intro d hd
  cases d with
  | zero =>
   have h0 : id = 0 := hd
   rw [h0, hz] at hu; cases hu
  | succ d =>
   obtain ⟨h0, v, hv, hd⟩ := hd
   rw [hu] at hv
   obtain rfl := Option.some.inj hv
   obtain ⟨e, h1, h2⟩ := ih hd
   exact ⟨e, by omega, h2⟩
theorem RightP.zero {l : List Bx} (hr : RightP l) : upOf l 0 = none := by rw [zeb, zfq hr]; rfl
theorem zkk {l : List Bx} (hr : RightP l) {x up y : Int} (h : Reach (setUp l x up) x y) : Reach l x y := by
 induction h with
 | here => exact .here
 | @up id u hu _ ih =>
  by_cases e : id = x
  ·rw [e]; exact .here
  ·exact .up ((zcG hr e).1 hu) ih
theorem zim {l : List Bx} (hr : RightP l) {x : Bx} (hx : x ∈ l) : ¬ Reach l x.id x.up := fun h => by
 obtain ⟨d, h1, h2, h3, h4⟩ := znC hr hx
 obtain ⟨e, g1, g2⟩ := h.dep hr.zero ((zcR _ _ _ _).1 h4).1
 have := Dep.inj g2 ((zcR _ _ _ _).1 h3).1
 omega
structure AddOk (l : List Bx) (b : Bx) : Prop where
 name : namedB b.name = true
 role : b.role ∈ rolesL
 id : 1 ≤ b.id ∧ b.id ≤ 1099511627776
 new : ∀ c ∈ l, c.id ≠ b.id
 once : b.role ≠ [] → ∀ c ∈ l, c.role ≠ b.role
 len : l.length < 64
 up : b.up = 0 ∨ ∃ c ∈ l, c.id = b.up
 deep : dpt l b.up < 8
 free : takenL l b.up b.name 0 = false
theorem zmt {l : List Bx} (up : Int) (name role : List UInt8) (id : Int) : (addL l up name role id).2 = 0 ↔ RightP l ∧ AddOk l ⟨id, up, name, role⟩ := by
 unfold addL
 rw [← zaX]
 by_cases h1 : rightL l = true ∧ namedB name = true ∧ role ∈ rolesL
 ·rw [if_neg (by simpa using h1)]
  by_cases h2 : id < 1 ∨ 1099511627776 < id
  ·rw [if_pos h2]
   exact ⟨fun e => (by cases e), fun e => by have := e.2.id; dsimp only at this; omega⟩
  ·rw [if_neg h2]
   by_cases h3 : hasId l id = true ∨ role ≠ [] ∧ (l.any fun b => decide (b.role = role)) = true
   ·rw [if_pos h3]
    refine ⟨fun e => (by cases e), fun e => ?_⟩
    rcases h3 with h3 | ⟨h3, h4⟩
    ·obtain ⟨c, hc, he⟩ := (zaw _ _).1 h3
     exact absurd he (e.2.new c hc)
    ·obtain ⟨c, hc, he⟩ := List.any_eq_true.1 h4
     exact absurd (by simpa using he) (e.2.once h3 c hc)
   ·rw [if_neg h3]
    by_cases h5 : 64 ≤ l.length
    ·rw [if_pos h5]
     exact ⟨fun e => (by cases e), fun e => by have := e.2.len; omega⟩
    ·rw [if_neg h5]
     by_cases h6 : up = 0 ∨ hasId l up = true
     ·rw [if_neg (fun hn => hn h6)]
      by_cases h7 : 8 ≤ dpt l up
      ·rw [if_pos h7]
       exact ⟨fun e => (by cases e), fun e => by have := e.2.deep; dsimp only at this; omega⟩
      ·rw [if_neg h7]
       by_cases h8 : takenL l up name 0 = true
       ·rw [if_pos h8]
        exact ⟨fun e => (by cases e), fun e => by have := e.2.free; dsimp only at this; rw [h8] at this; cases this⟩
       ·rw [if_neg h8]
        refine ⟨fun _ => ⟨h1.1, h1.2.1, h1.2.2, ?_, ?_, ?_, by omega, ?_, ?_, by simpa using h8⟩, fun _ => rfl⟩
        ·dsimp only; omega
        ·intro c hc e; exact h3 (.inl ((zaw _ _).2 ⟨c, hc, e⟩))
        ·intro hne c hc e; exact h3 (.inr ⟨hne, List.any_eq_true.2 ⟨c, hc, by simpa using e⟩⟩)
        ·dsimp only; rw [← zaw]; exact h6
        ·dsimp only; omega
     ·rw [if_pos h6]
      refine ⟨fun e => (by cases e), fun e => ?_⟩
      have := e.2.up
      dsimp only at this
      rw [← zaw] at this
      exact absurd this h6
 ·rw [if_pos (by simpa using h1)]
  exact ⟨fun e => (by cases e), fun e => absurd ⟨e.1, e.2.name, e.2.role⟩ h1⟩
theorem zql {l : List Bx} {up : Int} {name role : List UInt8} {id : Int} : (addL l up name role id).1 = if (addL l up name role id).2 = 0 then insL l ⟨id, up, name, role⟩ else [] := by
 unfold addL
 repeat' split
 all_goals first | rfl | contradiction
theorem zjH {l : List Bx} (id : Int) (nm : List UInt8) : (nameL l id nm).2 = 0 ↔ RightP l ∧ ∃ x ∈ l, x.id = id ∧ namedB nm = true ∧ takenL l x.up nm id = false := by
 unfold nameL
 by_cases h1' : rightL l = true
 ·have h1 := (zaX l).1 h1'
  rw [if_neg (by simpa using h1')]
  cases hb : boxOf l id with
  | none => exact ⟨fun e => (by cases e), fun ⟨_, x, hx, he, _⟩ => absurd he (zcs.1 hb x hx)⟩
  | some b =>
   obtain ⟨hm, rfl⟩ := zdu hb
   dsimp only
   by_cases h2 : namedB nm = true
   ·rw [if_neg (by simpa using h2)]
    by_cases h3 : takenL l b.up nm b.id = true
    ·rw [if_pos h3]
     refine ⟨fun e => (by cases e), fun ⟨_, x, hx, he, _, h⟩ => ?_⟩
     rw [zcV h1.asc hx hm he] at h
     rw [h3] at h; cases h
    ·rw [if_neg h3]
     exact ⟨fun _ => ⟨h1, b, hm, rfl, h2, by simpa using h3⟩, fun _ => rfl⟩
   ·rw [if_pos (by simpa using h2)]
    exact ⟨fun e => (by cases e), fun ⟨_, x, hx, he, h, _⟩ => absurd h h2⟩
 ·rw [if_pos (by simpa using h1')]
  exact ⟨fun e => (by cases e), fun e => absurd ((zaX l).2 e.1) h1'⟩
theorem zjk {l : List Bx} {id : Int} {nm : List UInt8} : (nameL l id nm).1 = if (nameL l id nm).2 = 0 then setName l id nm else [] := by
 unfold nameL
 repeat' split
 all_goals first | rfl | contradiction
structure MoveOk (l : List Bx) (x : Bx) (up : Int) : Prop where
 par : up = 0 ∨ ∃ c ∈ l, c.id = up
 loop : ¬ Reach l x.id up
 deep : dpt l up + belowL l x.id ≤ 8
 free : takenL l up x.name x.id = false
theorem zhK {l : List Bx} (hr : RightP l) {x : Bx} (hx : x ∈ l) {up : Int} (hup : up = 0 ∨ ∃ c ∈ l, c.id = up) : (up ≠ 0 ∧ within l up x.id = true) ↔ Reach l x.id up := by
 have hx0 : x.id ≠ 0 := by have := (hr.pos x hx).1; omega
 rcases hup with rfl | ⟨c, hc, rfl⟩
 ·constructor
  ·exact fun h => absurd rfl h.1
  ·intro h
   generalize hz : (0 : Int) = z at h
   cases h with
   | here => exact absurd hz.symm hx0
   | up e _ => rw [← hz, hr.zero] at e; cases e
 ·obtain ⟨d, hd, _⟩ := hr.dep hc
  rw [zdJ hr hx0 hd]
  have : c.id ≠ 0 := by have := (hr.pos c hc).1; omega
  exact ⟨fun h => h.2, fun h => ⟨this, h⟩⟩
theorem zji {l : List Bx} (id up : Int) : (moveL l id up).2 = 0 ↔ RightP l ∧ ∃ x ∈ l, x.id = id ∧ MoveOk l x up := by
 unfold moveL
 by_cases h1' : rightL l = true
 ·have h1 := (zaX l).1 h1'
  rw [if_neg (by simpa using h1')]
  cases hb : boxOf l id with
  | none => exact ⟨fun e => (by cases e), fun ⟨_, x, hx, he, _⟩ => absurd he (zcs.1 hb x hx)⟩
  | some b =>
   obtain ⟨hm, rfl⟩ := zdu hb
   dsimp only
   have back : ∀ {p : Prop}, (MoveOk l b up → p) → (RightP l ∧ ∃ x ∈ l, x.id = b.id ∧ MoveOk l x up) → p := fun hp ⟨_, x, hx, he, h⟩ => by
    rw [zcV h1.asc hx hm he] at h
    exact hp h
   by_cases h2 : up = 0 ∨ hasId l up = true
   ·rw [if_neg (fun hn => hn h2)]
    have h2' : up = 0 ∨ ∃ c ∈ l, c.id = up := by rwa [zaw] at h2
    by_cases h3 : up ≠ 0 ∧ within l up b.id = true
    ·rw [if_pos h3]
     exact ⟨fun e => (by cases e), back fun h => absurd ((zhK h1 hm h2').1 h3) h.loop⟩
    ·rw [if_neg h3]
     by_cases h4 : 8 < dpt l up + belowL l b.id
     ·rw [if_pos h4]
      exact ⟨fun e => (by cases e), back fun h => by have := h.deep; omega⟩
     ·rw [if_neg h4]
      by_cases h5 : takenL l up b.name b.id = true
      ·rw [if_pos h5]
       exact ⟨fun e => (by cases e), back fun h => by have := h.free; rw [h5] at this; cases this⟩
      ·rw [if_neg h5]
       exact ⟨fun _ => ⟨h1, b, hm, rfl, h2', fun e => h3 ((zhK h1 hm h2').2 e), by omega, by simpa using h5⟩, fun _ => rfl⟩
   ·rw [if_pos h2]
    exact ⟨fun e => (by cases e), back fun h => absurd (by rw [zaw]; exact h.par) h2⟩
 ·rw [if_pos (by simpa using h1')]
  exact ⟨fun e => (by cases e), fun e => absurd ((zaX l).2 e.1) h1'⟩
theorem zjr {l : List Bx} {id up : Int} : (moveL l id up).1 = if (moveL l id up).2 = 0 then setUp l id up else [] := by
 unfold moveL
 repeat' split
 all_goals first | rfl | contradiction
theorem zjD {l : List Bx} (id : Int) : (dropL l id).2 = 0 ↔ RightP l ∧ (∃ x ∈ l, x.id = id) ∧ ∀ b ∈ l, b.up ≠ id := by
 unfold dropL
 by_cases h1' : rightL l = true
 ·have h1 := (zaX l).1 h1'
  rw [if_neg (by simpa using h1')]
  by_cases h2 : hasId l id = true
  ·rw [if_neg (by simpa using h2)]
   by_cases h3 : (l.any fun b => decide (b.up = id)) = true
   ·rw [if_pos h3]
    obtain ⟨c, hc, he⟩ := List.any_eq_true.1 h3
    exact ⟨fun e => (by cases e), fun e => absurd (by simpa using he) (e.2.2 c hc)⟩
   ·rw [if_neg h3]
    refine ⟨fun _ => ⟨h1, (zaw _ _).1 h2, fun b hb e => h3 (List.any_eq_true.2 ⟨b, hb, by simpa using e⟩)⟩, fun _ => rfl⟩
  ·rw [if_pos (by simpa using h2)]
   exact ⟨fun e => (by cases e), fun e => absurd ((zaw _ _).2 e.2.1) h2⟩
 ·rw [if_pos (by simpa using h1')]
  exact ⟨fun e => (by cases e), fun e => absurd ((zaX l).2 e.1) h1'⟩
theorem zjI {l : List Bx} {id : Int} : (dropL l id).1 = if (dropL l id).2 = 0 then delL l id else [] := by
 unfold dropL
 repeat' split
 all_goals first | rfl | contradiction
theorem ziE {α β : Type} {p : α × β} {a : α} {b : β} (h1 : p.1 = a) (h2 : p.2 = b) : p = (a, b) := by
 obtain ⟨x, y⟩ := p
 cases h1; cases h2; rfl
theorem zjN {l : List Bx} {b : Bx} (hr : RightP l) (h : AddOk l b) : RightP (insL l b) ∧ dropL (insL l b) b.id = (l, 0) := by
 have hm := zmg hr h.name h.role h.id h.new h.once h.len h.up h.deep h.free
 have h2 : (dropL (insL l b) b.id).2 = 0 := by
  rw [zjD]
  refine ⟨hm, ⟨b, mem_ins.2 (.inl rfl), rfl⟩, fun c hc e => ?_⟩
  have hb := h.id
  rcases mem_ins.1 hc with rfl | hc
  ·rcases h.up with h0 | ⟨d, hd, he⟩
   ·omega
   ·exact h.new d hd (by omega)
  ·rcases up_cases hr hc with h0 | ⟨d, hd, he⟩
   ·omega
   ·exact h.new d hd (by omega)
 refine ⟨hm, ziE ?_ h2⟩
 rw [zjI, if_pos h2, zpx hr.asc h.new]
theorem zlk {l : List Bx} {x : Bx} (hr : RightP l) (hx : x ∈ l) {nm : List UInt8} (h1 : namedB nm = true) (h2 : takenL l x.up nm x.id = false) : RightP (setName l x.id nm) ∧ nameL (setName l x.id nm) x.id x.name = (l, 0) := by
 have hm := zkN hr hx h1 h2
 have h3 : (nameL (setName l x.id nm) x.id x.name).2 = 0 := by
  rw [zjH]
  refine ⟨hm, { x with name := nm }, List.mem_map.2 ⟨x, hx, by rw [if_pos rfl]⟩, rfl, hr.named x hx, (zcS _ _ _ _).2 fun b hb e1 e2 e3 => ?_⟩
  obtain ⟨c, hc, rfl⟩ := List.mem_map.1 hb
  by_cases e : c.id = x.id
  ·rw [if_pos e] at e2; exact e2 e
  ·rw [if_neg e] at e1 e2 e3
   exact e (by rw [zlm hr hc hx e1 e3])
 refine ⟨hm, ziE ?_ h3⟩
 rw [zjk, if_pos h3, zhe hr.asc hx]
theorem zlE {l : List Bx} {x : Bx} (hr : RightP l) (hx : x ∈ l) {up : Int} (h : MoveOk l x up) : RightP (setUp l x.id up) ∧ moveL (setUp l x.id up) x.id x.up = (l, 0) := by
 have hm := zkz hr hx h.par h.loop h.deep h.free
 have hx' : { x with up := up } ∈ setUp l x.id up := (zbE hr).2 ⟨x, hx, by rw [if_pos rfl]⟩
 have hup : x.up = 0 ∨ ∃ c ∈ setUp l x.id up, c.id = x.up := by
  rcases up_cases hr hx with h0 | ⟨c, hc, h0⟩
  ·exact .inl h0
  ·exact .inr ⟨_, (zbE hr).2 ⟨c, hc, rfl⟩, by split <;> exact h0⟩
 have hno : ¬ Reach (setUp l x.id up) x.id x.up := fun e => zim hr hx (zkk hr e)
 have h3 : (moveL (setUp l x.id up) x.id x.up).2 = 0 := by
  rw [zji]
  refine ⟨hm, { x with up := up }, hx', rfl, hup, hno, ?_, (zcS _ _ _ _).2 fun b hb e1 e2 e3 => ?_⟩
  ·have := (zhu hm hx' hup hno).2
   refine this ?_
   rw [show setUp (setUp l x.id up) ({ x with up := up } : Bx).id x.up = l from zeX hr.asc hx up]
   exact fun b hb => hr.dep hb
  ·obtain ⟨c, hc, rfl⟩ := (zbE hr).1 hb
   by_cases e : c.id = x.id
   ·rw [if_pos e] at e2; exact e2 e
   ·rw [if_neg e] at e1 e2 e3
    exact e (congrArg Bx.id (zlm hr hc hx e1 e3))
 refine ⟨hm, ziE ?_ h3⟩
 rw [zjr, if_pos h3, zeX hr.asc hx]
section
end
section
end
end Go.Cs
