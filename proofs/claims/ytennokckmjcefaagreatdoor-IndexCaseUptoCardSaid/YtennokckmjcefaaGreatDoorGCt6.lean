/- Helper lemmas that the proved statement rests on; no conditions of their own. -/
import Derived.Lib.SlicesCompact
import Derived.Test.YtennokckmjcefaaGreatDoorGRowP
set_option linter.unusedVariables false
namespace Go.Cs
open Go.Lib
def W (u : List (Nat × Nat)) : Nat := (u.map (·.2)).sum
theorem W_nil : W [] = 0 := rfl
theorem W_cons (q : Nat × Nat) (u : List (Nat × Nat)) : W (q :: u) = q.2 + W u := by simp [W]
theorem W_app (u v : List (Nat × Nat)) : W (u ++ v) = W u + W v := by simp [W]
def Ones (u : List (Nat × Nat)) : Prop := u ≠ [] ∧ (∀ q ∈ u, q.1 = 1) ∧ W u ≤ 40
def Seg (u : List (Nat × Nat)) : Prop := Ones u ∨ ∃ n, u = [(2, n)]
def Stops (r : List (Nat × Nat)) : Prop := r = [] ∨ ∃ n t, r = (0, n) :: t
theorem znY (r : List (Nat × Nat)) (hr : Stops r) : ∀ (u : List (Nat × Nat)) (q a : Nat), (∀ x ∈ u, x.1 = 1) → q + W u ≤ a + 40 → wd (u ++ r) q (some a) = (a, q + W u) :: wd r (q + W u) none
 | [], q, a, _, _ => by
  rcases hr with rfl | ⟨n, t, rfl⟩
  ·simp [wd, close, W_nil]
  ·simp only [List.nil_append, W_nil, Nat.add_zero]
   rw [wd_0, wd_0]; simp [close]
 | (k, n) :: u, q, a, h1, h2 => by
  have hk : k = 1 := h1 (k, n) (by simp)
  subst hk
  rw [W_cons] at h2
  rw [List.cons_append, wd_1s, if_neg (by dsimp only at h2; omega), znY r hr u (q + n) a (fun x hx => h1 x (by simp [hx])) (by dsimp only at h2; omega), W_cons, Nat.add_assoc]
theorem zlR (u r : List (Nat × Nat)) (hu : Seg u) (hr : Stops r) (q : Nat) : wd (u ++ r) q none = (q, q + W u) :: wd r (q + W u) none := by
 rcases hu with ⟨hne, h1, h2⟩ | ⟨n, rfl⟩
 ·match u, hne with
  | (k, n) :: u, _ =>
   have hk : k = 1 := h1 (k, n) (by simp)
   subst hk
   rw [W_cons] at h2
   rw [List.cons_append, wd_1n, znY r hr u (q + n) q (fun x hx => h1 x (by simp [hx])) (by dsimp only at h2; omega), W_cons, Nat.add_assoc]
 ·rw [List.cons_append, List.nil_append, wd_2]; simp [close, W_cons, W_nil]
theorem zjM (u0 : List (Nat × Nat)) : ∀ (r pre mid : List (Nat × Nat)) (f : Option Nat), u0 = pre ++ mid ++ r → (∀ q ∈ r, q.1 ≤ 2 ∧ q.2 ≤ 4) → ((f = none ∧ mid = []) ∨ (f = some (W pre) ∧ Ones mid)) →
  ∀ p ∈ wd r (W pre + W mid) f, ∃ a b c, u0 = a ++ b ++ c ∧ p = (W a, W a + W b) ∧ Seg b
 | [], pre, mid, f, he, _, hf, p, hp => by
  rcases hf with ⟨rfl, rfl⟩ | ⟨rfl, ho⟩
  ·simp [wd, close] at hp
  ·simp only [wd, close, List.mem_singleton] at hp
   exact ⟨pre, mid, [], he, hp, .inl ho⟩
 | (k, n) :: r, pre, mid, f, he, hk, hf, p, hp => by
  have hk0 := hk (k, n) (by simp)
  have hkr : ∀ q ∈ r, q.1 ≤ 2 ∧ q.2 ≤ 4 := fun q hq => hk q (by simp [hq])
  have hcl : p ∈ close f (W pre + W mid) → ∃ a b c, u0 = a ++ b ++ c ∧ p = (W a, W a + W b) ∧ Seg b := by
   intro hp
   rcases hf with ⟨rfl, rfl⟩ | ⟨rfl, ho⟩
   ·simp [close] at hp
   ·simp only [close, List.mem_singleton] at hp
    exact ⟨pre, mid, (k, n) :: r, he, hp, .inl ho⟩
  have e1 : W (pre ++ mid ++ [(k, n)]) + W [] = W pre + W mid + n := by simp only [W_app, W_cons, W_nil]; omega
  have g1 := zjM u0 r (pre ++ mid ++ [(k, n)]) [] none (by rw [he]; simp) hkr (.inl ⟨rfl, rfl⟩) p
  rw [e1] at g1
  simp only [wd] at hp
  split at hp
  ·rcases List.mem_append.1 hp with h | h
   ·exact hcl h
   ·exact g1 h
  ·split at hp
   ·rename_i hk2
    rcases List.mem_append.1 hp with h | h
    ·exact hcl h
    ·rcases List.mem_cons.1 h with h | h
     ·exact ⟨pre ++ mid, [(k, n)], r, by rw [he]; simp, by rw [h]; simp only [W_app, W_cons, W_nil, Nat.add_zero], .inr ⟨n, by rw [hk2]⟩⟩
     ·exact g1 h
   ·rename_i h0 h2
    have hk1 : k = 1 := by dsimp only at hk0; omega
    subst hk1
    have hone : Ones [(1, n)] := ⟨by simp, by simp, by simp only [W_cons, W_nil]; dsimp only at hk0 ⊢; omega⟩
    have e2 : W (pre ++ mid) + W [(1, n)] = W pre + W mid + n := by simp only [W_app, W_cons, W_nil]; omega
    have g2 := zjM u0 r (pre ++ mid) [(1, n)] (some (W (pre ++ mid))) (by rw [he]; simp) hkr (.inr ⟨rfl, hone⟩) p
    rw [e2, W_app] at g2
    rcases hf with ⟨rfl, rfl⟩ | ⟨rfl, ho⟩
    ·exact g2 hp
    ·simp only at hp
     split at hp
     ·rcases List.mem_cons.1 hp with h | h
      ·exact ⟨pre, mid, (1, n) :: r, he, h, .inl ho⟩
      ·exact g2 h
     ·rename_i h40
      have ho3 : Ones (mid ++ [(1, n)]) := ⟨by simp, fun q hq => by
       rcases List.mem_append.1 hq with h | h
       ·exact ho.2.1 q h
       ·simp at h; rw [h], by simp only [W_app, W_cons, W_nil]; omega⟩
      have g3 := zjM u0 r pre (mid ++ [(1, n)]) (some (W pre)) (by rw [he]; simp) hkr (.inr ⟨rfl, ho3⟩) p
      rw [show W pre + W (mid ++ [(1, n)]) = W pre + W mid + n by simp only [W_app, W_cons, W_nil]; omega] at g3
      exact g3 hp
theorem zkK (l : List UInt8) : ∀ q ∈ us l, q.1 ≤ 2 ∧ q.2 ≤ 4 := by
 induction l using zec with
 | nil => simp [zdO]
 | step l hne ih =>
  rw [zcf l hne]
  intro q hq
  rcases List.mem_cons.1 hq with rfl | h
  ·have hw : (decodeL l).2 ≤ 4 := by
    rcases bad_or l hne with h | ⟨c, _, h, _⟩
    ·rw [h]; decide
    ·rw [h]; exact (zdk c).2
   refine ⟨?_, hw⟩
   rw [zhi]; exact zla _
  ·exact ih q h
theorem us_W (l : List UInt8) : W (us l) = l.length := by
 induction l using zec with
 | nil => rfl
 | step l hne ih =>
  have := decodeL_le l hne
  rw [zcf l hne, W_cons, ih, List.length_drop]
  omega
theorem zmJ : ∀ (a b : List (Nat × Nat)) (l : List UInt8), us l = a ++ b → us (l.drop (W a)) = b
 | [], b, l, h => by simpa [W_nil] using h
 | q :: a, b, l, h => by
  by_cases hne : l = []
  ·subst hne; rw [zdO] at h; simp at h
  ·rw [zcf l hne, List.cons_append] at h
   injection h with h1 h2
   have := zmJ a b _ h2
   rw [List.drop_drop] at this
   rw [W_cons, ← h1]
   exact this
theorem us_take' : ∀ (a b : List (Nat × Nat)) (l : List UInt8), us l = a ++ b → us (l.take (W a)) = a
 | [], b, l, h => by simp [W_nil, zdO]
 | q :: a, b, l, h => by
  by_cases hne : l = []
  ·subst hne; rw [zdO] at h; simp at h
  ·rw [zcf l hne, List.cons_append] at h
   injection h with h1 h2
   have h3 := us_take' a b _ h2
   have hw := decodeL_width l
   have hl : 0 < l.length := List.length_pos_iff.2 hne
   have hq : q.2 = (decodeL l).2 := by rw [← h1]
   have hd := zeP l (q.2 + W a) hne (by omega)
   have hne' : l.take (q.2 + W a) ≠ [] := by
    intro e
    have := congrArg List.length e
    rw [List.length_take, List.length_nil] at this
    omega
   rw [W_cons, zcf _ hne', hd, h1, List.drop_take, hq, Nat.add_sub_cancel_left, h3]
theorem zsX {a b c : List (Nat × Nat)} {l : List UInt8} (h : us l = a ++ b ++ c) : us (cutL l (W a, W a + W b)) = b := by
 unfold cutL
 dsimp only
 have h1 := us_take' (a ++ b) c l h
 rw [W_app] at h1
 exact zmJ a b _ h1
theorem znj (l : List UInt8) (p : Nat × Nat) (hp : p ∈ wd (us l) 0 none) : Seg (us (cutL l p)) := by
 obtain ⟨a, b, c, h1, h2, h3⟩ := zjM (us l) (us l) [] [] none rfl (zkK l) (.inl ⟨rfl, rfl⟩) p hp
 rw [h2, zsX h1]
 exact h3
def IsWord (x : List UInt8) : Prop := Seg (us x) ∧ foldL x = x
theorem zfd (l : List UInt8) (x : List UInt8 × Nat × Nat) (hx : x ∈ wordsL l) : IsWord x.1 := by
 unfold wordsL at hx
 obtain ⟨p, hp, rfl⟩ := List.mem_map.1 hx
 exact ⟨by rw [zow]; exact znj l p hp, zhP _⟩
theorem zjL {x : List UInt8} (h : IsWord x) : x.length ≤ 40 := by
 rw [← us_W]
 rcases h.1 with ⟨_, _, h⟩ | ⟨n, h⟩
 ·exact h
 ·have := zkK x (2, n) (by rw [h]; simp)
  rw [h, W_cons, W_nil]; dsimp only at this ⊢; omega
theorem zlp {x : List UInt8} (h : IsWord x) : wordsL x = [(x, 0, x.length)] := by
 have := zlR (us x) [] h.1 (.inl rfl) 0
 rw [List.append_nil, us_W, Nat.zero_add] at this
 unfold wordsL
 rw [this]
 simp [wd, close, cutL, h.2]
def unF : Nat → List UInt8 → List (List UInt8)
 | 0, _ => []
 | _ + 1, [] => []
 | n + 1, b :: t => (b :: t).take (decodeL (b :: t)).2 :: unF n ((b :: t).drop (decodeL (b :: t)).2)
def units (l : List UInt8) : List (List UInt8) := unF l.length l
theorem zkm : ∀ (n m : Nat) (l : List UInt8), l.length ≤ n → l.length ≤ m → unF n l = unF m l
 | 0, m, l, hn, _ => by
  have : l = [] := List.eq_nil_of_length_eq_zero (by omega)
  subst this
  cases m <;> rfl
 | n + 1, 0, l, _, hm => by
  have : l = [] := List.eq_nil_of_length_eq_zero (by omega)
  subst this; rfl
 | n + 1, m + 1, [], _, _ => rfl
 | n + 1, m + 1, b :: t, hn, hm => by
  have hw := decodeL_width (b :: t)
  simp only [unF]
  rw [zkm n m _ (by rw [List.length_drop]; omega) (by rw [List.length_drop]; omega)]
theorem zge (l : List UInt8) (hne : l ≠ []) : units l = l.take (decodeL l).2 :: units (l.drop (decodeL l).2) := by
 obtain ⟨b, t, rfl⟩ := List.exists_cons_of_ne_nil hne
 have hw := decodeL_width (b :: t)
 show (b :: t).take (decodeL (b :: t)).2 :: unF t.length _ = _
 rw [zkm t.length ((b :: t).drop (decodeL (b :: t)).2).length _ (by rw [List.length_drop, List.length_cons]; omega) (Nat.le_refl _)]
 rfl
def need (l : List UInt8) : Nat := if 194 ≤ (l.getD 0 0).toNat ∧ (l.getD 0 0).toNat ≤ 223 then 2 else if 224 ≤ (l.getD 0 0).toNat ∧ (l.getD 0 0).toNat ≤ 239 then 3 else if 240 ≤ (l.getD 0 0).toNat ∧ (l.getD 0 0).toNat ≤ 244 then 4 else 1
abbrev Wd3 := List UInt8 × Nat × Nat
theorem zaX {α : Type} [DecidableEq α] : ∀ (a b : List α), a.Nodup → (∀ x ∈ a, x ∈ b) → a.length ≤ b.length
 | [], b, _, _ => Nat.zero_le _
 | x :: r, b, hn, hs => by
  rw [List.nodup_cons] at hn
  have hx : x ∈ b := hs x (by simp)
  have h1 := zaX r (b.erase x) hn.2 fun y hy => by
   have hne : y ≠ x := fun e => hn.1 (e ▸ hy)
   exact (List.mem_erase_of_ne hne).2 (hs y (by simp [hy]))
  have h2 := List.length_erase_of_mem hx
  have h3 : 0 < b.length := List.length_pos_iff.2 fun e => by rw [e] at hx; cases hx
  simp only [List.length_cons]
  omega
def fromOf (l : List Wd3) (i : Nat) : Nat := (l.getD i ([], 0, 0)).2.1
def toOf (l : List Wd3) (i : Nat) : Nat := (l.getD i ([], 0, 0)).2.2
set_option linter.unusedSectionVars false
def Dep (l : List Bx) : Nat → Int → Prop
 | 0, id => id = 0
 | d + 1, id => id ≠ 0 ∧ ∃ u, upOf l id = some u ∧ Dep l d u
theorem zjk (l : List Bx) : ∀ (n d : Nat) (id : Int), dep l n id = some d ↔ Dep l d id ∧ d ≤ n
 | 0, 0, id => by unfold dep Dep; by_cases h : id = 0 <;> simp [h]
 | 0, d + 1, id => by unfold dep; by_cases h : id = 0 <;> simp [h]
 | n + 1, 0, id => by
  unfold dep Dep
  by_cases h : id = 0
  ·simp [h]
  ·rw [if_neg h]
   constructor
   ·intro e
    cases hu : upOf l id with
    | none => rw [hu] at e; cases e
    | some u =>
     rw [hu] at e
     dsimp only at e
     cases hd : dep l n u with
     | none => rw [hd] at e; cases e
     | some x => rw [hd] at e; simp at e
   ·intro e; exact absurd e.1 h
 | n + 1, d + 1, id => by
  unfold dep Dep
  by_cases h : id = 0
  ·simp [h]
  ·rw [if_neg h]
   constructor
   ·intro e
    cases hu : upOf l id with
    | none => rw [hu] at e; cases e
    | some u =>
     rw [hu] at e
     dsimp only at e
     cases hd : dep l n u with
     | none => rw [hd] at e; cases e
     | some x =>
      rw [hd] at e
      simp at e
      subst e
      obtain ⟨h1, h2⟩ := (zjk l n x u).1 hd
      exact ⟨⟨h, u, rfl, h1⟩, by omega⟩
   ·rintro ⟨⟨_, u, hu, h1⟩, h2⟩
    rw [hu]
    dsimp only
    rw [(zjk l n d u).2 ⟨h1, by omega⟩]; rfl
theorem Dep.inj {l : List Bx} : ∀ {d e : Nat} {id : Int}, Dep l d id → Dep l e id → d = e
 | 0, 0, id, _, _ => rfl
 | 0, e + 1, id, h, k => absurd h k.1
 | d + 1, 0, id, h, k => absurd k h.1
 | d + 1, e + 1, id, ⟨_, u, hu, h⟩, ⟨_, v, hv, k⟩ => by
  rw [hu] at hv
  obtain rfl := Option.some.inj hv
  rw [Dep.inj h k]
theorem Dep.len {l : List Bx} {d : Nat} {id : Int} (h : Dep l d id) : d ≤ l.length := by
 have key : ∀ (d : Nat) (id : Int), Dep l d id → ∃ c : List Int, c.length = d ∧ c.Nodup ∧ (∀ x ∈ c, x ∈ l.map (·.id)) ∧ ∀ x ∈ c, ∃ e, e ≤ d ∧ Dep l e x := by
  intro d
  induction d with
  | zero => intro id _; exact ⟨[], rfl, .nil, by simp, by simp⟩
  | succ d ih =>
   rintro id ⟨h0, u, hu, hd⟩
   obtain ⟨c, h1, h2, h3, h4⟩ := ih u hd
   obtain ⟨b, hb, hid, _⟩ := zpL hu
   refine ⟨id :: c, by simp [h1], List.nodup_cons.2 ⟨fun hm => ?_, h2⟩, fun x hx => ?_, fun x hx => ?_⟩
   ·obtain ⟨e, he, hde⟩ := h4 id hm
    have := Dep.inj hde (show Dep l (d + 1) id from ⟨h0, u, hu, hd⟩)
    omega
   ·rcases List.mem_cons.1 hx with rfl | hx
    ·exact List.mem_map.2 ⟨b, hb, hid⟩
    ·exact h3 x hx
   ·rcases List.mem_cons.1 hx with rfl | hx
    ·exact ⟨d + 1, Nat.le_refl _, h0, u, hu, hd⟩
    ·obtain ⟨e, he, hde⟩ := h4 x hx
     exact ⟨e, by omega, hde⟩
 obtain ⟨c, h1, h2, h3, _⟩ := key d id h
 have := zaX c (l.map (·.id)) h2 h3
 rw [List.length_map] at this
 omega
theorem RightP.dep {l : List Bx} (hr : RightP l) {b : Bx} (hb : b ∈ l) : ∃ d, Dep l d b.id ∧ d ≤ 8 := by
 obtain ⟨d, h1, h2⟩ := hr.deep b hb
 exact ⟨d, ((zjk _ _ _ _).1 h1).1, h2⟩
inductive Reach (l : List Bx) (b : Int) : Int → Prop
 | here : Reach l b b
 | up {id u : Int} : upOf l id = some u → Reach l b u → Reach l b id
def hasId (l : List Bx) (id : Int) : Bool := l.any fun b => decide (b.id = id)
theorem Dep.congr {l l' : List Bx} (S : Int → Prop) (hS : ∀ id u, S id → upOf l id = some u → upOf l' id = some u ∧ S u) : ∀ (d : Nat) (id : Int), S id → Dep l d id → Dep l' d id
 | 0, id, _, h => h
 | d + 1, id, hs, ⟨h0, u, hu, h⟩ => ⟨h0, u, (hS id u hs hu).1, Dep.congr S hS d u (hS id u hs hu).2 h⟩
section
end
theorem Reach.dep {l : List Bx} (hz : upOf l 0 = none) {b y : Int} (h : Reach l b y) : ∀ {d : Nat}, Dep l d y → ∃ e, e ≤ d ∧ Dep l e b := by
 induction h with
 | here => intro d hd; exact ⟨d, Nat.le_refl _, hd⟩
 | @up id u hu _ ih =>
  intro d hd
  cases d with
  | zero =>
   have h0 : id = 0 := hd
   rw [h0, hz] at hu; cases hu
  | succ d =>
   obtain ⟨h0, v, hv, hd⟩ := hd
   rw [hu] at hv
   obtain rfl := Option.some.inj hv
   obtain ⟨e, h1, h2⟩ := ih hd
   exact ⟨e, by omega, h2⟩
theorem RightP.zero {l : List Bx} (hr : RightP l) : upOf l 0 = none := by rw [zqh, zrr hr]; rfl
section
end
section
end
theorem zfa : RightP [] := ⟨by simp, by simp, .nil, by simp, by simp, .nil, .nil, by simp⟩
structure Dg where
 (d0 d1 d2 d3 d4 d5 d6 d7 d8 d9 d10 d11 d12 d13 d14 d15 d16 d17 d18 d19 d20 d21 d22 d23 d24 d25 d26 d27 d28 d29 d30 d31 : Int)
deriving DecidableEq
structure Ml where
 id : Int
 blob : Dg
 boxes : List Int
 flags : List (List UInt8)
 at_ : Int
 size : Int
 mod : Int
deriving DecidableEq
structure Sc where
 name : List UInt8
 text : List UInt8
deriving DecidableEq
structure Sn where
 key : List UInt8
 at_ : Int
deriving DecidableEq
structure Acc where
 boxes : List Bx
 mails : List Ml
 scripts : List Sc
 active : List UInt8
 seen : List Sn
 nm : Int
 nb : Int
 st : Int
deriving DecidableEq
structure Opr where
 kind : Int
 id : Int
 box : Int
 up : Int
 name : List UInt8
 role : List UInt8
 text : List UInt8
 blob : Dg
 boxes : List Int
 add : List (List UInt8)
 drop : List (List UInt8)
 at_ : Int
 size : Int
 if_ : Int
structure STO {α : Type} (lt : α → α → Bool) : Prop where
 irr : ∀ a, lt a a = false
 tr : ∀ a b c, lt a b = true → lt b c = true → lt a c = true
 tri : ∀ a b, lt a b = false → lt b a = false → a = b
def insD {α : Type} (lt : α → α → Bool) (x : α) : List α → List α
 | [] => [x]
 | y :: r => if lt y x = true then y :: insD lt x r else if lt x y = true then x :: y :: r else y :: r
def sortD {α : Type} (lt : α → α → Bool) (l : List α) : List α := l.foldl (fun a x => insD lt x a) []
def AscB {α : Type} (lt : α → α → Bool) (l : List α) : Prop := l.Pairwise fun a b => lt a b = true
section
variable {α : Type} {lt : α → α → Bool}
theorem zhj (h : STO lt) (x z : α) : ∀ l : List α, z ∈ insD lt x l ↔ z = x ∨ z ∈ l
 | [] => by simp [insD]
 | y :: r => by
  unfold insD
  split
  ·rw [List.mem_cons, zhj h x z r, List.mem_cons]
   constructor
   ·rintro (e | e | e)
    ·exact .inr (.inl e)
    ·exact .inl e
    ·exact .inr (.inr e)
   ·rintro (e | e | e)
    ·exact .inr (.inl e)
    ·exact .inl e
    ·exact .inr (.inr e)
  ·rename_i h1
   split
   ·simp
   ·rename_i h2
    obtain rfl : y = x := h.tri y x (by simpa using h1) (by simpa using h2)
    simp
theorem zkJ (h : STO lt) (x : α) : ∀ l : List α, AscB lt l → AscB lt (insD lt x l)
 | [], _ => by simp [insD, AscB]
 | y :: r, hl => by
  obtain ⟨h1, h2⟩ := List.pairwise_cons.1 hl
  unfold insD
  split
  ·rename_i hy
   refine List.pairwise_cons.2 ⟨fun z hz => ?_, zkJ h x r h2⟩
   rcases (zhj h x z r).1 hz with rfl | hz
   ·exact hy
   ·exact h1 z hz
  ·split
   ·rename_i hy
    refine List.pairwise_cons.2 ⟨fun z hz => ?_, hl⟩
    rcases List.mem_cons.1 hz with rfl | hz
    ·exact hy
    ·exact h.tr _ _ _ hy (h1 z hz)
   ·exact hl
theorem zhn (h : STO lt) : ∀ (l a : List α), AscB lt a → AscB lt (l.foldl (fun a x => insD lt x a) a) ∧ ∀ z, z ∈ l.foldl (fun a x => insD lt x a) a ↔ z ∈ a ∨ z ∈ l
 | [], a, ha => ⟨ha, by simp⟩
 | x :: l, a, ha => by
  obtain ⟨h1, h2⟩ := zhn h l (insD lt x a) (zkJ h x a ha)
  refine ⟨h1, fun z => ?_⟩
  rw [List.foldl_cons, h2, zhj h, List.mem_cons]
  constructor
  ·rintro ((e | e) | e)
   ·exact .inr (.inl e)
   ·exact .inl e
   ·exact .inr (.inr e)
  ·rintro (e | e | e)
   ·exact .inl (.inr e)
   ·exact .inl (.inl e)
   ·exact .inr e
theorem zbC (h : STO lt) (l : List α) : AscB lt (sortD lt l) := (zhn h l [] .nil).1
theorem zaZ (h : STO lt) (l : List α) (z : α) : z ∈ sortD lt l ↔ z ∈ l := by
 rw [show z ∈ sortD lt l ↔ _ from (zhn h l [] .nil).2 z]; simp
theorem zbM (h : STO lt) : ∀ (a b : List α), AscB lt a → AscB lt b → (∀ z, z ∈ a ↔ z ∈ b) → a = b
 | [], [], _, _, _ => rfl
 | [], y :: b, _, _, hm => by have := (hm y).2 (by simp); simp at this
 | x :: a, [], _, _, hm => by have := (hm x).1 (by simp); simp at this
 | x :: a, y :: b, ha, hb, hm => by
  obtain ⟨a1, a2⟩ := List.pairwise_cons.1 ha
  obtain ⟨b1, b2⟩ := List.pairwise_cons.1 hb
  have no : ∀ {u v : α}, lt u v = true → lt v u = true → False := fun p q => by
   have := h.tr _ _ _ p q
   rw [h.irr] at this; cases this
  obtain rfl : x = y := by
   rcases List.mem_cons.1 ((hm x).1 (by simp)) with e | e
   ·exact e
   rcases List.mem_cons.1 ((hm y).2 (by simp)) with f | f
   ·exact f.symm
   ·exact (no (a1 y f) (b1 x e)).elim
  have hne : ∀ {z : α} {l : List α}, (∀ u ∈ l, lt x u = true) → z ∈ l → z ≠ x := fun hl hz e => by
   subst e
   have := hl _ hz
   rw [h.irr] at this; cases this
  rw [zbM h a b a2 b2 fun z => ?_]
  constructor
  ·intro hz
   rcases List.mem_cons.1 ((hm z).1 (List.mem_cons_of_mem _ hz)) with e | e
   ·exact absurd e (hne a1 hz)
   ·exact e
  ·intro hz
   rcases List.mem_cons.1 ((hm z).2 (List.mem_cons_of_mem _ hz)) with e | e
   ·exact absurd e (hne b1 hz)
   ·exact e
theorem zpi (h : STO lt) {l m : List α} (ha : AscB lt m) (hm : ∀ z, z ∈ m ↔ z ∈ l) : m = sortD lt l := zbM h _ _ ha (zbC h l) fun z => by rw [hm, zaZ h]
theorem zjO (x : α) : ∀ l : List α, (insD lt x l).length ≤ l.length + 1
 | [] => by simp [insD]
 | y :: r => by
  unfold insD
  have := zjO x r
  split
  ·simp only [List.length_cons]; omega
  ·split <;> simp
theorem zhR (l : List α) : (sortD lt l).length ≤ l.length := by
 have : ∀ (l a : List α), (l.foldl (fun a x => insD lt x a) a).length ≤ a.length + l.length := by
  intro l
  induction l with
  | nil => simp
  | cons x l ih =>
   intro a
   have := ih (insD lt x a)
   have := zjO (lt := lt) x a
   simp only [List.foldl_cons, List.length_cons]; omega
 have := this l []
 unfold sortD
 simpa using this
end
def ltI (a b : Int) : Bool := decide (a < b)
def ltT (a b : List UInt8) : Bool := decide (a < b)
theorem stoI : STO ltI := ⟨fun a => by simp [ltI], fun a b c h1 h2 => by simp only [ltI, decide_eq_true_eq] at *; omega, fun a b h1 h2 => by simp only [ltI, decide_eq_false_iff_not] at *; omega⟩
theorem stoT : STO ltT := ⟨fun a => by simp only [ltT, decide_eq_false_iff_not]; exact List.lt_irrefl a, fun a b c h1 h2 => by simp only [ltT, decide_eq_true_eq] at *; exact List.lt_trans h1 h2, fun a b h1 h2 => by
 simp only [ltT, decide_eq_false_iff_not] at *
 exact List.le_antisymm h2 h1⟩
def sortI (l : List Int) : List Int := sortD ltI l
theorem zgb {α : Type} [DecidableEq α] [Inhabited α] {lt : α → α → Bool} (h : STO lt) (le : α → α → Bool) (hle : ∀ a b, le a b = !lt b a) (l : List α) : compact (l.mergeSort le) = sortD lt l := by
 have htr : ∀ a b c, le a b = true → le b c = true → le a c = true := fun a b c h1 h2 => by
  rw [hle, Bool.not_eq_true'] at *
  cases hca : lt c a with
  | false => rfl
  | true =>
   cases hcb : lt c b with
   | true => rw [hcb] at h2; cases h2
   | false =>
    cases hbc : lt b c with
    | true => have := h.tr _ _ _ hbc hca; rw [this] at h1; cases h1
    | false =>
     obtain rfl := h.tri _ _ hbc hcb
     rw [hca] at h1; cases h1
 have hto : ∀ a b, (le a b || le b a) = true := fun a b => by
  rw [hle, hle]
  cases hab : lt a b with
  | false => simp
  | true =>
   cases hba : lt b a with
   | false => rfl
   | true => have := h.tr _ _ _ hab hba; rw [h.irr] at this; cases this
 have hs : (l.mergeSort le).Pairwise fun a b => le a b = true := List.pairwise_mergeSort htr hto l
 have hm : ∀ z, z ∈ l.mergeSort le ↔ z ∈ l := fun z => (List.mergeSort_perm l le).mem_iff
 generalize l.mergeSort le = s at *
 have key : ∀ m, m ≤ s.length → AscB lt (compactUpTo s.toArray m) ∧ (∀ z, z ∈ compactUpTo s.toArray m ↔ z ∈ s.take m) := by
  intro m
  induction m with
  | zero => intro _; simp [compactUpTo, AscB]
  | succ m ih =>
   intro hmle
   obtain ⟨i1, i2⟩ := ih (by omega)
   have hlt : m < s.length := by omega
   rw [compactUpTo_succ]
   have hsm : s.toArray[m]! = s[m] := by simp [hlt]
   have htk : s.take (m + 1) = s.take m ++ [s[m]] := List.take_succ_eq_append_getElem hlt
   rw [htk, hsm]
   have hkp : keeps s.toArray m = true ↔ (m = 0 ∨ ∃ h : m - 1 < s.length, s[m] ≠ s[m - 1]) := by
    unfold keeps
    have e2 : s.toArray[m - 1]! = s[m - 1]'(by omega) := by simp [show m - 1 < s.length by omega]
    simp only [hsm, e2, decide_eq_true_eq, ne_eq]
    constructor
    ·rintro (e | e)
     ·exact .inl e
     ·exact .inr ⟨by omega, e⟩
    ·rintro (e | ⟨_, e⟩)
     ·exact .inl e
     ·exact .inr e
   have hle' : ∀ z ∈ s.take m, le z s[m] = true := fun z hz => by
    have hp := hs
    rw [← List.take_append_drop m s, List.pairwise_append] at hp
    exact hp.2.2 z hz s[m] (by rw [List.drop_eq_getElem_cons hlt]; exact List.mem_cons_self)
   by_cases hk : keeps s.toArray m = true
   ·rw [if_pos hk]
    refine ⟨?_, fun z => by rw [List.mem_append, List.mem_append, i2]⟩
    unfold AscB
    rw [List.pairwise_append]
    refine ⟨i1, by simp, fun a ha b hb => ?_⟩
    rw [List.mem_singleton] at hb
    subst hb
    have ha2 := (i2 a).1 ha
    have hane : a ≠ s[m] := by
     rintro rfl
     rcases hkp.1 hk with e | ⟨hm1, e⟩
     ·subst e; simp at ha2
     ·-- the one before m is at most s[m], and at least a
      apply e
      have hm0 : m ≠ 0 := by rintro rfl; simp at ha2
      have hp : le (s[m - 1]'hm1) s[m] = true := hle' _ (by
       rw [List.mem_take_iff_getElem]
       exact ⟨m - 1, by omega, rfl⟩)
      obtain ⟨i, hi, hie⟩ := List.mem_take_iff_getElem.1 ha2
      have hq : le s[m] (s[m - 1]'hm1) = true ∨ i = m - 1 := by
       by_cases hi1 : i = m - 1
       ·exact .inr hi1
       ·left
        have hi2 : i < m - 1 := by omega
        have := (List.pairwise_iff_getElem.1 hs) i (m - 1) (by omega) hm1 hi2
        rwa [hie] at this
      rcases hq with hq | hq
      ·rw [hle, Bool.not_eq_true'] at hp hq
       exact h.tri _ _ hp hq
      ·subst hq; exact hie.symm
    have := hle' a ha2
    rw [hle, Bool.not_eq_true'] at this
    cases hal : lt a s[m] with
    | true => rfl
    | false => exact absurd (h.tri _ _ hal this) hane
   ·rw [if_neg hk]
    rw [List.append_nil]
    refine ⟨i1, fun z => ?_⟩
    rw [i2, List.mem_append, List.mem_singleton]
    constructor
    ·exact .inl
    ·rintro (e | rfl)
     ·exact e
     ·have hm0 : m ≠ 0 := fun e => hk (hkp.2 (.inl e))
      have hm1 : m - 1 < s.length := by omega
      have e : s[m] = s[m - 1] := Classical.byContradiction fun hne => hk (hkp.2 (.inr ⟨hm1, hne⟩))
      rw [e]
      rw [List.mem_take_iff_getElem]
      exact ⟨m - 1, by omega, rfl⟩
 unfold compact
 obtain ⟨k1, k2⟩ := key s.length (Nat.le_refl _)
 exact zpi h k1 fun z => by rw [k2, List.take_length, hm]
theorem zfu (l : List Int) : compact (l.mergeSort fun x y => decide (x ≤ y)) = sortI l := zgb stoI _ (fun a b => by simp only [ltI]; rw [← decide_not]; exact decide_eq_decide.2 (by omega)) l
def flagCh (c : UInt8) : Bool := (decide (97 ≤ c.toNat) && decide (c.toNat ≤ 122)) || (decide (48 ≤ c.toNat) && decide (c.toNat ≤ 57)) || decide (c ∈ ([36, 92, 45, 95, 46] : List UInt8))
def flagB (s : List UInt8) : Bool := s.all flagCh && decide (1 ≤ s.length ∧ s.length ≤ 30)
def scCh (c : UInt8) : Bool := decide (32 ≤ c.toNat) && decide (c.toNat ≠ 127)
def scB (s : List UInt8) : Bool := s.all scCh && decide (1 ≤ s.length ∧ s.length ≤ 100)
end Go.Cs
namespace Go.Pw
open Go
set_option linter.unusedSectionVars false
section
variable {P : Program} {ops : Array Oper} {S : World → Prop} {hs : Option Tmp → Bool}
structure TailOk (P : Program) (ops : Array Oper) (m : Array Nat) (k : Nat) : Prop where
 last : ∀ (i : Nat) (o : Oper), ops[i]? = some o → k ≤ i → kindOf P o = .pure ∨ ∀ j, j < k → (m.getD i 0).testBit j = true
 comm : ∀ (i : Nat) (o : Oper), ops[i]? = some o → ∀ (j : Nat) (p : Oper), ops[j]? = some p → k ≤ j → j < i → (m.getD i 0).testBit j = false → commB P ops p o = true
def tailB (P : Program) (ops : Array Oper) (k : Nat) : Bool :=
  let m := Region.before ops
  (List.range ops.size).all fun i => Nat.blt i k ||
    ((kindOf P (ops.getD i default) == .pure || (List.range k).all fun j => (m.getD i 0).testBit j) &&
     (List.range i).all fun j => Nat.blt j k || (m.getD i 0).testBit j || commB P ops (ops.getD j default) (ops.getD i default))
theorem zmi {k : Nat} (h : tailB P ops k = true) : TailOk P ops (Region.before ops) k := by
 unfold tailB at h
 simp only [List.all_eq_true, List.mem_range, Bool.and_eq_true, Bool.or_eq_true, Nat.blt_eq, beq_iff_eq] at h
 have lt : ∀ (i : Nat) (o : Oper), ops[i]? = some o → i < ops.size ∧ ops.getD i default = o := fun i o ho => by
  obtain ⟨hi, he⟩ := Array.getElem?_eq_some_iff.1 ho
  exact ⟨hi, by simp [hi, he]⟩
 refine ⟨fun i o ho hk => ?_, fun i o ho j p hp hk hj hm => ?_⟩
 ·obtain ⟨hi, he⟩ := lt i o ho
  rcases h i hi with h | h
  ·omega
  ·rw [he] at h
   exact h.1
 ·obtain ⟨hi, he⟩ := lt i o ho
  obtain ⟨_, hp'⟩ := lt j p hp
  rcases h i hi with h | h
  ·omega
  ·rcases h.2 j hj with (h | h) | h
   ·omega
   ·rw [hm] at h; cases h
   ·rw [he, hp'] at h; exact h
theorem bubbleT {Q : Act → World → Prop} {m : Array Nat} {k : Nat} (ok : TextOkH P hs ops m) (tk : TailOk P ops m k) {i : Nat} {o : Oper} (ho : ops[i]? = some o) : ∀ (pre post : List Nat),
  (∀ j ∈ pre, k ≤ j ∧ j < i ∧ (m.getD i 0).testBit j = false) → ∀ (a : Act) (w : World), wpI P ops Q (pre ++ i :: post) a w → TI P ops i (wpI P ops Q (pre ++ post)) a w
 | [], post, _, a, w, h => h
 | j :: pre, post, hp, a, w, h => by
  have ih := bubbleT (Q := Q) ok tk ho pre post (fun k hk => hp k (List.mem_cons_of_mem _ hk))
  have h' : TI P ops j (TI P ops i (wpI P ops Q (pre ++ post))) a w := TI_mono (fun a w => ih a w) h
  show TI P ops i (TI P ops j (wpI P ops Q (pre ++ post))) a w
  obtain ⟨hjk, hj, hm⟩ := hp j List.mem_cons_self
  unfold TI at h' ⊢
  simp only [ho] at h' ⊢
  cases hpj : ops[j]? with
  | none => simp only [hpj] at h' ⊢; exact h'
  | some p =>
   simp only [hpj] at h' ⊢
   exact swap (ok.sel j p hpj) (ok.sel i o ho) (tk.comm i o ho j p hpj hjk hj hm) h'
theorem zeD {Q : Act → World → Prop} (i : Nat) : ∀ (L : List Nat), wpIh P S hs ops (TIh P S hs ops i Q) L = wpIh P S hs ops Q (L ++ [i])
 | [] => rfl
 | j :: L => by
  show TIh P S hs ops j _ = TIh P S hs ops j (wpIh P S hs ops Q (L ++ [i]))
  rw [zeD i L]
theorem zdN {Q Q' : Act → World → Prop} : ∀ (L : List Nat) {a : Act} {w : World}, S w → (∀ a w, S w → Q a w → Q' a w) → wpIh P S hs ops Q L a w → wpIh P S hs ops Q' L a w
 | [], a, w, hw, hq, h => hq a w hw h
 | j :: L, a, w, hw, hq, h => TIh_mono hw (fun a w hS h => zdN L hS hq h) h
theorem TIh_of_pure {i : Nat} {o : Oper} (ho : ops[i]? = some o) (hk : kindOf P o = .pure) {R : Act → World → Prop} {a : Act} {w : World} (hw : S w) (h : TI P ops i R a w) : TIh P S hs ops i (fun a w => S w → R a w) a w := by
 unfold TI at h
 unfold TIh
 simp only [ho] at h ⊢
 unfold T1 at h
 unfold T1h
 split
 ·rename_i hwt
  rw [if_pos hwt] at h
  obtain ⟨h1, h2⟩ := h
  refine ⟨fun _ => (zdS hk).2 (h1 hk), ?_⟩
  exact Oper.wpN_mono (fun a w hh => ⟨hh.1, fun _ => hh.2⟩) (Go.Vc.calm_wp hw hk (h1 hk) h2)
 ·rename_i hwt
  rw [if_neg hwt] at h
  exact fun _ => h
def HoldsT (P : Program) (S : World → Prop) (hs : Option Tmp → Bool) (ops : Array Oper) (Q : Act → World → Prop) : List Nat → List Nat → Act → World → Prop
 | [], LB, a, w => wpI P ops Q LB a w
 | x :: LA, LB, a, w => S w ∧ wpIh P S hs ops (fun a w => S w → wpI P ops Q LB a w) (x :: LA) a w
theorem HoldsT.of {Q : Act → World → Prop} {LA LB : List Nat} {a : Act} {w : World} (h : S w ∧ wpIh P S hs ops (fun a w => S w → wpI P ops Q LB a w) LA a w) : HoldsT P S hs ops Q LA LB a w := by
 cases LA with
 | nil => exact h.2 h.1
 | cons x LA => exact h
theorem anyOrderT {Q : Exit → Act → World → Prop} {m : Array Nat} {k : Nat} (ok : TextOkH P hs ops m) (tk : TailOk P ops m k) : ∀ (fuel : Nat) (LA LB : List Nat) (listed : Array Bool) (a : Act) (w : World),
  (LA ++ LB).length = fuel → listed.size = ops.size → Closed ops listed → (LA ++ LB).Pairwise (· < ·) → (∀ j ∈ LA, j < k) → (∀ j ∈ LB, k ≤ j) → (∀ j, j ∈ LA ++ LB ↔ j < ops.size ∧ listed.getD j false = false) →
  HoldsT P S hs ops (Q .normal) LA LB a w → wpAnyX P .any ops (Q .normal) fuel listed a w := by
 intro fuel
 induction fuel with
 | zero =>
  intro LA LB listed a w hlen hsz hcl hpw hA hB hmem h
  obtain ⟨rfl, rfl⟩ := List.append_eq_nil_iff.1 (List.eq_nil_of_length_eq_zero hlen)
  refine ⟨?_, h⟩
  refine List.eq_nil_iff_forall_not_mem.2 fun i hi => ?_
  obtain ⟨h0, o, ho, _⟩ := mem_ready.1 hi
  have hlt : i < ops.size := (Array.getElem?_eq_some_iff.1 ho).1
  have h0' : listed.getD i false = false := by
   have : i < listed.size := by omega
   simp [this] at h0 ⊢; exact h0
  have := (hmem i).2 ⟨hlt, h0'⟩
  cases this
 | succ fuel ih =>
  intro LA LB listed a w hlen hsz hcl hpw hA hB hmem h
  refine ⟨fun hr => ?_, fun i hi => ?_⟩
  ·cases hL : LA ++ LB with
   | nil => rw [hL] at hlen; cases hlen
   | cons i L =>
    exfalso
    rw [hL] at hpw
    obtain ⟨hlt, h0⟩ := (hmem i).1 (by rw [hL]; exact List.mem_cons_self)
    have hrdy : i ∈ Region.ready .any ops listed := by
     refine mem_ready.2 ⟨?_, ops[i], Array.getElem?_eq_getElem hlt, fun e he hb => ?_⟩
     ·have : i < listed.size := by omega
      simp [this] at h0 ⊢; exact h0
     ·have hlt' := ok.back i _ (Array.getElem?_eq_getElem hlt) e he hb
      cases hl : listed.getD e.on false with
      | true => rfl
      | false =>
       have hin := (hmem e.on).2 ⟨by omega, hl⟩
       rw [hL] at hin
       rcases List.mem_cons.1 hin with heq | hin
       ·omega
       ·have := (List.pairwise_cons.1 hpw).1 _ hin; omega
    rw [hr] at hrdy; cases hrdy
  ·obtain ⟨h0, o, ho, hdeps⟩ := mem_ready.1 hi
   have hlt : i < ops.size := (Array.getElem?_eq_some_iff.1 ho).1
   have hil : i < listed.size := by omega
   have h0' : listed.getD i false = false := by simp [hil] at h0 ⊢; exact h0
   have hfree : ∀ j ∈ LA ++ LB, j < i → (m.getD i 0).testBit j = false := fun j hj hji => by
    cases hm : (m.getD i 0).testBit j with
    | false => rfl
    | true =>
     have hl := zcB ok hcl i i o (Nat.le_refl _) ho hdeps j hji hm
     have := ((hmem j).1 hj).2
     rw [hl] at this; cases this
   have hcl' : Closed ops (listed.setIfInBounds i true) := by
    intro k p hk hl e he hb
    by_cases hki : k = i
    ·subst hki
     obtain rfl : p = o := Option.some.inj (hk.symm.trans ho)
     exact getD_set_true (hdeps e he hb)
    ·rw [getD_set_ne false (fun h => hki h.symm)] at hl
     exact getD_set_true (hcl k p hk hl e he hb)
   have hin := (hmem i).2 ⟨hlt, h0'⟩
   have hnd : (LA ++ LB).Nodup := hpw.imp fun h => by omega
   have hmem' : ∀ (LA' LB' : List Nat), (∀ j, j ∈ LA' ++ LB' ↔ j ≠ i ∧ j ∈ LA ++ LB) → ∀ j, j ∈ LA' ++ LB' ↔ j < ops.size ∧ (listed.setIfInBounds i true).getD j false = false := fun LA' LB' hh j => by
    rw [hh, hmem]
    constructor
    ·rintro ⟨k0, k1, k2⟩
     exact ⟨k1, by rw [getD_set_ne false (fun h => k0 h.symm)]; exact k2⟩
    ·rintro ⟨k1, k2⟩
     have hji : j ≠ i := fun e => by subst e; simp [hil] at k2
     rw [getD_set_ne false (fun h => hji h.symm)] at k2
     exact ⟨hji, k1, k2⟩
   rcases List.mem_append.1 hin with hiA | hiB
   ·obtain ⟨pre, post, rfl⟩ := List.append_of_mem hiA
    have hpwA := (List.pairwise_append.1 hpw).1
    have hpre : ∀ j ∈ pre, j < i := fun j hj => (List.pairwise_append.1 hpwA).2.2 j hj i List.mem_cons_self
    have hpost : ∀ j ∈ post, i < j := fun j hj => (List.pairwise_cons.1 (List.pairwise_append.1 hpwA).2.1).1 j hj
    have hLB : ∀ j ∈ LB, i < j := fun j hj => (List.pairwise_append.1 hpw).2.2 i (by simp) j hj
    have h1 : S w ∧ wpIh P S hs ops (fun a w => S w → wpI P ops (Q .normal) LB a w) (pre ++ i :: post) a w := by
     cases pre with
     | nil => exact h
     | cons x pre => exact h
    refine zbw (fun a w h => ?_) (zbv (bubbleH ok ho pre post (fun j hj => ⟨hpre j hj, hfree j (by simp [hj]) (hpre j hj)⟩) a w h1.1 h1.2) h1.1)
    refine ih (pre ++ post) LB _ a w (by simp at hlen ⊢; omega) (by simp [hsz]) hcl' ?_ (fun j hj => hA j (by rcases List.mem_append.1 hj with h | h <;> simp [h])) hB (hmem' _ _ fun j => ?_) (HoldsT.of h)
    ·exact hpw.sublist ((List.Sublist.append_left (List.sublist_cons_self _ _) _).append_right _)
    ·constructor
     ·intro hj
      rcases List.mem_append.1 hj with hj | hj
      ·rcases List.mem_append.1 hj with hj | hj
       ·have := hpre j hj; exact ⟨by omega, by simp [hj]⟩
       ·have := hpost j hj; exact ⟨by omega, by simp [hj]⟩
      ·have := hLB j hj; exact ⟨by omega, by simp [hj]⟩
     ·rintro ⟨hne, hj⟩
      rcases List.mem_append.1 hj with hj | hj
      ·rcases List.mem_append.1 hj with hj | hj
       ·simp [hj]
       ·rcases List.mem_cons.1 hj with rfl | hj
        ·exact absurd rfl hne
        ·simp [hj]
      ·simp [hj]
   ·obtain ⟨pre, post, rfl⟩ := List.append_of_mem hiB
    have hpwB := (List.pairwise_append.1 hpw).2.1
    have hpre : ∀ j ∈ pre, j < i := fun j hj => (List.pairwise_append.1 hpwB).2.2 j hj i List.mem_cons_self
    have hpost : ∀ j ∈ post, i < j := fun j hj => (List.pairwise_cons.1 (List.pairwise_append.1 hpwB).2.1).1 j hj
    have hLA : ∀ j ∈ LA, j < i := fun j hj => (List.pairwise_append.1 hpw).2.2 j hj i (by simp)
    have hik : k ≤ i := hB i (by simp)
    have hbub : ∀ a w, wpI P ops (Q .normal) (pre ++ i :: post) a w → TI P ops i (wpI P ops (Q .normal) (pre ++ post)) a w :=
     bubbleT ok tk ho pre post (fun j hj => ⟨hB j (by simp [hj]), hpre j hj, hfree j (by simp [hj]) (hpre j hj)⟩)
    have goOn : ∀ a w, HoldsT P S hs ops (Q .normal) LA (pre ++ post) a w → wpAnyX P .any ops (Q .normal) fuel (listed.setIfInBounds i true) a w := fun a w hh =>
     ih LA (pre ++ post) _ a w (by simp at hlen ⊢; omega) (by simp [hsz]) hcl' (hpw.sublist (List.Sublist.append_left (List.Sublist.append_left (List.sublist_cons_self _ _) _) _)) hA (fun j hj => hB j (by rcases List.mem_append.1 hj with h | h <;> simp [h])) (hmem' _ _ fun j => by
      constructor
      ·intro hj
       rcases List.mem_append.1 hj with hj | hj
       ·have := hLA j hj; exact ⟨by omega, by simp [hj]⟩
       ·rcases List.mem_append.1 hj with hj | hj
        ·have := hpre j hj; exact ⟨by omega, by simp [hj]⟩
        ·have := hpost j hj; exact ⟨by omega, by simp [hj]⟩
      ·rintro ⟨hne, hj⟩
       rcases List.mem_append.1 hj with hj | hj
       ·simp [hj]
       ·rcases List.mem_append.1 hj with hj | hj
        ·simp [hj]
        ·rcases List.mem_cons.1 hj with rfl | hj
         ·exact absurd rfl hne
         ·simp [hj]) hh
    cases LA with
    | nil =>
     have h : wpI P ops (Q .normal) (pre ++ i :: post) a w := h
     exact zen (TI_mono (fun a w hh => goOn a w hh) (hbub a w h))
    | cons x LA =>
     obtain ⟨hw, h⟩ : S w ∧ wpIh P S hs ops (fun a w => S w → wpI P ops (Q .normal) (pre ++ i :: post) a w) (x :: LA) a w := h
     have hpure : kindOf P o = .pure := by
      rcases tk.last i o ho hik with h | h
      ·exact h
      ·have := hfree x (by simp) (hLA x (by simp))
       rw [h x (hA x (by simp))] at this; cases this
     have h2 : wpIh P S hs ops (TIh P S hs ops i (fun a w => S w → wpI P ops (Q .normal) (pre ++ post) a w)) (x :: LA) a w :=
      zdN (x :: LA) hw (fun a w hS hh => TIh_of_pure ho hpure hS (hbub a w (hh hS))) h
     rw [zeD] at h2
     have h3 := bubbleH (post := []) ok ho (x :: LA) (fun j hj => ⟨hLA j hj, hfree j (List.mem_append_left _ hj) (hLA j hj)⟩) a w hw h2
     rw [List.append_nil] at h3
     exact zbw (fun a w hh => goOn a w (HoldsT.of hh)) (zbv h3 hw)
theorem zrT {Q : Act → World → Prop} (l : List Oper) : ∀ k, (∀ j, l[j]? = ops[k + j]?) → wpI P ops Q (List.range' k l.length) = wpT P ops Q l := zgp l
theorem zdr {Q : Exit → Act → World → Prop} {id : Nat} {pre post : List Oper} {a : Act} {w : World} (hm : P.follows .mixedOrders = true) (hs : Option Tmp → Bool) (S : World → Prop) (hw0 : S w.drew)
  (hB : textH P hs (pre ++ post).toArray = true) (hT : tailB P (pre ++ post).toArray pre.length = true)
  (h : wpTh P S hs (pre ++ post).toArray (fun a w => S w → wpT P (pre ++ post).toArray (fun a w => Q .normal a w) post a w) pre a w.drew) : (Code.region id (pre ++ post).toArray true).wpX P Q a w := by
 refine zbf hm ?_
 have ok := zek hB
 have tk := zmi hT
 have hz : ∀ j, (Array.replicate (pre ++ post).toArray.size false).getD j false = false := fun j => by
  simp only [Array.getD_eq_getD_getElem?, Array.getElem?_replicate]; split <;> rfl
 have hsz : (pre ++ post).toArray.size = pre.length + post.length := by simp
 have hr : List.range pre.length ++ List.range' pre.length post.length = List.range (pre.length + post.length) := by
  rw [List.range_eq_range', List.range_eq_range']
  have := List.range'_append (s := 0) (m := pre.length) (n := post.length) (step := 1)
  simpa using this
 have key := anyOrderT (S := S) (Q := Q) ok tk (pre.length + post.length) (List.range pre.length) (List.range' pre.length post.length) (Array.replicate (pre ++ post).toArray.size false) a w.drew (by simp) (by simp) ?_ (by rw [hr]; exact List.pairwise_lt_range) (fun j hj => by simpa using hj) (fun j hj => by simp at hj; omega) (fun j => by rw [hr, hz, hsz]; simp) ?_
 ·rw [hsz] at key ⊢; exact key
 ·intro i o _ hl; rw [hz] at hl; cases hl
 ·refine HoldsT.of ⟨hw0, ?_⟩
  have e1 := zkD (P := P) (S := S) (hs := hs) (ops := (pre ++ post).toArray) (Q := fun a w => S w → wpI P (pre ++ post).toArray (Q .normal) (List.range' pre.length post.length) a w) pre 0 (fun j hj => by rw [Nat.zero_add]; simp [List.getElem?_append_left hj])
  rw [show List.range pre.length = List.range' 0 pre.length from by simp [List.range_eq_range'], e1]
  have e2 : wpI P (pre ++ post).toArray (Q .normal) (List.range' pre.length post.length) = wpT P (pre ++ post).toArray (Q .normal) post := zrT (ops := (pre ++ post).toArray) post pre.length (fun j => by
   rw [List.getElem?_toArray, List.getElem?_append_right (Nat.le_add_right _ _), Nat.add_sub_cancel_left])
  rw [e2]
  exact h
end
end Go.Pw
namespace Go.Vc
open Go Go.Pw
theorem Draw.heldTail {P : Program} {n : Nat} {K : Exit → Fr → World → Prop} {id : Nat} {ops : Array Oper} {t : List It} {f : Fr} {w : World} (k : Nat) (S : World → Prop) (hs : Option Tmp → Bool) (hB : textH P hs ops = true) (hT : (Nat.ble k ops.size && tailB P ops k) = true) (hw : S w.drew)
  (h : Sat P n K .normal (.opsH S hs ops.toList (ops.toList.take k) :: .ops ops.toList (ops.toList.drop k) true :: t) f w.drew) : Draw P n K id ops t f w :=
 ⟨fun hm hf => by
  rw [Bool.and_eq_true] at hT
  obtain ⟨hk, hT⟩ := hT
  have hk : k ≤ ops.size := Nat.le_of_ble_eq_true hk
  obtain ⟨pre, post, he, hpl⟩ : ∃ pre post : List Oper, ops = (pre ++ post).toArray ∧ pre.length = k := ⟨ops.toList.take k, ops.toList.drop k, by rw [List.take_append_drop], by rw [List.length_take, Array.length_toList]; omega⟩
  subst he
  have e1 : (pre ++ post).toArray.toList.take k = pre := by rw [← hpl]; simp
  have e2 : (pre ++ post).toArray.toList.drop k = post := by rw [← hpl]; simp
  rw [e1, e2] at h
  rw [← hpl] at hT
  refine zdr hm hs S hw hB hT ?_
  have h1 := h.h hf
  have h1 : S w.drew → wpTh P S hs (pre ++ post).toArray (fun a w => S w → Lift n (after P n (.ops (pre ++ post).toArray.toList post true :: t) K .normal) a w) pre (act n f) w.drew := h1
  have mono : ∀ (l : List Oper) (Q Q' : Act → World → Prop), (∀ a w, Q a w → Q' a w) → ∀ a w, S w → wpTh P S hs (pre ++ post).toArray Q l a w → wpTh P S hs (pre ++ post).toArray Q' l a w := by
   intro l
   induction l with
   | nil => intro Q Q' hq a w _ h; exact hq a w h
   | cons x r ih => intro Q Q' hq a w hw h; exact T1h_mono hw (fun a w hS hh => ih Q Q' hq a w hS hh) h
  refine mono pre _ _ ?_ _ _ hw (h1 hw)
  rintro a w hk hS
  obtain ⟨g, hg, e, hk2⟩ := hk hS
  subst e
  exact hk2⟩
end Go.Vc
