/- Helper text of this claim: lemmas and contracts that the proved statement rests on; no conditions of its own. -/
import Derived.Lib.Small
import Derived.Test.YtohhkegmbgancaaGreatDoorGRowK
namespace Go.Cs
set_option maxHeartbeats 4000000
open Go.Lib
set_option linter.unusedVariables false
structure Bx where
 id : Int
 up : Int
 name : List UInt8
 role : List UInt8
deriving DecidableEq
def rolesL : List (List UInt8) := [[], [105, 110, 98, 111, 120], [100, 114, 97, 102, 116, 115], [115, 101, 110, 116], [116, 114, 97, 115, 104], [106, 117, 110, 107], [97, 114, 99, 104, 105, 118, 101]]
def fineB (b : UInt8) : Bool := !(decide (b.toNat < 32) || decide (b.toNat = 127) || decide (b.toNat = 47))
def namedB (s : List UInt8) : Bool := decide (1 ≤ s.length) && decide (s.length ≤ 100) && validD s && s.all fineB
def okStep (pre : List Bx) (last : Int) (b : Bx) : Bool :=
 decide (last < b.id) && decide (b.id ≤ 1099511627776) && namedB b.name && decide (b.role ∈ rolesL) &&
  !(pre.any fun c => decide (c.up = b.up ∧ foldL c.name = foldL b.name)) && !(decide (b.role ≠ []) && pre.any fun c => decide (c.role = b.role))
def okAll : List Bx → List Bx → Int → Bool
 | pre, [], last => true
 | pre, b :: r, last => okStep pre last b && okAll (pre ++ [b]) r b.id
def upOf (l : List Bx) (id : Int) : Option Int := (l.find? fun b => decide (b.id = id)).map (·.up)
def dep (l : List Bx) : Nat → Int → Option Nat
 | 0, id => if id = 0 then some 0 else none
 | n + 1, id => if id = 0 then some 0 else match upOf l id with
  | none => none
  | some u => (dep l n u).map (· + 1)
def deepB (l : List Bx) (b : Bx) : Bool := match dep l l.length b.id with | some d => decide (d ≤ 8) | none => false
def rightL (l : List Bx) : Bool := decide (l.length ≤ 64) && okAll [] l 0 && l.all (deepB l)
structure RightP (l : List Bx) : Prop where
 len : l.length ≤ 64
 pos : ∀ b ∈ l, 1 ≤ b.id ∧ b.id ≤ 1099511627776
 asc : l.Pairwise fun a b => a.id < b.id
 named : ∀ b ∈ l, namedB b.name = true
 roles : ∀ b ∈ l, b.role ∈ rolesL
 uniq : l.Pairwise fun a b => ¬ (a.up = b.up ∧ foldL a.name = foldL b.name)
 urole : l.Pairwise fun a b => ¬ (b.role ≠ [] ∧ a.role = b.role)
 deep : ∀ b ∈ l, ∃ d, dep l l.length b.id = some d ∧ d ≤ 8
structure StepP (pre : List Bx) (last : Int) (b : Bx) : Prop where
 asc : last < b.id
 max : b.id ≤ 1099511627776
 named : namedB b.name = true
 role : b.role ∈ rolesL
 uniq : ∀ c ∈ pre, ¬ (c.up = b.up ∧ foldL c.name = foldL b.name)
 urole : ∀ c ∈ pre, ¬ (b.role ≠ [] ∧ c.role = b.role)
theorem zfX (pre : List Bx) (last : Int) (b : Bx) : okStep pre last b = true ↔ StepP pre last b := by
 unfold okStep
 simp only [Bool.and_eq_true, decide_eq_true_eq, Bool.not_eq_true', List.any_eq_false, Bool.and_eq_false_iff, decide_eq_false_iff_not]
 constructor
 ·rintro ⟨⟨⟨⟨⟨h1, h2⟩, h3⟩, h4⟩, h5⟩, h6⟩
  refine ⟨h1, h2, h3, h4, fun c hc h => h5 c hc (by simpa using h), fun c hc h => ?_⟩
  rcases h6 with h6 | h6
  ·exact h6 h.1
  ·exact h6 c hc h.2
 ·rintro ⟨h1, h2, h3, h4, h5, h6⟩
  refine ⟨⟨⟨⟨⟨h1, h2⟩, h3⟩, h4⟩, fun c hc h => h5 c hc (by simpa using h)⟩, ?_⟩
  by_cases h : b.role = []
  ·exact .inl fun e => e h
  ·exact .inr fun c hc e => h6 c hc ⟨h, e⟩
structure AllP (pre r : List Bx) (last : Int) : Prop where
 lo : ∀ b ∈ r, last < b.id
 max : ∀ b ∈ r, b.id ≤ 1099511627776
 asc : r.Pairwise fun a b => a.id < b.id
 named : ∀ b ∈ r, namedB b.name = true
 role : ∀ b ∈ r, b.role ∈ rolesL
 uniq0 : ∀ c ∈ pre, ∀ b ∈ r, ¬ (c.up = b.up ∧ foldL c.name = foldL b.name)
 uniq : r.Pairwise fun a b => ¬ (a.up = b.up ∧ foldL a.name = foldL b.name)
 urole0 : ∀ c ∈ pre, ∀ b ∈ r, ¬ (b.role ≠ [] ∧ c.role = b.role)
 urole : r.Pairwise fun a b => ¬ (b.role ≠ [] ∧ a.role = b.role)
theorem zfj : ∀ (r pre : List Bx) (last : Int), okAll pre r last = true ↔ AllP pre r last
 | [], pre, last => ⟨fun _ => ⟨by simp, by simp, .nil, by simp, by simp, by simp, .nil, by simp, .nil⟩, fun _ => rfl⟩
 | b :: r, pre, last => by
  rw [okAll, Bool.and_eq_true, zfX, zfj r]
  constructor
  ·rintro ⟨h, k⟩
   refine ⟨fun c hc => ?_, fun c hc => ?_, List.pairwise_cons.2 ⟨k.lo, k.asc⟩, fun c hc => ?_, fun c hc => ?_, fun c hc d hd => ?_, List.pairwise_cons.2 ⟨fun d hd => k.uniq0 b (by simp) d hd, k.uniq⟩, fun c hc d hd => ?_, List.pairwise_cons.2 ⟨fun d hd => k.urole0 b (by simp) d hd, k.urole⟩⟩
   ·rcases List.mem_cons.1 hc with rfl | hc
    ·exact h.asc
    ·have := k.lo c hc; have := h.asc; omega
   ·rcases List.mem_cons.1 hc with rfl | hc
    ·exact h.max
    ·exact k.max c hc
   ·rcases List.mem_cons.1 hc with rfl | hc
    ·exact h.named
    ·exact k.named c hc
   ·rcases List.mem_cons.1 hc with rfl | hc
    ·exact h.role
    ·exact k.role c hc
   ·rcases List.mem_cons.1 hd with rfl | hd
    ·exact h.uniq c hc
    ·exact k.uniq0 c (by simp [hc]) d hd
   ·rcases List.mem_cons.1 hd with rfl | hd
    ·exact h.urole c hc
    ·exact k.urole0 c (by simp [hc]) d hd
  ·intro k
   obtain ⟨a1, a2⟩ := List.pairwise_cons.1 k.asc
   obtain ⟨u1, u2⟩ := List.pairwise_cons.1 k.uniq
   obtain ⟨v1, v2⟩ := List.pairwise_cons.1 k.urole
   have mp : ∀ {p : Bx → Prop} (hp : ∀ c ∈ pre, p c) (hb : p b), ∀ c ∈ pre ++ [b], p c := fun hp hb c hc => by
    rcases List.mem_append.1 hc with hc | hc
    ·exact hp c hc
    ·rw [List.mem_singleton.1 hc]; exact hb
   exact ⟨⟨k.lo b (by simp), k.max b (by simp), k.named b (by simp), k.role b (by simp), fun c hc => k.uniq0 c hc b (by simp), fun c hc => k.urole0 c hc b (by simp)⟩,
    ⟨a1, fun c hc => k.max c (by simp [hc]), a2, fun c hc => k.named c (by simp [hc]), fun c hc => k.role c (by simp [hc]),
     mp (fun c hc d hd => k.uniq0 c hc d (by simp [hd])) (fun d hd => u1 d hd), u2, mp (fun c hc d hd => k.urole0 c hc d (by simp [hd])) (fun d hd => v1 d hd), v2⟩⟩
theorem zhb (l : List Bx) (b : Bx) : deepB l b = true ↔ ∃ d, dep l l.length b.id = some d ∧ d ≤ 8 := by
 unfold deepB
 cases dep l l.length b.id with
 | none => simp
 | some d => simp
theorem zaE (l : List Bx) : rightL l = true ↔ RightP l := by
 unfold rightL
 rw [Bool.and_eq_true, Bool.and_eq_true, decide_eq_true_eq, zfj, List.all_eq_true]
 constructor
 ·rintro ⟨⟨h1, h2⟩, h3⟩
  exact ⟨h1, fun b hb => ⟨by have := h2.lo b hb; omega, h2.max b hb⟩, h2.asc, h2.named, h2.role, h2.uniq, h2.urole, fun b hb => (zhb l b).1 (h3 b hb)⟩
 ·intro h
  exact ⟨⟨h.len, fun b hb => by have := (h.pos b hb).1; omega, fun b hb => (h.pos b hb).2, h.asc, h.named, h.roles, by simp, h.uniq, by simp, h.urole⟩, fun b hb => (zhb l b).2 (h.deep b hb)⟩
theorem zbG {l : List Bx} {id u : Int} (h : upOf l id = some u) : ∃ b ∈ l, b.id = id ∧ b.up = u := by
 unfold upOf at h
 cases hf : l.find? fun b => decide (b.id = id) with
 | none => rw [hf] at h; cases h
 | some b =>
  rw [hf] at h
  have h1 := List.find?_some hf
  exact ⟨b, List.mem_of_find?_eq_some hf, by simpa using h1, by simpa using h⟩
theorem zcC {l : List Bx} {id : Int} : upOf l id = none ↔ ∀ b ∈ l, b.id ≠ id := by
 unfold upOf
 rw [Option.map_eq_none_iff, List.find?_eq_none]
 simp
theorem ziq {l : List Bx} (h : l.Pairwise fun a b => a.id < b.id) {b : Bx} (hb : b ∈ l) : upOf l b.id = some b.up := by
 cases hu : upOf l b.id with
 | none => exact absurd rfl (zcC.1 hu b hb)
 | some u =>
  obtain ⟨c, hc, h1, h2⟩ := zbG hu
  have : c = b := by
   obtain ⟨i, hi, rfl⟩ := List.getElem_of_mem hc
   obtain ⟨j, hj, rfl⟩ := List.getElem_of_mem hb
   rw [List.pairwise_iff_getElem] at h
   rcases Nat.lt_trichotomy i j with hij | hij | hij
   ·have := h i j hi hj hij; omega
   ·subst hij; rfl
   ·have := h j i hj hi hij; omega
  rw [← h2, this]
theorem zcy {l : List Bx} (h : l.Pairwise fun a b => a.id < b.id) {a b : Bx} (ha : a ∈ l) (hb : b ∈ l) (he : a.id = b.id) : a = b := by
 obtain ⟨i, hi, rfl⟩ := List.getElem_of_mem ha
 obtain ⟨j, hj, rfl⟩ := List.getElem_of_mem hb
 rw [List.pairwise_iff_getElem] at h
 rcases Nat.lt_trichotomy i j with hij | hij | hij
 ·have := h i j hi hj hij; omega
 ·subst hij; rfl
 ·have := h j i hj hi hij; omega
theorem zlp (l : List Bx) : ∀ (n : Nat) (id : Int) (d : Nat), dep l n id = some d → d ≤ n
 | 0, id, d, h => by
  unfold dep at h
  split at h
  ·cases h; omega
  ·cases h
 | n + 1, id, d, h => by
  unfold dep at h
  split at h
  ·cases h; omega
  ·cases hu : upOf l id with
   | none => rw [hu] at h; cases h
   | some u =>
    rw [hu] at h
    dsimp only at h
    cases hd : dep l n u with
    | none => rw [hd] at h; cases h
    | some e =>
     rw [hd] at h
     have := zlp l n u e hd
     simp at h; omega
theorem zhe (l : List Bx) : ∀ (n : Nat) (id : Int) (d : Nat), dep l n id = some d → dep l d id = some d
 | 0, id, d, h => by
  have := zlp l 0 id d h
  obtain rfl : d = 0 := by omega
  exact h
 | n + 1, id, d, h => by
  have h' := h
  unfold dep at h
  split at h
  ·rename_i h0; cases h; simp [dep, h0]
  ·rename_i h0
   cases hu : upOf l id with
   | none => rw [hu] at h; cases h
   | some u =>
    rw [hu] at h
    dsimp only at h
    cases hd : dep l n u with
    | none => rw [hd] at h; cases h
    | some e =>
     rw [hd] at h
     simp at h
     subst h
     rw [dep, if_neg h0, hu]
     dsimp only
     rw [zhe l n u e hd]; rfl
set_option linter.unusedSectionVars false
def splitS : List UInt8 → List (List UInt8)
 | [] => [[]]
 | b :: t => if b = 47 then [] :: splitS t else match splitS t with
  | [] => [[b]]
  | x :: r => (b :: x) :: r
theorem zbj (s : List UInt8) : namedB s = true ↔ 1 ≤ s.length ∧ s.length ≤ 100 ∧ validD s = true ∧ ∀ b ∈ s, fineB b = true := by
 unfold namedB
 simp only [Bool.and_eq_true, decide_eq_true_eq, List.all_eq_true, and_assoc]
def boxOf (l : List Bx) (id : Int) : Option Bx := l.find? fun b => decide (b.id = id)
theorem zbu (l : List Bx) (id : Int) : upOf l id = (boxOf l id).map (·.up) := rfl
theorem zbO {l : List Bx} {id : Int} {b : Bx} (h : boxOf l id = some b) : b ∈ l ∧ b.id = id :=
 ⟨List.mem_of_find?_eq_some h, by simpa using List.find?_some h⟩
theorem zce {l : List Bx} {id : Int} : boxOf l id = none ↔ ∀ b ∈ l, b.id ≠ id := by
 unfold boxOf
 rw [List.find?_eq_none]
 simp
def roleOf (l : List Bx) (r : List UInt8) : Option Int := if r = [] then none else (l.find? fun b => decide (b.role = r)).map (·.id)
def kid (l : List Bx) (up : Int) (nm : List UInt8) : Option Int := (l.find? fun b => decide (b.up = up ∧ foldL b.name = nm)).map (·.id)
def walkP (l : List Bx) : Int → List (List UInt8) → Option Int
 | id, [] => some id
 | id, x :: r => match kid l id x with
  | none => none
  | some j => walkP l j r
def pathL (l : List Bx) (path : List UInt8) : Option Int := if rightL l then walkP l 0 (splitS (foldL path)) else none
section
variable {l : List Bx} (hr : RightP l)
include hr
theorem zeW : boxOf l 0 = none := zce.2 fun b hb => by have := (hr.pos b hb).1; omega
theorem up_cases {b : Bx} (hb : b ∈ l) : b.up = 0 ∨ ∃ c ∈ l, c.id = b.up := by
 obtain ⟨d, hd, _⟩ := hr.deep b hb
 have hb1 := (hr.pos b hb).1
 cases hn : l.length with
 | zero => rw [List.eq_nil_of_length_eq_zero hn] at hb; cases hb
 | succ n =>
  rw [hn, dep, if_neg (by omega), ziq hr.asc hb] at hd
  dsimp only at hd
  by_cases h0 : b.up = 0
  ·exact .inl h0
  ·right
   cases hn2 : dep l n b.up with
   | none => rw [hn2] at hd; cases hd
   | some e =>
    cases n with
    | zero => rw [dep, if_neg h0] at hn2; cases hn2
    | succ n =>
     rw [dep, if_neg h0] at hn2
     cases hu : upOf l b.up with
     | none => rw [hu] at hn2; cases hn2
     | some u =>
      obtain ⟨c, h1, h2, _⟩ := zbG hu
      exact ⟨c, h1, h2⟩
theorem zmv {b : Bx} (hb : b ∈ l) : ∃ d, d + 1 ≤ 8 ∧ d + 1 ≤ l.length ∧ dep l (d + 1) b.id = some (d + 1) ∧ dep l d b.up = some d := by
 obtain ⟨d, hd, h8⟩ := hr.deep b hb
 have hb1 := (hr.pos b hb).1
 have hle := zlp _ _ _ _ hd
 have hd := zhe _ _ _ _ hd
 cases d with
 | zero => rw [dep, if_neg (by omega)] at hd; cases hd
 | succ d =>
  refine ⟨d, h8, hle, hd, ?_⟩
  rw [dep, if_neg (by omega), ziq hr.asc hb] at hd
  dsimp only at hd
  cases hn2 : dep l d b.up with
  | none => rw [hn2] at hd; cases hd
  | some e => rw [hn2] at hd; simp at hd; rw [hd]
end
section
variable {l : List Bx} (hr : RightP l)
include hr
theorem zkP {a b : Bx} (ha : a ∈ l) (hb : b ∈ l) (hu : a.up = b.up) (hn : foldL a.name = foldL b.name) : a = b := by
 obtain ⟨i, hi, rfl⟩ := List.getElem_of_mem ha
 obtain ⟨j, hj, rfl⟩ := List.getElem_of_mem hb
 have h := hr.uniq
 rw [List.pairwise_iff_getElem] at h
 rcases Nat.lt_trichotomy i j with hij | hij | hij
 ·exact absurd ⟨hu, hn⟩ (h i j hi hj hij)
 ·subst hij; rfl
 ·exact absurd ⟨hu.symm, hn.symm⟩ (h j i hj hi hij)
end
end Go.Cs
namespace Go.Cs
set_option maxHeartbeats 4000000
set_option linter.unusedVariables false
def foldT : List (Int × Int × Int × Int) := [(65, 90, 1, 32), (192, 214, 1, 32), (216, 222, 1, 32), (256, 303, 2, 1), (306, 311, 2, 1), (313, 328, 2, 1), (330, 375, 2, 1), (376, 376, 1, -121), (377, 382, 2, 1), (902, 902, 1, 38), (904, 906, 1, 37), (908, 908, 1, 64), (910, 911, 1, 63), (913, 929, 1, 32), (931, 939, 1, 32), (1024, 1039, 1, 80), (1040, 1071, 1, 32)]
def foldSp (i : Nat) : Int × Int × Int × Int := foldT.getD i (0, 0, 0, 0)
def cmp3 (a b : Int) : Int := if a < b then -1 else if b < a then 1 else 0
def cmpF (i : Nat) (r : Int) : Int := if (foldSp i).2.1 < r then -1 else if r < (foldSp i).1 then 1 else 0
theorem zfV : ∀ i : Fin 17, (foldSp i.val).1 ≤ (foldSp i.val).2.1 ∧ 0 ≤ (foldSp i.val).1 ∧ (foldSp i.val).2.1 ≤ 1114111 ∧ 1 ≤ (foldSp i.val).2.2.1 ∧ (foldSp i.val).2.2.1 ≤ 2 ∧ -200 ≤ (foldSp i.val).2.2.2 ∧ (foldSp i.val).2.2.2 ≤ 200 := by decide
theorem zjD : ∀ i j : Fin 17, i.val < j.val → (foldSp i.val).2.1 < (foldSp j.val).1 := by decide
theorem zjb (i : Nat) (r : Int) : cmpF i r < 0 ↔ (foldSp i).2.1 < r := by
 unfold cmpF
 repeat' split
 all_goals omega
theorem zhm (i j : Nat) (h : i < j) (hj : j < 17) (r : Int) (hr : cmpF j r < 0) : cmpF i r < 0 := by
 rw [zjb] at *
 have h1 := zfV ⟨j, hj⟩
 have h2 := zjD ⟨i, by omega⟩ ⟨j, hj⟩ h
 simp only at h1 h2
 omega
def Pos (cmp : Nat → Int) (n k : Nat) : Prop := k ≤ n ∧ (∀ m, m < k → cmp m < 0) ∧ ∀ m, k ≤ m → m < n → 0 ≤ cmp m
theorem zlu (k : Nat) (r : Int) (h : cmpF k r = 0) : (foldSp k).1 ≤ r ∧ r ≤ (foldSp k).2.1 := by
 unfold cmpF at h
 repeat' split at h
 all_goals omega
theorem zmL (k : Nat) (r : Int) (hp : Pos (fun i => cmpF i r) 17 k) (hn : ¬ (k < 17 ∧ cmpF k r = 0)) (m : Nat) (hm : m < 17) : ¬ ((foldSp m).1 ≤ r ∧ r ≤ (foldSp m).2.1) := by
 obtain ⟨h1, h2, h3⟩ := hp
 intro hc
 have h0 : cmpF m r = 0 := by unfold cmpF; rw [if_neg (by omega), if_neg (by omega)]
 have hge : ¬ m < k := fun h => by have := h2 m h; dsimp only at this; omega
 by_cases e : m = k
 ·exact hn ⟨by omega, by rw [← e]; exact h0⟩
 ·have h4 := h3 k (Nat.le_refl _) (by omega)
  dsimp only at h4
  have h5 : ¬ cmpF k r < 0 := by omega
  rw [zjb] at h5
  have h6 := zjD ⟨k, by omega⟩ ⟨m, hm⟩ (by simp only; omega)
  simp only at h6
  omega
theorem zmj (k : Nat) (hk : k < 17) (r : Nat) (h : (foldSp k).1 ≤ (r : Int) ∧ (r : Int) ≤ (foldSp k).2.1) : ((lowC r : Nat) : Int) = if ((r : Int) - (foldSp k).1) % (foldSp k).2.2.1 = 0 then (r : Int) + (foldSp k).2.2.2 else r := by
 match k, hk with
 | 0, _ | 1, _ | 2, _ | 3, _ | 4, _ | 5, _ | 6, _ | 7, _ | 8, _ | 9, _ | 10, _ | 11, _ | 12, _ | 13, _ | 14, _ | 15, _ | 16, _ =>
  simp only [foldSp, foldT, List.getD_cons_zero, List.getD_cons_succ] at h ⊢
  unfold lowC
  repeat (first | rw [if_pos (by omega)] | rw [if_neg (by omega)])
  try (repeat' split)
  all_goals omega
 | n + 17, hk => omega
theorem zoP (r : Nat) (h : ∀ m, m < 17 → ¬ ((foldSp m).1 ≤ (r : Int) ∧ (r : Int) ≤ (foldSp m).2.1)) : lowC r = r := by
 have h0 := h 0 (by omega); have h1 := h 1 (by omega); have h2 := h 2 (by omega); have h3 := h 3 (by omega); have h4 := h 4 (by omega); have h5 := h 5 (by omega); have h6 := h 6 (by omega)
 have h7 := h 7 (by omega); have h8 := h 8 (by omega); have h9 := h 9 (by omega); have h10 := h 10 (by omega); have h11 := h 11 (by omega); have h12 := h 12 (by omega); have h13 := h 13 (by omega)
 have h14 := h 14 (by omega); have h15 := h 15 (by omega); have h16 := h 16 (by omega)
 clear h
 simp only [foldSp, foldT, List.getD_cons_zero, List.getD_cons_succ] at h0 h1 h2 h3 h4 h5 h6 h7 h8 h9 h10 h11 h12 h13 h14 h15 h16
 unfold lowC
 repeat (first | rw [if_pos (by omega)] | rw [if_neg (by omega)])
end Go.Cs
namespace Go.Cs
set_option maxHeartbeats 4000000
open Go.Lib
set_option linter.unusedVariables false
def mk (l : List UInt8) (p : Nat × Nat) : List UInt8 × Nat × Nat := (foldL (cutL l p), p.1, p.2)
theorem Bd.take {l : List UInt8} {n : Nat} (h : Bd l n) : ∀ b, n ≤ b → Bd (l.take b) n := by
 induction h with
 | zero l => exact fun b _ => .zero _
 | step l n hne _ ih =>
  intro b hb
  have hw := decodeL_width l
  have hd := zjq l b hne (by omega)
  have hl : 0 < l.length := List.length_pos_iff.2 hne
  have hne' : l.take b ≠ [] := by
   intro e
   have := congrArg List.length e
   rw [List.length_take, List.length_nil] at this
   omega
  have h1 := ih (b - (decodeL l).2) (by omega)
  rw [← hd]
  refine .step _ _ hne' ?_
  rw [hd, List.drop_take]
  exact h1
def W (u : List (Nat × Nat)) : Nat := (u.map (·.2)).sum
def unF : Nat → List UInt8 → List (List UInt8)
 | 0, _ => []
 | _ + 1, [] => []
 | n + 1, b :: t => (b :: t).take (decodeL (b :: t)).2 :: unF n ((b :: t).drop (decodeL (b :: t)).2)
def units (l : List UInt8) : List (List UInt8) := unF l.length l
theorem zjm : ∀ (n m : Nat) (l : List UInt8), l.length ≤ n → l.length ≤ m → unF n l = unF m l
 | 0, m, l, hn, _ => by
  have : l = [] := List.eq_nil_of_length_eq_zero (by omega)
  subst this
  cases m <;> rfl
 | n + 1, 0, l, _, hm => by
  have : l = [] := List.eq_nil_of_length_eq_zero (by omega)
  subst this; rfl
 | n + 1, m + 1, [], _, _ => rfl
 | n + 1, m + 1, b :: t, hn, hm => by
  have hw := decodeL_width (b :: t)
  simp only [unF]
  rw [zjm n m _ (by rw [List.length_drop]; omega) (by rw [List.length_drop]; omega)]
theorem zlq : units [] = [] := rfl
theorem zcO (l : List UInt8) (hne : l ≠ []) : units l = l.take (decodeL l).2 :: units (l.drop (decodeL l).2) := by
 obtain ⟨b, t, rfl⟩ := List.exists_cons_of_ne_nil hne
 have hw := decodeL_width (b :: t)
 show (b :: t).take (decodeL (b :: t)).2 :: unF t.length _ = _
 rw [zjm t.length ((b :: t).drop (decodeL (b :: t)).2).length _ (by rw [List.length_drop, List.length_cons]; omega) (Nat.le_refl _)]
 rfl
def IsUnit (u : List UInt8) : Prop := u ≠ [] ∧ (decodeL u).2 = u.length
theorem zfq (l : List UInt8) (hne : l ≠ []) : IsUnit (l.take (decodeL l).2) ∧ decodeL (l.take (decodeL l).2) = decodeL l := by
 have hw := decodeL_width l
 have hl := decodeL_le l hne
 have h0 := List.length_pos_iff.2 hne
 have h := zjq l (decodeL l).2 hne (Nat.le_refl _)
 refine ⟨⟨fun e => ?_, ?_⟩, h⟩
 ·have := congrArg List.length e
  rw [List.length_take, List.length_nil] at this; omega
 ·rw [h, List.length_take]; omega
theorem zjU (l : List UInt8) : ∀ u ∈ units l, IsUnit u := by
 induction l using zey with
 | nil => intro u hu; cases hu
 | step l hne ih =>
  intro u hu
  rw [zcO l hne] at hu
  rcases List.mem_cons.1 hu with rfl | hu
  ·exact (zfq l hne).1
  ·exact ih u hu
theorem zkd (l : List UInt8) : foldL l = (units l).flatMap head1 := by
 induction l using zey with
 | nil => rfl
 | step l hne ih =>
  have hl := decodeL_le l hne
  have hw := decodeL_width l
  rw [zcO l hne, zfO l hne, List.flatMap_cons, ih]
  congr 1
  unfold head1
  rw [(zfq l hne).2]
  obtain ⟨b, t, rfl⟩ := List.exists_cons_of_ne_nil hne
  congr 2
  obtain ⟨k, hk⟩ : ∃ k, (decodeL (b :: t)).2 = k + 1 := ⟨(decodeL (b :: t)).2 - 1, by omega⟩
  rw [hk]; rfl
theorem zkz (l : List UInt8) : (units l).length ≤ l.length := by
 induction l using zey with
 | nil => exact Nat.le_refl _
 | step l hne ih =>
  have hw := decodeL_width l
  have hl := decodeL_le l hne
  rw [List.length_drop] at ih
  rw [zcO l hne, List.length_cons]; omega
def runeU (u : List UInt8) : Nat :=
 if u.length = 1 then (u.getD 0 0).toNat
 else if u.length = 2 then (u.getD 0 0).toNat % 32 * 64 + (u.getD 1 0).toNat % 64
 else if u.length = 3 then (u.getD 0 0).toNat % 16 * 4096 + (u.getD 1 0).toNat % 64 * 64 + (u.getD 2 0).toNat % 64
 else (u.getD 0 0).toNat % 8 * 262144 + (u.getD 1 0).toNat % 64 * 4096 + (u.getD 2 0).toNat % 64 * 64 + (u.getD 3 0).toNat % 64
def need (l : List UInt8) : Nat := if 194 ≤ (l.getD 0 0).toNat ∧ (l.getD 0 0).toNat ≤ 223 then 2 else if 224 ≤ (l.getD 0 0).toNat ∧ (l.getD 0 0).toNat ≤ 239 then 3 else if 240 ≤ (l.getD 0 0).toNat ∧ (l.getD 0 0).toNat ≤ 244 then 4 else 1
def lowN (n : Nat) : Nat := if n = 2 then 128 else if n = 3 then 2048 else if n = 4 then 65536 else 0
def contB (l : List UInt8) (i : Nat) : Prop := 128 ≤ (l.getD i 0).toNat ∧ (l.getD i 0).toNat ≤ 191
instance (l : List UInt8) (i : Nat) : Decidable (contB l i) := by unfold contB; infer_instance
theorem zbd (l : List UInt8) (n i : Nat) (h : i < n) : (l.take n).getD i 0 = l.getD i 0 := by
 rw [List.getD_eq_getElem?_getD, List.getD_eq_getElem?_getD, List.getElem?_take_of_lt h]
def badC (l : List UInt8) (n : Nat) : Prop := (2 ≤ n ∧ ¬ contB l 1) ∨ (3 ≤ n ∧ ¬ contB l 2) ∨ (4 ≤ n ∧ ¬ contB l 3)
instance (l : List UInt8) (n : Nat) : Decidable (badC l n) := by unfold badC; infer_instance
def refLen (l : List UInt8) : Nat :=
 if need l = 1 ∨ l.length < need l then 1
 else if badC l (need l) then 1
 else if runeU (l.take (need l)) < lowN (need l) ∨ 1114111 < runeU (l.take (need l)) ∨ (55296 ≤ runeU (l.take (need l)) ∧ runeU (l.take (need l)) ≤ 57343) then 1
 else need l
theorem runeU2 (l : List UInt8) (h : 2 ≤ l.length) : runeU (l.take 2) = (l.getD 0 0).toNat % 32 * 64 + (l.getD 1 0).toNat % 64 := by
 unfold runeU
 rw [List.length_take, Nat.min_eq_left h, if_neg (by omega), if_pos rfl, zbd l 2 0 (by omega), zbd l 2 1 (by omega)]
theorem runeU3 (l : List UInt8) (h : 3 ≤ l.length) : runeU (l.take 3) = (l.getD 0 0).toNat % 16 * 4096 + (l.getD 1 0).toNat % 64 * 64 + (l.getD 2 0).toNat % 64 := by
 unfold runeU
 rw [List.length_take, Nat.min_eq_left h, if_neg (by omega), if_neg (by omega), if_pos rfl, zbd l 3 0 (by omega), zbd l 3 1 (by omega), zbd l 3 2 (by omega)]
theorem runeU4 (l : List UInt8) (h : 4 ≤ l.length) : runeU (l.take 4) = (l.getD 0 0).toNat % 8 * 262144 + (l.getD 1 0).toNat % 64 * 4096 + (l.getD 2 0).toNat % 64 * 64 + (l.getD 3 0).toNat % 64 := by
 unfold runeU
 rw [List.length_take, Nat.min_eq_left h, if_neg (by omega), if_neg (by omega), if_neg (by omega), zbd l 4 0 (by omega), zbd l 4 1 (by omega), zbd l 4 2 (by omega), zbd l 4 3 (by omega)]
theorem zhr (l : List UInt8) (hne : l ≠ []) : refLen l = (decodeL l).2 ∧ (decodeL l = (65533, 1) ∨ runeU (l.take (decodeL l).2) = (decodeL l).1) := by
 have hl0 : 0 < l.length := List.length_pos_iff.2 hne
 rw [decodeL_N]
 unfold refLen
 have h0 := UInt8.toNat_lt (l.getD 0 0)
 have hr1 : runeU (l.take 1) = (l.getD 0 0).toNat := by
  unfold runeU
  rw [List.length_take, Nat.min_eq_left hl0, if_pos rfl, zbd l 1 0 (by omega)]
 have hr2 := runeU2 l
 have hr3 := runeU3 l
 have hr4 := runeU4 l
 have hc1 : contB l 1 ↔ (128 ≤ (l.getD 1 0).toNat ∧ (l.getD 1 0).toNat ≤ 191) := Iff.rfl
 have hc2 : contB l 2 ↔ (128 ≤ (l.getD 2 0).toNat ∧ (l.getD 2 0).toNat ≤ 191) := Iff.rfl
 have hc3 : contB l 3 ↔ (128 ≤ (l.getD 3 0).toNat ∧ (l.getD 3 0).toNat ≤ 191) := Iff.rfl
 have hnd : need l = if 194 ≤ (l.getD 0 0).toNat ∧ (l.getD 0 0).toNat ≤ 223 then 2 else if 224 ≤ (l.getD 0 0).toNat ∧ (l.getD 0 0).toNat ≤ 239 then 3 else if 240 ≤ (l.getD 0 0).toNat ∧ (l.getD 0 0).toNat ≤ 244 then 4 else 1 := rfl
 have h1 := UInt8.toNat_lt (l.getD 1 0)
 have h2 := UInt8.toNat_lt (l.getD 2 0)
 have h3 := UInt8.toNat_lt (l.getD 3 0)
 generalize (l.getD 0 0).toNat = x0 at *
 generalize (l.getD 1 0).toNat = x1 at *
 generalize (l.getD 2 0).toNat = x2 at *
 generalize (l.getD 3 0).toNat = x3 at *
 generalize l.length = n at *
 by_cases hA : x0 < 128
 ·have hD : decodeN n x0 x1 x2 x3 = (x0, 1) := by unfold decodeN; rw [if_pos hA]
  rw [hD, if_pos (.inl (by rw [hnd, if_neg (by omega), if_neg (by omega), if_neg (by omega)]))]
  exact ⟨rfl, .inr hr1⟩
 by_cases hB : 194 ≤ x0 ∧ x0 ≤ 223
 ·rw [if_pos hB] at hnd
  rw [hnd]
  by_cases hl : n < 2
  ·have hD : decodeN n x0 x1 x2 x3 = (65533, 1) := by unfold decodeN; rw [if_neg (by omega), if_neg (by omega), if_neg (by omega), if_neg (by omega)]
   rw [hD, if_pos (.inr hl)]
   exact ⟨rfl, .inl rfl⟩
  have hb2 : badC l 2 ↔ ¬ contB l 1 := by unfold badC; simp
  by_cases hc : 128 ≤ x1 ∧ x1 ≤ 191
  ·have hD : decodeN n x0 x1 x2 x3 = (x0 % 32 * 64 + x1 % 64, 2) := by unfold decodeN; rw [if_neg hA, if_pos (by omega), if_pos (by omega)]
   rw [hD, if_neg (by omega), if_neg (fun h => hb2.1 h (hc1.2 hc)), hr2 (by omega), show lowN 2 = 128 from rfl, if_neg (by omega)]
   exact ⟨rfl, .inr rfl⟩
  ·have hD : decodeN n x0 x1 x2 x3 = (65533, 1) := by unfold decodeN; rw [if_neg hA, if_neg (by omega), if_neg (by omega), if_neg (by omega)]
   rw [hD, if_neg (by omega), if_pos (hb2.2 fun h => hc (hc1.1 h))]
   exact ⟨rfl, .inl rfl⟩
 by_cases hC : 224 ≤ x0 ∧ x0 ≤ 239
 ·rw [if_neg hB, if_pos hC] at hnd
  rw [hnd]
  by_cases hl : n < 3
  ·have hD : decodeN n x0 x1 x2 x3 = (65533, 1) := by unfold decodeN; rw [if_neg (by omega), if_neg (by omega), if_neg (by omega), if_neg (by omega)]
   rw [hD, if_pos (.inr hl)]
   exact ⟨rfl, .inl rfl⟩
  have hb3 : badC l 3 ↔ (¬ contB l 1 ∨ ¬ contB l 2) := by unfold badC; simp
  by_cases hc : (128 ≤ x1 ∧ x1 ≤ 191) ∧ 128 ≤ x2 ∧ x2 ≤ 191
  ·rw [if_neg (by omega), if_neg (fun h => (hb3.1 h).elim (fun h => h (hc1.2 hc.1)) (fun h => h (hc2.2 hc.2))), hr3 (by omega), show lowN 3 = 2048 from rfl]
   by_cases hv : x0 % 16 * 4096 + x1 % 64 * 64 + x2 % 64 < 2048 ∨ 1114111 < x0 % 16 * 4096 + x1 % 64 * 64 + x2 % 64 ∨ (55296 ≤ x0 % 16 * 4096 + x1 % 64 * 64 + x2 % 64 ∧ x0 % 16 * 4096 + x1 % 64 * 64 + x2 % 64 ≤ 57343)
   ·have hD : decodeN n x0 x1 x2 x3 = (65533, 1) := by unfold decodeN; rw [if_neg hA, if_neg (by omega), if_pos (by omega), if_neg (by omega)]
    rw [if_pos hv, hD]
    exact ⟨rfl, .inl rfl⟩
   ·have hD : decodeN n x0 x1 x2 x3 = (x0 % 16 * 4096 + x1 % 64 * 64 + x2 % 64, 3) := by unfold decodeN; rw [if_neg hA, if_neg (by omega), if_pos (by omega), if_pos (by omega)]
    rw [if_neg hv, hD]
    exact ⟨rfl, .inr (hr3 (by omega))⟩
  ·have hD : decodeN n x0 x1 x2 x3 = (65533, 1) := by unfold decodeN; rw [if_neg hA, if_neg (by omega), if_neg (by omega), if_neg (by omega)]
   rw [hD, if_neg (by omega), if_pos (by rw [hb3, hc1, hc2]; omega)]
   exact ⟨rfl, .inl rfl⟩
 by_cases hD4 : 240 ≤ x0 ∧ x0 ≤ 244
 ·rw [if_neg hB, if_neg hC, if_pos hD4] at hnd
  rw [hnd]
  by_cases hl : n < 4
  ·have hD : decodeN n x0 x1 x2 x3 = (65533, 1) := by unfold decodeN; rw [if_neg (by omega), if_neg (by omega), if_neg (by omega), if_neg (by omega)]
   rw [hD, if_pos (.inr hl)]
   exact ⟨rfl, .inl rfl⟩
  have hb4 : badC l 4 ↔ (¬ contB l 1 ∨ ¬ contB l 2 ∨ ¬ contB l 3) := by unfold badC; simp
  by_cases hc : (128 ≤ x1 ∧ x1 ≤ 191) ∧ (128 ≤ x2 ∧ x2 ≤ 191) ∧ 128 ≤ x3 ∧ x3 ≤ 191
  ·rw [if_neg (by omega), if_neg (fun h => (hb4.1 h).elim (fun h => h (hc1.2 hc.1)) (fun h => h.elim (fun h => h (hc2.2 hc.2.1)) (fun h => h (hc3.2 hc.2.2)))), hr4 (by omega), show lowN 4 = 65536 from rfl]
   by_cases hv : x0 % 8 * 262144 + x1 % 64 * 4096 + x2 % 64 * 64 + x3 % 64 < 65536 ∨ 1114111 < x0 % 8 * 262144 + x1 % 64 * 4096 + x2 % 64 * 64 + x3 % 64
   ·have hD : decodeN n x0 x1 x2 x3 = (65533, 1) := by unfold decodeN; rw [if_neg hA, if_neg (by omega), if_neg (by omega), if_pos (by omega), if_neg (by omega)]
    rw [if_pos (by omega), hD]
    exact ⟨rfl, .inl rfl⟩
   ·have hD : decodeN n x0 x1 x2 x3 = (x0 % 8 * 262144 + x1 % 64 * 4096 + x2 % 64 * 64 + x3 % 64, 4) := by unfold decodeN; rw [if_neg hA, if_neg (by omega), if_neg (by omega), if_pos (by omega), if_pos (by omega)]
    rw [if_neg (by omega), hD]
    exact ⟨rfl, .inr (hr4 (by omega))⟩
  ·have hD : decodeN n x0 x1 x2 x3 = (65533, 1) := by unfold decodeN; rw [if_neg hA, if_neg (by omega), if_neg (by omega), if_neg (by omega)]
   rw [hD, if_neg (by omega), if_pos (by rw [hb4, hc1, hc2, hc3]; omega)]
   exact ⟨rfl, .inl rfl⟩
 ·rw [if_neg hB, if_neg hC, if_neg hD4] at hnd
  rw [if_pos (.inl hnd)]
  have hD : decodeN n x0 x1 x2 x3 = (65533, 1) := by
   unfold decodeN
   rw [if_neg hA]
   have h1 : ¬ (x0 / 16 = 14) := by omega
   have h2 : ¬ (x0 % 8 * 262144 + x1 % 64 * 4096 + x2 % 64 * 64 + x3 % 64 ≥ 65536 ∧ (x0 % 8 * 262144 + x1 % 64 * 4096 + x2 % 64 * 64 + x3 % 64 < 55296 ∨ (57344 ≤ x0 % 8 * 262144 + x1 % 64 * 4096 + x2 % 64 * 64 + x3 % 64 ∧ x0 % 8 * 262144 + x1 % 64 * 4096 + x2 % 64 * 64 + x3 % 64 ≤ 1114111))) ∨ ¬ x0 / 8 = 30 := by omega
   by_cases ha : x0 / 32 = 6 ∧ (1 < n ∧ x1 / 64 = 2)
   ·rw [if_pos ha, if_neg (by omega)]
   rw [if_neg ha, if_neg (fun h => h1 h.1)]
   split
   ·rename_i h
    rcases h2 with h2 | h2
    ·rw [if_neg h2]
    ·exact (h2 h.1).elim
   ·rfl
  rw [hD]
  exact ⟨rfl, .inl rfl⟩
theorem enc_len' (c : Nat) (h1 : ¬ c < 128) : 2 ≤ (enc c).length := by
 unfold enc encodeRune
 by_cases h2 : c ≤ 2047
 ·rw [encodeRuneZ_two (by omega) (by omega)]; simp
 by_cases hb : (55296 ≤ c ∧ c ≤ 57343) ∨ 1114111 < c
 ·rw [encodeRuneZ_bad (by omega)]; simp
 by_cases h3 : c ≤ 65535
 ·rw [encodeRuneZ_three (by omega)]; simp
 ·rw [encodeRuneZ_four (by omega) (by omega)]; simp
theorem dec_one (l : List UInt8) (h : (decodeL l).2 = 1) (hne : l ≠ []) : (128 ≤ (l.getD 0 0).toNat ∧ decodeL l = (65533, 1)) ∨ ((l.getD 0 0).toNat < 128 ∧ decodeL l = ((l.getD 0 0).toNat, 1)) := by
 by_cases h0 : (l.getD 0 0).toNat < 128
 ·refine .inr ⟨h0, ?_⟩
  rw [decodeL_N]; unfold decodeN; rw [if_pos h0]
 ·refine .inl ⟨by omega, ?_⟩
  rcases dec_whole l hne with h' | ⟨h1, h2, h3, _⟩
  ·exact h'
  ·exfalso
   rw [h] at h2 h3
   have hl0 : 0 < l.length := List.length_pos_iff.2 hne
   have hd := zif _ h1 (l.drop 1)
   rw [← h2, List.take_append_drop] at hd
   have h4 : (decodeL l).1 < 128 ∨ ¬ (decodeL l).1 < 128 := by omega
   rcases h4 with h4 | h4
   ·rw [enc1 h4] at h2
    have := congrArg (fun x => (x.getD 0 0).toNat) h2
    simp only [zbd l 1 0 (by omega), List.getD_cons_zero] at this
    rw [this] at h0
    simp at h0
    omega
   ·have := enc_len' _ h4
    omega
theorem zcD {α : Type} [DecidableEq α] : ∀ (a b : List α), a.Nodup → (∀ x ∈ a, x ∈ b) → a.length ≤ b.length
 | [], b, _, _ => Nat.zero_le _
 | x :: r, b, hn, hs => by
  rw [List.nodup_cons] at hn
  have hx : x ∈ b := hs x (by simp)
  have h1 := zcD r (b.erase x) hn.2 fun y hy => by
   have hne : y ≠ x := fun e => hn.1 (e ▸ hy)
   exact (List.mem_erase_of_ne hne).2 (hs y (by simp [hy]))
  have h2 := List.length_erase_of_mem hx
  have h3 : 0 < b.length := List.length_pos_iff.2 fun e => by rw [e] at hx; cases hx
  simp only [List.length_cons]
  omega
theorem zaJ {α : Type} (p : α → Bool) : ∀ (l : List α) (j : Nat), (∀ x ∈ l.take j, p x = true) → (j ≤ l.length) → (∀ x, l[j]? = some x → p x = false) → (l.takeWhile p).length = j
 | [], j, _, hj, _ => by simp at hj; simp [hj]
 | a :: r, 0, _, _, h => by
  have := h a rfl
  simp [this]
 | a :: r, j + 1, h1, hj, h => by
  have ha := h1 a (by simp)
  simp only [List.takeWhile_cons, ha, if_true, List.length_cons]
  rw [zaJ p r j (fun x hx => h1 x (by simp [hx])) (by simpa using hj) (fun x hx => h x (by simpa using hx))]
set_option linter.unusedSectionVars false
def Dep (l : List Bx) : Nat → Int → Prop
 | 0, id => id = 0
 | d + 1, id => id ≠ 0 ∧ ∃ u, upOf l id = some u ∧ Dep l d u
theorem zbZ (l : List Bx) : ∀ (n d : Nat) (id : Int), dep l n id = some d ↔ Dep l d id ∧ d ≤ n
 | 0, 0, id => by unfold dep Dep; by_cases h : id = 0 <;> simp [h]
 | 0, d + 1, id => by unfold dep; by_cases h : id = 0 <;> simp [h]
 | n + 1, 0, id => by
  unfold dep Dep
  by_cases h : id = 0
  ·simp [h]
  ·rw [if_neg h]
   constructor
   ·intro e
    cases hu : upOf l id with
    | none => rw [hu] at e; cases e
    | some u =>
     rw [hu] at e
     dsimp only at e
     cases hd : dep l n u with
     | none => rw [hd] at e; cases e
     | some x => rw [hd] at e; simp at e
   ·intro e; exact absurd e.1 h
 | n + 1, d + 1, id => by
  unfold dep Dep
  by_cases h : id = 0
  ·simp [h]
  ·rw [if_neg h]
   constructor
   ·intro e
    cases hu : upOf l id with
    | none => rw [hu] at e; cases e
    | some u =>
     rw [hu] at e
     dsimp only at e
     cases hd : dep l n u with
     | none => rw [hd] at e; cases e
     | some x =>
      rw [hd] at e
      simp at e
      subst e
      obtain ⟨h1, h2⟩ := (zbZ l n x u).1 hd
      exact ⟨⟨h, u, rfl, h1⟩, by omega⟩
   ·rintro ⟨⟨_, u, hu, h1⟩, h2⟩
    rw [hu]
    dsimp only
    rw [(zbZ l n d u).2 ⟨h1, by omega⟩]; rfl
theorem Dep.inj {l : List Bx} : ∀ {d e : Nat} {id : Int}, Dep l d id → Dep l e id → d = e
 | 0, 0, id, _, _ => rfl
 | 0, e + 1, id, h, k => absurd h k.1
 | d + 1, 0, id, h, k => absurd k h.1
 | d + 1, e + 1, id, ⟨_, u, hu, h⟩, ⟨_, v, hv, k⟩ => by
  rw [hu] at hv
  obtain rfl := Option.some.inj hv
  rw [Dep.inj h k]
theorem Dep.len {l : List Bx} {d : Nat} {id : Int} (h : Dep l d id) : d ≤ l.length := by
 have key : ∀ (d : Nat) (id : Int), Dep l d id → ∃ c : List Int, c.length = d ∧ c.Nodup ∧ (∀ x ∈ c, x ∈ l.map (·.id)) ∧ ∀ x ∈ c, ∃ e, e ≤ d ∧ Dep l e x := by
  intro d
  induction d with
  | zero => intro id _; exact ⟨[], rfl, .nil, by simp, by simp⟩
  | succ d ih =>
   rintro id ⟨h0, u, hu, hd⟩
   obtain ⟨c, h1, h2, h3, h4⟩ := ih u hd
   obtain ⟨b, hb, hid, _⟩ := zbG hu
   refine ⟨id :: c, by simp [h1], List.nodup_cons.2 ⟨fun hm => ?_, h2⟩, fun x hx => ?_, fun x hx => ?_⟩
   ·obtain ⟨e, he, hde⟩ := h4 id hm
    have := Dep.inj hde (show Dep l (d + 1) id from ⟨h0, u, hu, hd⟩)
    omega
   ·rcases List.mem_cons.1 hx with rfl | hx
    ·exact List.mem_map.2 ⟨b, hb, hid⟩
    ·exact h3 x hx
   ·rcases List.mem_cons.1 hx with rfl | hx
    ·exact ⟨d + 1, Nat.le_refl _, h0, u, hu, hd⟩
    ·obtain ⟨e, he, hde⟩ := h4 x hx
     exact ⟨e, by omega, hde⟩
 obtain ⟨c, h1, h2, h3, _⟩ := key d id h
 have := zcD c (l.map (·.id)) h2 h3
 rw [List.length_map] at this
 omega
theorem RightP.dep {l : List Bx} (hr : RightP l) {b : Bx} (hb : b ∈ l) : ∃ d, Dep l d b.id ∧ d ≤ 8 := by
 obtain ⟨d, h1, h2⟩ := hr.deep b hb
 exact ⟨d, ((zbZ _ _ _ _).1 h1).1, h2⟩
theorem zeL {l : List Bx} {b : Bx} {d : Nat} (h : Dep l d b.id) (h8 : d ≤ 8) : ∃ d, Go.Cs.dep l l.length b.id = some d ∧ d ≤ 8 := ⟨d, (zbZ _ _ _ _).2 ⟨h, h.len⟩, h8⟩
def dpt (l : List Bx) (id : Int) : Nat := (dep l l.length id).getD 0
theorem zfY {l : List Bx} {d : Nat} {id : Int} (h : Dep l d id) : dpt l id = d := by
 unfold dpt
 rw [(zbZ _ _ _ _).2 ⟨h, h.len⟩]; rfl
inductive Reach (l : List Bx) (b : Int) : Int → Prop
 | here : Reach l b b
 | up {id u : Int} : upOf l id = some u → Reach l b u → Reach l b id
def withinN (l : List Bx) : Nat → Int → Int → Bool
 | 0, id, b => decide (id = b)
 | n + 1, id, b => if id = 0 ∨ id = b then decide (id = b) else match upOf l id with
  | none => false
  | some u => withinN l n u b
def within (l : List Bx) (id b : Int) : Bool := withinN l l.length id b
theorem zfQ {l : List Bx} (hz : upOf l 0 = none) {b : Int} (hb : b ≠ 0) : ∀ (n d : Nat) (id : Int), Dep l d id → d ≤ n → (withinN l n id b = true ↔ Reach l b id)
 | 0, d, id, h, hn => by
  obtain rfl : d = 0 := by omega
  have : id = 0 := h
  subst this
  simp only [withinN, decide_eq_true_eq]
  constructor
  ·intro e; exact absurd e.symm hb
  ·intro e
   cases e with
   | here => rfl
   | up h _ => rw [hz] at h; cases h
 | n + 1, d, id, h, hn => by
  unfold withinN
  by_cases hc : id = 0 ∨ id = b
  ·rw [if_pos hc, decide_eq_true_eq]
   constructor
   ·rintro rfl; exact .here
   ·intro e
    rcases hc with rfl | rfl
    ·cases e with
     | here => rfl
     | up h _ => rw [hz] at h; cases h
    ·rfl
  ·rw [if_neg hc]
   cases d with
   | zero => exact absurd (.inl h) hc
   | succ d =>
    obtain ⟨h0, u, hu, hd⟩ := h
    rw [hu]
    dsimp only
    rw [zfQ hz hb n d u hd (by omega)]
    constructor
    ·exact fun e => .up hu e
    ·intro e
     cases e with
     | here => exact absurd (.inr rfl) hc
     | up h k => rw [hu] at h; rw [Option.some.inj h]; exact k
theorem zbr {l : List Bx} (hr : RightP l) {b id : Int} (hb : b ≠ 0) {d : Nat} (h : Dep l d id) : within l id b = true ↔ Reach l b id :=
 zfQ (by rw [zbu, zeW hr]; rfl) hb _ d id h h.len
def hasId (l : List Bx) (id : Int) : Bool := l.any fun b => decide (b.id = id)
theorem zar (l : List Bx) (id : Int) : hasId l id = true ↔ ∃ b ∈ l, b.id = id := by unfold hasId; simp
def takenL (l : List Bx) (up : Int) (name : List UInt8) (but : Int) : Bool := l.any fun b => decide (b.up = up ∧ b.id ≠ but ∧ foldL b.name = foldL name)
theorem zcH (l : List Bx) (up : Int) (name : List UInt8) (but : Int) : takenL l up name but = false ↔ ∀ b ∈ l, b.up = up → b.id ≠ but → foldL b.name ≠ foldL name := by
 unfold takenL
 rw [List.any_eq_false]
 constructor
 ·intro h b hb h1 h2 h3; exact h b hb (by simp [h1, h2, h3])
 ·intro h b hb e
  simp only [decide_eq_true_eq] at e
  exact h b hb e.1 e.2.1 e.2.2
def belowL (l : List Bx) (id : Int) : Nat := l.foldl (fun m b => if within l b.id id then max m (dpt l b.id - dpt l id + 1) else m) 0
def idxL (l : List Bx) (id : Int) : Nat := (l.takeWhile fun b => decide (b.id < id)).length
def insL (l : List Bx) (b : Bx) : List Bx := l.take (idxL l b.id) ++ b :: l.drop (idxL l b.id)
def setName (l : List Bx) (id : Int) (nm : List UInt8) : List Bx := l.map fun b => if b.id = id then { b with name := nm } else b
def setUp (l : List Bx) (id up : Int) : List Bx := l.map fun b => if b.id = id then { b with up := up } else b
def delL (l : List Bx) (id : Int) : List Bx := l.filter fun b => decide (b.id ≠ id)
def addL (l : List Bx) (up : Int) (name role : List UInt8) (id : Int) : List Bx × Nat :=
 if ¬ (rightL l = true ∧ namedB name = true ∧ role ∈ rolesL) then ([], 1)
 else if id < 1 ∨ 1099511627776 < id then ([], 6)
 else if hasId l id = true ∨ role ≠ [] ∧ (l.any fun b => decide (b.role = role)) = true then ([], 4)
 else if 64 ≤ l.length then ([], 3)
 else if ¬ (up = 0 ∨ hasId l up = true) then ([], 5)
 else if 8 ≤ dpt l up then ([], 10)
 else if takenL l up name 0 = true then ([], 4)
 else (insL l ⟨id, up, name, role⟩, 0)
def nameL (l : List Bx) (id : Int) (name : List UInt8) : List Bx × Nat :=
 if ¬ rightL l = true then ([], 1)
 else match boxOf l id with
  | none => ([], 5)
  | some b => if ¬ namedB name = true then ([], 1)
   else if takenL l b.up name id = true then ([], 4)
   else (setName l id name, 0)
def moveL (l : List Bx) (id up : Int) : List Bx × Nat :=
 if ¬ rightL l = true then ([], 1)
 else match boxOf l id with
  | none => ([], 5)
  | some b => if ¬ (up = 0 ∨ hasId l up = true) then ([], 5)
   else if up ≠ 0 ∧ within l up id = true then ([], 11)
   else if 8 < dpt l up + belowL l id then ([], 10)
   else if takenL l up b.name id = true then ([], 4)
   else (setUp l id up, 0)
def dropL (l : List Bx) (id : Int) : List Bx × Nat :=
 if ¬ rightL l = true then ([], 1)
 else if ¬ hasId l id = true then ([], 5)
 else if (l.any fun b => decide (b.up = id)) = true then ([], 20)
 else (delL l id, 0)
theorem zht {l : List Bx} (h : l.Pairwise fun a b => a.id < b.id) (id : Int) : (∀ b ∈ l.take (idxL l id), b.id < id) ∧ (∀ b ∈ l.drop (idxL l id), id ≤ b.id) := by
 unfold idxL
 induction l with
 | nil => simp
 | cons a l ih =>
  obtain ⟨h1, h2⟩ := List.pairwise_cons.1 h
  by_cases ha : a.id < id
  ·rw [List.takeWhile_cons_of_pos (by simpa using ha), List.length_cons, List.take_succ_cons, List.drop_succ_cons]
   refine ⟨fun b hb => ?_, (ih h2).2⟩
   rcases List.mem_cons.1 hb with rfl | hb
   ·exact ha
   ·exact (ih h2).1 b hb
  ·rw [List.takeWhile_cons_of_neg (by simpa using ha)]
   refine ⟨by simp, fun b hb => ?_⟩
   rcases List.mem_cons.1 hb with rfl | hb
   ·omega
   ·have := h1 b hb; omega
theorem mem_ins {l : List Bx} {b c : Bx} : c ∈ insL l b ↔ c = b ∨ c ∈ l := by
 unfold insL
 conv => rhs; rw [← List.take_append_drop (idxL l b.id) l]
 simp only [List.mem_append, List.mem_cons]
 constructor
 ·rintro (h | h | h)
  ·exact .inr (.inl h)
  ·exact .inl h
  ·exact .inr (.inr h)
 ·rintro (h | h | h)
  ·exact .inr (.inl h)
  ·exact .inl h
  ·exact .inr (.inr h)
theorem zpd (l : List Bx) (b : Bx) : (insL l b).length = l.length + 1 := by
 unfold insL
 rw [List.length_append, List.length_cons, List.length_take, List.length_drop]
 have : idxL l b.id ≤ l.length := (List.takeWhile_prefix _).length_le
 omega
theorem zmd {l : List Bx} (h : l.Pairwise fun a b => a.id < b.id) {b : Bx} (hb : ∀ c ∈ l, c.id ≠ b.id) : (insL l b).Pairwise fun a b => a.id < b.id := by
 obtain ⟨h1, h2⟩ := zht h b.id
 have h' := h
 rw [← List.take_append_drop (idxL l b.id) l, List.pairwise_append] at h'
 obtain ⟨p1, p2, p3⟩ := h'
 unfold insL
 rw [List.pairwise_append]
 refine ⟨p1, List.pairwise_cons.2 ⟨fun c hc => ?_, p2⟩, fun a ha c hc => ?_⟩
 ·have := h2 c hc
  have := hb c (List.mem_of_mem_drop hc)
  omega
 ·rcases List.mem_cons.1 hc with rfl | hc
  ·exact h1 a ha
  ·exact p3 a ha c hc
theorem zjl {l : List Bx} {b : Bx} {R : Bx → Bx → Prop} (h : l.Pairwise R) (h1 : ∀ c ∈ l, R c b) (h2 : ∀ c ∈ l, R b c) : (insL l b).Pairwise R := by
 rw [← List.take_append_drop (idxL l b.id) l, List.pairwise_append] at h
 obtain ⟨p1, p2, p3⟩ := h
 unfold insL
 rw [List.pairwise_append]
 refine ⟨p1, List.pairwise_cons.2 ⟨fun c hc => h2 c (List.mem_of_mem_drop hc), p2⟩, fun a ha c hc => ?_⟩
 rcases List.mem_cons.1 hc with rfl | hc
 ·exact h1 a (List.mem_of_mem_take ha)
 ·exact p3 a ha c hc
theorem Dep.congr {l l' : List Bx} (S : Int → Prop) (hS : ∀ id u, S id → upOf l id = some u → upOf l' id = some u ∧ S u) : ∀ (d : Nat) (id : Int), S id → Dep l d id → Dep l' d id
 | 0, id, _, h => h
 | d + 1, id, hs, ⟨h0, u, hu, h⟩ => ⟨h0, u, (hS id u hs hu).1, Dep.congr S hS d u (hS id u hs hu).2 h⟩
theorem zdd {l : List Bx} (h : l.Pairwise fun a b => a.id < b.id) {id u : Int} : upOf l id = some u ↔ ∃ b ∈ l, b.id = id ∧ b.up = u := by
 constructor
 ·exact zbG
 ·rintro ⟨b, hb, rfl, rfl⟩; exact ziq h hb
end Go.Cs
