/- Helper text of this claim: Ct0, Ct1, Bx0, Bx1, Bx2, Ct2, Ct3, Ct4, Ct5, Ct6, Ct8, Ct9, Ct10, Sn0: lemmas and contracts that the proved statement rests on; no conditions of its own. -/
import Derived.Test.YtohhkegmbgancaaGreatDoorGVrk
import Derived.Lib.Small
namespace Go.Cs
open Go.Lib
set_option linter.unusedVariables false
/-! ### Classes, lower case, words: plain -/
/-- The class of a code point. -/
def kindN (r : Nat) : Nat :=
  if 1114111 < r then 0
  else if r < 192 then (if 48 ≤ r ∧ r ≤ 57 then 1 else if 65 ≤ r ∧ r ≤ 90 then 1 else if 97 ≤ r ∧ r ≤ 122 then 1 else 0)
  else if r = 215 then 0 else if r = 247 then 0 else if 8192 ≤ r ∧ r ≤ 11263 then 0 else if 11904 ≤ r ∧ r ≤ 12255 then 2 else if 12288 ≤ r ∧ r ≤ 12351 then 0
  else if 12353 ≤ r ∧ r ≤ 12543 then 2 else if 12549 ≤ r ∧ r ≤ 12591 then 2 else if 12593 ≤ r ∧ r ≤ 12686 then 2 else if 13312 ≤ r ∧ r ≤ 19903 then 2 else if 19968 ≤ r ∧ r ≤ 40959 then 2
  else if 44032 ≤ r ∧ r ≤ 55203 then 2 else if 55296 ≤ r ∧ r ≤ 63743 then 0 else if 63744 ≤ r ∧ r ≤ 64255 then 2 else if 65024 ≤ r ∧ r ≤ 65039 then 0 else if 65072 ≤ r ∧ r ≤ 65135 then 0
  else if 65280 ≤ r ∧ r ≤ 65295 then 0 else if 65520 ≤ r ∧ r ≤ 65535 then 0 else if 126976 ≤ r ∧ r ≤ 129791 then 0 else if 131072 ≤ r ∧ r ≤ 262143 then 2 else 1
/-- The lower case of a code point. -/
def lowC (r : Nat) : Nat :=
  if 65 ≤ r ∧ r ≤ 90 then r + 32 else if 192 ≤ r ∧ r ≤ 214 then r + 32 else if 216 ≤ r ∧ r ≤ 222 then r + 32
  else if 256 ≤ r ∧ r ≤ 303 then (if r % 2 = 0 then r + 1 else r) else if 306 ≤ r ∧ r ≤ 311 then (if r % 2 = 0 then r + 1 else r)
  else if 313 ≤ r ∧ r ≤ 328 then (if r % 2 = 1 then r + 1 else r) else if 330 ≤ r ∧ r ≤ 375 then (if r % 2 = 0 then r + 1 else r)
  else if r = 376 then 255 else if 377 ≤ r ∧ r ≤ 382 then (if r % 2 = 1 then r + 1 else r)
  else if r = 902 then 940 else if 904 ≤ r ∧ r ≤ 906 then r + 37 else if r = 908 then 972 else if 910 ≤ r ∧ r ≤ 911 then r + 63
  else if 913 ≤ r ∧ r ≤ 929 then r + 32 else if 931 ≤ r ∧ r ≤ 939 then r + 32 else if 1024 ≤ r ∧ r ≤ 1039 then r + 80 else if 1040 ≤ r ∧ r ≤ 1071 then r + 32 else r
theorem low_big (r : Nat) (h : 1072 ≤ r) : lowC r = r := by
  unfold lowC
  rw [if_neg (by omega), if_neg (by omega), if_neg (by omega), if_neg (by omega), if_neg (by omega), if_neg (by omega), if_neg (by omega), if_neg (by omega), if_neg (by omega), if_neg (by omega), if_neg (by omega), if_neg (by omega), if_neg (by omega), if_neg (by omega), if_neg (by omega), if_neg (by omega), if_neg (by omega)]
set_option maxRecDepth 100000 in
theorem low_small : ∀ r : Fin 1104, kindN (lowC r.val) = kindN r.val ∧ lowC (lowC r.val) = lowC r.val ∧ (enc (lowC r.val)).length = (enc r.val).length ∧ lowC r.val ≤ 1119 := by decide +kernel
theorem low_len (r : Nat) : (enc (lowC r)).length = (enc r).length := by
  by_cases h : r < 1104
  · exact (low_small ⟨r, h⟩).2.2.1
  · rw [low_big r (by omega)]
theorem low_le (r : Nat) (h : r ≤ 1114111) : lowC r ≤ 1114111 := by
  by_cases h' : r < 1104
  · have := (low_small ⟨r, h'⟩).2.2.2
    simp only at this; omega
  · rw [low_big r (by omega)]; exact h
/-- A text in lower case. -/
def foldF : Nat → List UInt8 → List UInt8
  | 0, _ => []
  | _ + 1, [] => []
  | n + 1, b :: t => (if (decodeL (b :: t)).1 = 65533 ∧ (decodeL (b :: t)).2 = 1 then [b] else enc (lowC (decodeL (b :: t)).1)) ++ foldF n ((b :: t).drop (decodeL (b :: t)).2)
def foldL (l : List UInt8) : List UInt8 := foldF l.length l
theorem foldF_fuel : ∀ (n m : Nat) (l : List UInt8), l.length ≤ n → l.length ≤ m → foldF n l = foldF m l
  | 0, m, l, hn, _ => by
    have : l = [] := List.eq_nil_of_length_eq_zero (by omega)
    subst this
    cases m <;> rfl
  | n + 1, 0, l, _, hm => by
    have : l = [] := List.eq_nil_of_length_eq_zero (by omega)
    subst this; rfl
  | n + 1, m + 1, [], _, _ => rfl
  | n + 1, m + 1, b :: t, hn, hm => by
    have hw := decodeL_width (b :: t)
    simp only [foldF]
    rw [foldF_fuel n m _ (by rw [List.length_drop]; omega) (by rw [List.length_drop]; omega)]
/-- What the first step of a text becomes. -/
def head1 (l : List UInt8) : List UInt8 := if (decodeL l).1 = 65533 ∧ (decodeL l).2 = 1 then [l.getD 0 0] else enc (lowC (decodeL l).1)
theorem foldL_nil : foldL [] = [] := rfl
theorem foldL_step (l : List UInt8) (hne : l ≠ []) : foldL l = head1 l ++ foldL (l.drop (decodeL l).2) := by
  obtain ⟨b, t, rfl⟩ := List.exists_cons_of_ne_nil hne
  have hw := decodeL_width (b :: t)
  show (if (decodeL (b :: t)).1 = 65533 ∧ (decodeL (b :: t)).2 = 1 then [b] else enc (lowC (decodeL (b :: t)).1)) ++ foldF t.length _ = _
  rw [foldF_fuel t.length ((b :: t).drop (decodeL (b :: t)).2).length _ (by rw [List.length_drop, List.length_cons]; omega) (Nat.le_refl _)]
  rfl
def cutL (l : List UInt8) (p : Nat × Nat) : List UInt8 := (l.take p.2).drop p.1
end Go.Cs

namespace Go.Cs
open Go.Lib
set_option linter.unusedVariables false
/-! ### Folding keeps the steps -/
def cont (b : UInt8) : Prop := b.toNat / 64 = 2
theorem enc_shape (c : Nat) (h : scal c) : ∃ b t, enc c = b :: t ∧ ¬ cont b ∧ ∀ x ∈ t, cont x := by
  unfold scal at h
  unfold enc encodeRune cont
  by_cases h1 : c < 128
  · rw [encodeRuneZ_one (by omega) (by omega)]
    exact ⟨_, _, rfl, by rw [u8n _ (by omega)]; omega, by simp⟩
  by_cases h2 : c ≤ 2047
  · rw [encodeRuneZ_two (by omega) (by omega)]
    refine ⟨_, _, rfl, by rw [u8n _ (by omega)]; omega, fun x hx => ?_⟩
    simp only [List.map_cons, List.map_nil, List.mem_cons, List.not_mem_nil, or_false] at hx
    subst hx; rw [u8n _ (by omega)]; omega
  by_cases h3 : c ≤ 65535
  · rw [encodeRuneZ_three (by omega)]
    refine ⟨_, _, rfl, by rw [u8n _ (by omega)]; omega, fun x hx => ?_⟩
    simp only [List.map_cons, List.map_nil, List.mem_cons, List.not_mem_nil, or_false] at hx
    rcases hx with rfl | rfl <;> (rw [u8n _ (by omega)]; omega)
  · rw [encodeRuneZ_four (by omega) (by omega)]
    refine ⟨_, _, rfl, by rw [u8n _ (by omega)]; omega, fun x hx => ?_⟩
    simp only [List.map_cons, List.map_nil, List.mem_cons, List.not_mem_nil, or_false] at hx
    rcases hx with rfl | rfl | rfl <;> (rw [u8n _ (by omega)]; omega)
/-- A whole step is told by its bytes alone. -/
theorem whole_of (l : List UInt8) (c : Nat) (h : scal c) (e : l.take (enc c).length = enc c) : decodeL l = (c, (enc c).length) := by
  have h2 := List.take_append_drop (enc c).length l
  rw [e] at h2
  have := dec_enc c h (l.drop (enc c).length)
  rw [h2] at this
  exact this
theorem bad_or (l : List UInt8) (hne : l ≠ []) : decodeL l = (65533, 1) ∨ ∃ c, scal c ∧ decodeL l = (c, (enc c).length) ∧ l.take (enc c).length = enc c := by
  rcases dec_whole l hne with h | ⟨h1, h2, h3, _⟩
  · exact .inl h
  · exact .inr ⟨_, h1, Prod.ext rfl h3, by rw [← h3]; exact h2⟩
theorem bad_ne (c : Nat) : (65533, 1) ≠ (c, (enc c).length) := by
  intro h
  injection h with h1 h2
  rw [← h1] at h2
  have := enc_bad_len
  omega
/-- A cut behind a step does not turn it. -/
theorem dec_take (l : List UInt8) (n : Nat) (hne : l ≠ []) (hn : (decodeL l).2 ≤ n) : decodeL (l.take n) = decodeL l := by
  have hw := decodeL_width l
  have hl : 0 < l.length := List.length_pos_iff.2 hne
  have hne' : l.take n ≠ [] := by
    intro h
    have := congrArg List.length h
    rw [List.length_take, List.length_nil] at this
    omega
  rcases bad_or l hne with h | ⟨c, hs, hd, ht⟩
  · rcases bad_or (l.take n) hne' with h' | ⟨c, hs, hd, ht⟩
    · rw [h, h']
    · exfalso
      have hle := decodeL_le _ hne'
      rw [hd, List.length_take] at hle
      simp only at hle
      rw [List.take_take, Nat.min_eq_left (by omega)] at ht
      have := whole_of l c hs ht
      rw [h] at this
      exact bad_ne c this
  · rw [hd] at hn ⊢
    simp only at hn
    exact whole_of _ c hs (by rw [List.take_take, Nat.min_eq_left hn]; exact ht)
theorem head1_shape (l : List UInt8) (hne : l ≠ []) : (decodeL l = (65533, 1) ∧ ∃ b t, l = b :: t ∧ head1 l = [b]) ∨ ∃ c, scal c ∧ decodeL l = (c, (enc c).length) ∧ head1 l = enc (lowC c) ∧ ∃ b t, l = b :: t ∧ ¬ cont b := by
  obtain ⟨b, t, rfl⟩ := List.exists_cons_of_ne_nil hne
  rcases bad_or (b :: t) hne with h | ⟨c, hs, hd, ht⟩
  · exact .inl ⟨h, b, t, rfl, by unfold head1; rw [h]; rfl⟩
  · refine .inr ⟨c, hs, hd, ?_, b, t, rfl, ?_⟩
    · unfold head1
      rw [hd, if_neg]
      rintro ⟨h1, h2⟩
      simp only at h1 h2
      subst h1
      rw [enc_bad_len] at h2; omega
    · obtain ⟨x, y, e1, e2, _⟩ := enc_shape c hs
      rw [e1] at ht
      simp only [List.length_cons, List.take_succ_cons, List.cons.injEq] at ht
      rw [ht.1]; exact e2
theorem head1_len (l : List UInt8) (hne : l ≠ []) : (head1 l).length = (decodeL l).2 := by
  rcases head1_shape l hne with ⟨h, b, t, _, e⟩ | ⟨c, hs, hd, e, _⟩
  · rw [h, e]; rfl
  · rw [hd, e, low_len]
/-- A place between two steps. -/
inductive Bd : List UInt8 → Nat → Prop
  | zero (l : List UInt8) : Bd l 0
  | step (l : List UInt8) (n : Nat) : l ≠ [] → Bd (l.drop (decodeL l).2) n → Bd l ((decodeL l).2 + n)
theorem Bd.le {l : List UInt8} {n : Nat} (h : Bd l n) : n ≤ l.length := by
  induction h with
  | zero l => omega
  | step l n hne _ ih =>
    have := decodeL_le l hne
    rw [List.length_drop] at ih; omega
end Go.Cs

namespace Go.Cs
open Go.Lib
set_option linter.unusedVariables false
/-! ### Mailboxes, plain -/
structure Bx where
  id : Int
  up : Int
  name : List UInt8
  role : List UInt8
deriving DecidableEq
def rolesL : List (List UInt8) := [[], [105, 110, 98, 111, 120], [100, 114, 97, 102, 116, 115], [115, 101, 110, 116], [116, 114, 97, 115, 104], [106, 117, 110, 107], [97, 114, 99, 104, 105, 118, 101]]
def fineB (b : UInt8) : Bool := !(decide (b.toNat < 32) || decide (b.toNat = 127) || decide (b.toNat = 47))
def namedB (s : List UInt8) : Bool := decide (1 ≤ s.length) && decide (s.length ≤ 100) && validD s && s.all fineB
def okStep (pre : List Bx) (last : Int) (b : Bx) : Bool :=
  decide (last < b.id) && decide (b.id ≤ 1099511627776) && namedB b.name && decide (b.role ∈ rolesL) &&
    !(pre.any fun c => decide (c.up = b.up ∧ foldL c.name = foldL b.name)) && !(decide (b.role ≠ []) && pre.any fun c => decide (c.role = b.role))
def okAll : List Bx → List Bx → Int → Bool
  | pre, [], last => true
  | pre, b :: r, last => okStep pre last b && okAll (pre ++ [b]) r b.id
def upOf (l : List Bx) (id : Int) : Option Int := (l.find? fun b => decide (b.id = id)).map (·.up)
/-- How many steps lead to the root, within n. -/
def dep (l : List Bx) : Nat → Int → Option Nat
  | 0, id => if id = 0 then some 0 else none
  | n + 1, id => if id = 0 then some 0 else match upOf l id with
    | none => none
    | some u => (dep l n u).map (· + 1)
def deepB (l : List Bx) (b : Bx) : Bool := match dep l l.length b.id with | some d => decide (d ≤ 8) | none => false
def rightL (l : List Bx) : Bool := decide (l.length ≤ 64) && okAll [] l 0 && l.all (deepB l)
structure RightP (l : List Bx) : Prop where
  len : l.length ≤ 64
  pos : ∀ b ∈ l, 1 ≤ b.id ∧ b.id ≤ 1099511627776
  asc : l.Pairwise fun a b => a.id < b.id
  named : ∀ b ∈ l, namedB b.name = true
  roles : ∀ b ∈ l, b.role ∈ rolesL
  uniq : l.Pairwise fun a b => ¬ (a.up = b.up ∧ foldL a.name = foldL b.name)
  urole : l.Pairwise fun a b => ¬ (b.role ≠ [] ∧ a.role = b.role)
  deep : ∀ b ∈ l, ∃ d, dep l l.length b.id = some d ∧ d ≤ 8
structure StepP (pre : List Bx) (last : Int) (b : Bx) : Prop where
  asc : last < b.id
  max : b.id ≤ 1099511627776
  named : namedB b.name = true
  role : b.role ∈ rolesL
  uniq : ∀ c ∈ pre, ¬ (c.up = b.up ∧ foldL c.name = foldL b.name)
  urole : ∀ c ∈ pre, ¬ (b.role ≠ [] ∧ c.role = b.role)
theorem okStep_iff (pre : List Bx) (last : Int) (b : Bx) : okStep pre last b = true ↔ StepP pre last b := by
  unfold okStep
  simp only [Bool.and_eq_true, decide_eq_true_eq, Bool.not_eq_true', List.any_eq_false, Bool.and_eq_false_iff, decide_eq_false_iff_not]
  constructor
  · rintro ⟨⟨⟨⟨⟨h1, h2⟩, h3⟩, h4⟩, h5⟩, h6⟩
    refine ⟨h1, h2, h3, h4, fun c hc h => h5 c hc (by simpa using h), fun c hc h => ?_⟩
    rcases h6 with h6 | h6
    · exact h6 h.1
    · exact h6 c hc h.2
  · rintro ⟨h1, h2, h3, h4, h5, h6⟩
    refine ⟨⟨⟨⟨⟨h1, h2⟩, h3⟩, h4⟩, fun c hc h => h5 c hc (by simpa using h)⟩, ?_⟩
    by_cases h : b.role = []
    · exact .inl fun e => e h
    · exact .inr fun c hc e => h6 c hc ⟨h, e⟩
/-- What holds of the boxes before, and of each after them. -/
structure AllP (pre r : List Bx) (last : Int) : Prop where
  lo : ∀ b ∈ r, last < b.id
  max : ∀ b ∈ r, b.id ≤ 1099511627776
  asc : r.Pairwise fun a b => a.id < b.id
  named : ∀ b ∈ r, namedB b.name = true
  role : ∀ b ∈ r, b.role ∈ rolesL
  uniq0 : ∀ c ∈ pre, ∀ b ∈ r, ¬ (c.up = b.up ∧ foldL c.name = foldL b.name)
  uniq : r.Pairwise fun a b => ¬ (a.up = b.up ∧ foldL a.name = foldL b.name)
  urole0 : ∀ c ∈ pre, ∀ b ∈ r, ¬ (b.role ≠ [] ∧ c.role = b.role)
  urole : r.Pairwise fun a b => ¬ (b.role ≠ [] ∧ a.role = b.role)
theorem okAll_iff : ∀ (r pre : List Bx) (last : Int), okAll pre r last = true ↔ AllP pre r last
  | [], pre, last => ⟨fun _ => ⟨by simp, by simp, .nil, by simp, by simp, by simp, .nil, by simp, .nil⟩, fun _ => rfl⟩
  | b :: r, pre, last => by
    rw [okAll, Bool.and_eq_true, okStep_iff, okAll_iff r]
    constructor
    · rintro ⟨h, k⟩
      refine ⟨fun c hc => ?_, fun c hc => ?_, List.pairwise_cons.2 ⟨k.lo, k.asc⟩, fun c hc => ?_, fun c hc => ?_, fun c hc d hd => ?_, List.pairwise_cons.2 ⟨fun d hd => k.uniq0 b (by simp) d hd, k.uniq⟩, fun c hc d hd => ?_, List.pairwise_cons.2 ⟨fun d hd => k.urole0 b (by simp) d hd, k.urole⟩⟩
      · rcases List.mem_cons.1 hc with rfl | hc
        · exact h.asc
        · have := k.lo c hc; have := h.asc; omega
      · rcases List.mem_cons.1 hc with rfl | hc
        · exact h.max
        · exact k.max c hc
      · rcases List.mem_cons.1 hc with rfl | hc
        · exact h.named
        · exact k.named c hc
      · rcases List.mem_cons.1 hc with rfl | hc
        · exact h.role
        · exact k.role c hc
      · rcases List.mem_cons.1 hd with rfl | hd
        · exact h.uniq c hc
        · exact k.uniq0 c (by simp [hc]) d hd
      · rcases List.mem_cons.1 hd with rfl | hd
        · exact h.urole c hc
        · exact k.urole0 c (by simp [hc]) d hd
    · intro k
      obtain ⟨a1, a2⟩ := List.pairwise_cons.1 k.asc
      obtain ⟨u1, u2⟩ := List.pairwise_cons.1 k.uniq
      obtain ⟨v1, v2⟩ := List.pairwise_cons.1 k.urole
      have mp : ∀ {p : Bx → Prop} (hp : ∀ c ∈ pre, p c) (hb : p b), ∀ c ∈ pre ++ [b], p c := fun hp hb c hc => by
        rcases List.mem_append.1 hc with hc | hc
        · exact hp c hc
        · rw [List.mem_singleton.1 hc]; exact hb
      exact ⟨⟨k.lo b (by simp), k.max b (by simp), k.named b (by simp), k.role b (by simp), fun c hc => k.uniq0 c hc b (by simp), fun c hc => k.urole0 c hc b (by simp)⟩,
        ⟨a1, fun c hc => k.max c (by simp [hc]), a2, fun c hc => k.named c (by simp [hc]), fun c hc => k.role c (by simp [hc]),
          mp (fun c hc d hd => k.uniq0 c hc d (by simp [hd])) (fun d hd => u1 d hd), u2, mp (fun c hc d hd => k.urole0 c hc d (by simp [hd])) (fun d hd => v1 d hd), v2⟩⟩
theorem deepB_iff (l : List Bx) (b : Bx) : deepB l b = true ↔ ∃ d, dep l l.length b.id = some d ∧ d ≤ 8 := by
  unfold deepB
  cases dep l l.length b.id with
  | none => simp
  | some d => simp
theorem rightL_iff (l : List Bx) : rightL l = true ↔ RightP l := by
  unfold rightL
  rw [Bool.and_eq_true, Bool.and_eq_true, decide_eq_true_eq, okAll_iff, List.all_eq_true]
  constructor
  · rintro ⟨⟨h1, h2⟩, h3⟩
    exact ⟨h1, fun b hb => ⟨by have := h2.lo b hb; omega, h2.max b hb⟩, h2.asc, h2.named, h2.role, h2.uniq, h2.urole, fun b hb => (deepB_iff l b).1 (h3 b hb)⟩
  · intro h
    exact ⟨⟨h.len, fun b hb => by have := (h.pos b hb).1; omega, fun b hb => (h.pos b hb).2, h.asc, h.named, h.roles, by simp, h.uniq, by simp, h.urole⟩, fun b hb => (deepB_iff l b).2 (h.deep b hb)⟩
/-! ### Looking up -/
theorem upOf_mem {l : List Bx} {id u : Int} (h : upOf l id = some u) : ∃ b ∈ l, b.id = id ∧ b.up = u := by
  unfold upOf at h
  cases hf : l.find? fun b => decide (b.id = id) with
  | none => rw [hf] at h; cases h
  | some b =>
    rw [hf] at h
    have h1 := List.find?_some hf
    exact ⟨b, List.mem_of_find?_eq_some hf, by simpa using h1, by simpa using h⟩
theorem upOf_none {l : List Bx} {id : Int} : upOf l id = none ↔ ∀ b ∈ l, b.id ≠ id := by
  unfold upOf
  rw [Option.map_eq_none_iff, List.find?_eq_none]
  simp
theorem upOf_of {l : List Bx} (h : l.Pairwise fun a b => a.id < b.id) {b : Bx} (hb : b ∈ l) : upOf l b.id = some b.up := by
  cases hu : upOf l b.id with
  | none => exact absurd rfl (upOf_none.1 hu b hb)
  | some u =>
    obtain ⟨c, hc, h1, h2⟩ := upOf_mem hu
    have : c = b := by
      obtain ⟨i, hi, rfl⟩ := List.getElem_of_mem hc
      obtain ⟨j, hj, rfl⟩ := List.getElem_of_mem hb
      rw [List.pairwise_iff_getElem] at h
      rcases Nat.lt_trichotomy i j with hij | hij | hij
      · have := h i j hi hj hij; omega
      · subst hij; rfl
      · have := h j i hj hi hij; omega
    rw [← h2, this]
theorem id_inj {l : List Bx} (h : l.Pairwise fun a b => a.id < b.id) {a b : Bx} (ha : a ∈ l) (hb : b ∈ l) (he : a.id = b.id) : a = b := by
  obtain ⟨i, hi, rfl⟩ := List.getElem_of_mem ha
  obtain ⟨j, hj, rfl⟩ := List.getElem_of_mem hb
  rw [List.pairwise_iff_getElem] at h
  rcases Nat.lt_trichotomy i j with hij | hij | hij
  · have := h i j hi hj hij; omega
  · subst hij; rfl
  · have := h j i hj hi hij; omega
theorem dep_le (l : List Bx) : ∀ (n : Nat) (id : Int) (d : Nat), dep l n id = some d → d ≤ n
  | 0, id, d, h => by
    unfold dep at h
    split at h
    · cases h; omega
    · cases h
  | n + 1, id, d, h => by
    unfold dep at h
    split at h
    · cases h; omega
    · cases hu : upOf l id with
      | none => rw [hu] at h; cases h
      | some u =>
        rw [hu] at h
        dsimp only at h
        cases hd : dep l n u with
        | none => rw [hd] at h; cases h
        | some e =>
          rw [hd] at h
          have := dep_le l n u e hd
          simp at h; omega
/-- A depth that is found at all is found within that many steps. -/
theorem dep_least (l : List Bx) : ∀ (n : Nat) (id : Int) (d : Nat), dep l n id = some d → dep l d id = some d
  | 0, id, d, h => by
    have := dep_le l 0 id d h
    obtain rfl : d = 0 := by omega
    exact h
  | n + 1, id, d, h => by
    have h' := h
    unfold dep at h
    split at h
    · rename_i h0; cases h; simp [dep, h0]
    · rename_i h0
      cases hu : upOf l id with
      | none => rw [hu] at h; cases h
      | some u =>
        rw [hu] at h
        dsimp only at h
        cases hd : dep l n u with
        | none => rw [hd] at h; cases h
        | some e =>
          rw [hd] at h
          simp at h
          subst h
          rw [dep, if_neg h0, hu]
          dsimp only
          rw [dep_least l n u e hd]; rfl
end Go.Cs

namespace Go.Cs
open Go.Lib
set_option linter.unusedVariables false
set_option linter.unusedSectionVars false
/-! ### Joining and splitting at '/' -/
def joinS : List (List UInt8) → List UInt8
  | [] => []
  | [x] => x
  | x :: y :: r => x ++ 47 :: joinS (y :: r)
theorem join_snoc : ∀ (l : List (List UInt8)) (x : List UInt8), l ≠ [] → joinS (l ++ [x]) = joinS l ++ 47 :: x
  | [], x, h => absurd rfl h
  | [y], x, _ => rfl
  | y :: z :: r, x, _ => by
    have := join_snoc (z :: r) x (by simp)
    rw [List.cons_append, List.cons_append, joinS, ← List.cons_append, this, joinS, List.append_assoc]; rfl
theorem join_ne : ∀ (l : List (List UInt8)), l ≠ [] → (∀ x ∈ l, x ≠ []) → joinS l ≠ []
  | [], h, _ => absurd rfl h
  | [x], _, h => h x (by simp)
  | x :: y :: r, _, h => by simp [joinS]
/-! ### Names -/
theorem named_iff (s : List UInt8) : namedB s = true ↔ 1 ≤ s.length ∧ s.length ≤ 100 ∧ validD s = true ∧ ∀ b ∈ s, fineB b = true := by
  unfold namedB
  simp only [Bool.and_eq_true, decide_eq_true_eq, List.all_eq_true, and_assoc]
theorem named_ne {s : List UInt8} (h : namedB s = true) : s ≠ [] := fun e => by
  have := ((named_iff s).1 h).1
  rw [e] at this; simp at this
/-! ### Chains to the root -/
/-- The boxes from one up to the root's child. -/
def boxOf (l : List Bx) (id : Int) : Option Bx := l.find? fun b => decide (b.id = id)
theorem boxOf_up (l : List Bx) (id : Int) : upOf l id = (boxOf l id).map (·.up) := rfl
theorem boxOf_mem {l : List Bx} {id : Int} {b : Bx} (h : boxOf l id = some b) : b ∈ l ∧ b.id = id :=
  ⟨List.mem_of_find?_eq_some h, by simpa using List.find?_some h⟩
theorem boxOf_none {l : List Bx} {id : Int} : boxOf l id = none ↔ ∀ b ∈ l, b.id ≠ id := by
  unfold boxOf
  rw [List.find?_eq_none]
  simp
theorem boxOf_of {l : List Bx} (h : l.Pairwise fun a b => a.id < b.id) {b : Bx} (hb : b ∈ l) : boxOf l b.id = some b := by
  cases hu : boxOf l b.id with
  | none => exact absurd rfl (boxOf_none.1 hu b hb)
  | some c =>
    obtain ⟨h1, h2⟩ := boxOf_mem hu
    rw [id_inj h h1 hb h2]
/-- The path of a mailbox, and '' if there is none. -/
def fullN (l : List Bx) : Nat → Int → List UInt8
  | 0, _ => []
  | n + 1, id => match boxOf l id with
    | none => []
    | some b => if fullN l n b.up ≠ [] then fullN l n b.up ++ 47 :: b.name else b.name
def fullL (l : List Bx) (id : Int) : List UInt8 := if rightL l then fullN l l.length id else []
/-- A child by its folded name. -/
def kid (l : List Bx) (up : Int) (nm : List UInt8) : Option Int := (l.find? fun b => decide (b.up = up ∧ foldL b.name = nm)).map (·.id)
section
variable {l : List Bx} (hr : RightP l)
include hr
theorem zero_no : boxOf l 0 = none := boxOf_none.2 fun b hb => by have := (hr.pos b hb).1; omega
theorem up_cases {b : Bx} (hb : b ∈ l) : b.up = 0 ∨ ∃ c ∈ l, c.id = b.up := by
  obtain ⟨d, hd, _⟩ := hr.deep b hb
  have hb1 := (hr.pos b hb).1
  cases hn : l.length with
  | zero => rw [List.eq_nil_of_length_eq_zero hn] at hb; cases hb
  | succ n =>
    rw [hn, dep, if_neg (by omega), upOf_of hr.asc hb] at hd
    dsimp only at hd
    by_cases h0 : b.up = 0
    · exact .inl h0
    · right
      cases hn2 : dep l n b.up with
      | none => rw [hn2] at hd; cases hd
      | some e =>
        cases n with
        | zero => rw [dep, if_neg h0] at hn2; cases hn2
        | succ n =>
          rw [dep, if_neg h0] at hn2
          cases hu : upOf l b.up with
          | none => rw [hu] at hn2; cases hn2
          | some u =>
            obtain ⟨c, h1, h2, _⟩ := upOf_mem hu
            exact ⟨c, h1, h2⟩
/-- Depth: of the box, one more than of its parent. -/
theorem deep_box {b : Bx} (hb : b ∈ l) : ∃ d, d + 1 ≤ 8 ∧ d + 1 ≤ l.length ∧ dep l (d + 1) b.id = some (d + 1) ∧ dep l d b.up = some d := by
  obtain ⟨d, hd, h8⟩ := hr.deep b hb
  have hb1 := (hr.pos b hb).1
  have hle := dep_le _ _ _ _ hd
  have hd := dep_least _ _ _ _ hd
  cases d with
  | zero => rw [dep, if_neg (by omega)] at hd; cases hd
  | succ d =>
    refine ⟨d, h8, hle, hd, ?_⟩
    rw [dep, if_neg (by omega), upOf_of hr.asc hb] at hd
    dsimp only at hd
    cases hn2 : dep l d b.up with
    | none => rw [hn2] at hd; cases hd
    | some e => rw [hn2] at hd; simp at hd; rw [hd]
theorem dep_up0 {u : Int} {d : Nat} (h : dep l d u = some d) : (u = 0 ∧ d = 0) ∨ (u ≠ 0 ∧ ∃ b ∈ l, b.id = u ∧ ∃ e, d = e + 1 ∧ dep l e b.up = some e) := by
  cases d with
  | zero =>
    left
    unfold dep at h
    split at h
    · rename_i h0; exact ⟨h0, rfl⟩
    · cases h
  | succ d =>
    right
    by_cases h0 : u = 0
    · rw [dep, if_pos h0] at h; cases h
    · rw [dep, if_neg h0] at h
      cases hu : upOf l u with
      | none => rw [hu] at h; cases h
      | some v =>
        obtain ⟨c, h1, h2, h3⟩ := upOf_mem hu
        rw [hu] at h
        dsimp only at h
        refine ⟨h0, c, h1, h2, d, rfl, ?_⟩
        rw [h3]
        cases hn2 : dep l d v with
        | none => rw [hn2] at h; cases h
        | some e => rw [hn2] at h; simp at h; rw [h]
end
end Go.Cs

namespace Go.Cs
open Go.Lib
set_option linter.unusedVariables false
set_option linter.unusedSectionVars false
/-! ### Paths -/
def namesN (l : List Bx) : Nat → Int → List (List UInt8)
  | 0, _ => []
  | n + 1, id => match boxOf l id with
    | none => []
    | some b => namesN l n b.up ++ [b.name]
def names (l : List Bx) (id : Int) : List (List UInt8) := namesN l l.length id
theorem names_mem (l : List Bx) : ∀ (n : Nat) (id : Int), ∀ x ∈ namesN l n id, ∃ b ∈ l, b.name = x
  | 0, id, x, h => by simp [namesN] at h
  | n + 1, id, x, h => by
    unfold namesN at h
    cases hb : boxOf l id with
    | none => rw [hb] at h; simp at h
    | some b =>
      rw [hb] at h
      rcases List.mem_append.1 h with h | h
      · exact names_mem l n b.up x h
      · exact ⟨b, (boxOf_mem hb).1, (List.mem_singleton.1 h).symm⟩
section
variable {l : List Bx} (hr : RightP l)
include hr
theorem names_zero (n : Nat) : namesN l n 0 = [] := by
  cases n with
  | zero => rfl
  | succ n => rw [namesN, zero_no hr]
theorem full_join (n : Nat) : ∀ (id : Int), fullN l n id = joinS (namesN l n id) := by
  induction n with
  | zero => intro id; rfl
  | succ n ih =>
    intro id
    unfold fullN namesN
    cases hb : boxOf l id with
    | none => rfl
    | some b =>
      dsimp only
      rw [ih b.up]
      by_cases hn : namesN l n b.up = []
      · rw [hn]; simp [joinS]
      · rw [if_pos (join_ne _ hn fun x hx => by
          obtain ⟨c, hc, rfl⟩ := names_mem l n b.up x hx
          exact named_ne (hr.named c hc)), join_snoc _ _ hn]
theorem names_more : ∀ (d : Nat) (id : Int), dep l d id = some d → ∀ n, d ≤ n → namesN l n id = namesN l d id
  | 0, id, h, n, hn => by
    rcases dep_up0 hr h with ⟨rfl, _⟩ | ⟨_, _, _, _, e, he, _⟩
    · rw [names_zero hr, names_zero hr]
    · omega
  | d + 1, id, h, n, hn => by
    rcases dep_up0 hr h with ⟨_, h0⟩ | ⟨h0, b, hb, rfl, e, he, hd⟩
    · omega
    · obtain rfl : d = e := by omega
      obtain ⟨n, rfl⟩ : ∃ m, n = m + 1 := ⟨n - 1, by omega⟩
      rw [namesN, namesN, boxOf_of hr.asc hb]
      dsimp only
      rw [names_more d b.up hd n (by omega)]
theorem names_box {b : Bx} (hb : b ∈ l) : names l b.id = names l b.up ++ [b.name] := by
  obtain ⟨d, h1, h2, h3, h4⟩ := deep_box hr hb
  unfold names
  rw [names_more hr _ _ h3 _ h2, names_more hr _ _ h4 _ (by omega), namesN, boxOf_of hr.asc hb]
theorem full_names (id : Int) : fullN l l.length id = joinS (names l id) := full_join hr _ _
theorem names_all (id : Int) : ∀ x ∈ names l id, namedB x = true := fun x hx => by
  obtain ⟨c, hc, rfl⟩ := names_mem l _ id x hx
  exact hr.named c hc
theorem uniq_eq {a b : Bx} (ha : a ∈ l) (hb : b ∈ l) (hu : a.up = b.up) (hn : foldL a.name = foldL b.name) : a = b := by
  obtain ⟨i, hi, rfl⟩ := List.getElem_of_mem ha
  obtain ⟨j, hj, rfl⟩ := List.getElem_of_mem hb
  have h := hr.uniq
  rw [List.pairwise_iff_getElem] at h
  rcases Nat.lt_trichotomy i j with hij | hij | hij
  · exact absurd ⟨hu, hn⟩ (h i j hi hj hij)
  · subst hij; rfl
  · exact absurd ⟨hu.symm, hn.symm⟩ (h j i hj hi hij)
theorem names_ne {b : Bx} (hb : b ∈ l) : names l b.id ≠ [] := by rw [names_box hr hb]; simp
theorem full_ne {b : Bx} (hb : b ∈ l) : fullN l l.length b.id ≠ [] := by
  rw [full_names hr]
  exact join_ne _ (names_ne hr hb) fun x hx => named_ne (names_all hr _ x hx)
theorem full_none {id : Int} (h : ∀ b ∈ l, b.id ≠ id) : fullN l l.length id = [] := by
  cases l.length with
  | zero => rfl
  | succ n => rw [fullN, boxOf_none.2 h]
end
end Go.Cs

namespace Go.Cs
set_option linter.unusedVariables false
def foldT : List (Int × Int × Int × Int) := [(65, 90, 1, 32), (192, 214, 1, 32), (216, 222, 1, 32), (256, 303, 2, 1), (306, 311, 2, 1), (313, 328, 2, 1), (330, 375, 2, 1), (376, 376, 1, -121), (377, 382, 2, 1), (902, 902, 1, 38), (904, 906, 1, 37), (908, 908, 1, 64), (910, 911, 1, 63), (913, 929, 1, 32), (931, 939, 1, 32), (1024, 1039, 1, 80), (1040, 1071, 1, 32)]
def foldSp (i : Nat) : Int × Int × Int × Int := foldT.getD i (0, 0, 0, 0)
def cmp3 (a b : Int) : Int := if a < b then -1 else if b < a then 1 else 0
def cmpF (i : Nat) (r : Int) : Int := if (foldSp i).2.1 < r then -1 else if r < (foldSp i).1 then 1 else 0
theorem foldT_fact : ∀ i : Fin 17, (foldSp i.val).1 ≤ (foldSp i.val).2.1 ∧ 0 ≤ (foldSp i.val).1 ∧ (foldSp i.val).2.1 ≤ 1114111 ∧ 1 ≤ (foldSp i.val).2.2.1 ∧ (foldSp i.val).2.2.1 ≤ 2 ∧ -200 ≤ (foldSp i.val).2.2.2 ∧ (foldSp i.val).2.2.2 ≤ 200 := by decide
theorem foldT_up : ∀ i j : Fin 17, i.val < j.val → (foldSp i.val).2.1 < (foldSp j.val).1 := by decide
theorem cmpF_neg (i : Nat) (r : Int) : cmpF i r < 0 ↔ (foldSp i).2.1 < r := by
  unfold cmpF
  repeat' split
  all_goals omega
theorem cmpF_mono (i j : Nat) (h : i < j) (hj : j < 17) (r : Int) (hr : cmpF j r < 0) : cmpF i r < 0 := by
  rw [cmpF_neg] at *
  have h1 := foldT_fact ⟨j, hj⟩
  have h2 := foldT_up ⟨i, by omega⟩ ⟨j, hj⟩ h
  simp only at h1 h2
  omega
/-- Where the search ends. -/
def Pos (cmp : Nat → Int) (n k : Nat) : Prop := k ≤ n ∧ (∀ m, m < k → cmp m < 0) ∧ ∀ m, k ≤ m → m < n → 0 ≤ cmp m
end Go.Cs

namespace Go.Cs
set_option linter.unusedVariables false
/-! ### the lower case by its table -/
theorem cmpF_zero (k : Nat) (r : Int) (h : cmpF k r = 0) : (foldSp k).1 ≤ r ∧ r ≤ (foldSp k).2.1 := by
  unfold cmpF at h
  repeat' split at h
  all_goals omega
theorem cmpF_out (k : Nat) (r : Int) (hp : Pos (fun i => cmpF i r) 17 k) (hn : ¬ (k < 17 ∧ cmpF k r = 0)) (m : Nat) (hm : m < 17) : ¬ ((foldSp m).1 ≤ r ∧ r ≤ (foldSp m).2.1) := by
  obtain ⟨h1, h2, h3⟩ := hp
  intro hc
  have h0 : cmpF m r = 0 := by unfold cmpF; rw [if_neg (by omega), if_neg (by omega)]
  have hge : ¬ m < k := fun h => by have := h2 m h; dsimp only at this; omega
  by_cases e : m = k
  · exact hn ⟨by omega, by rw [← e]; exact h0⟩
  · have h4 := h3 k (Nat.le_refl _) (by omega)
    dsimp only at h4
    have h5 : ¬ cmpF k r < 0 := by omega
    rw [cmpF_neg] at h5
    have h6 := foldT_up ⟨k, by omega⟩ ⟨m, hm⟩ (by simp only; omega)
    simp only at h6
    omega
set_option maxHeartbeats 4000000 in
theorem low_found (k : Nat) (hk : k < 17) (r : Nat) (h : (foldSp k).1 ≤ (r : Int) ∧ (r : Int) ≤ (foldSp k).2.1) : ((lowC r : Nat) : Int) = if ((r : Int) - (foldSp k).1) % (foldSp k).2.2.1 = 0 then (r : Int) + (foldSp k).2.2.2 else r := by
  match k, hk with
  | 0, _ | 1, _ | 2, _ | 3, _ | 4, _ | 5, _ | 6, _ | 7, _ | 8, _ | 9, _ | 10, _ | 11, _ | 12, _ | 13, _ | 14, _ | 15, _ | 16, _ =>
    simp only [foldSp, foldT, List.getD_cons_zero, List.getD_cons_succ] at h ⊢
    unfold lowC
    repeat (first | rw [if_pos (by omega)] | rw [if_neg (by omega)])
    try (repeat' split)
    all_goals omega
  | n + 17, hk => omega
set_option maxHeartbeats 4000000 in
theorem low_out (r : Nat) (h : ∀ m, m < 17 → ¬ ((foldSp m).1 ≤ (r : Int) ∧ (r : Int) ≤ (foldSp m).2.1)) : lowC r = r := by
  have h0 := h 0 (by omega); have h1 := h 1 (by omega); have h2 := h 2 (by omega); have h3 := h 3 (by omega); have h4 := h 4 (by omega); have h5 := h 5 (by omega); have h6 := h 6 (by omega)
  have h7 := h 7 (by omega); have h8 := h 8 (by omega); have h9 := h 9 (by omega); have h10 := h 10 (by omega); have h11 := h 11 (by omega); have h12 := h 12 (by omega); have h13 := h 13 (by omega)
  have h14 := h 14 (by omega); have h15 := h 15 (by omega); have h16 := h 16 (by omega)
  clear h
  simp only [foldSp, foldT, List.getD_cons_zero, List.getD_cons_succ] at h0 h1 h2 h3 h4 h5 h6 h7 h8 h9 h10 h11 h12 h13 h14 h15 h16
  unfold lowC
  repeat (first | rw [if_pos (by omega)] | rw [if_neg (by omega)])
end Go.Cs

namespace Go.Cs
open Go.Lib
set_option linter.unusedVariables false
/-- The word at a place. -/
def mk (l : List UInt8) (p : Nat × Nat) : List UInt8 × Nat × Nat := (foldL (cutL l p), p.1, p.2)
end Go.Cs

namespace Go.Cs
open Go.Lib
set_option linter.unusedVariables false
theorem Bd.take {l : List UInt8} {n : Nat} (h : Bd l n) : ∀ b, n ≤ b → Bd (l.take b) n := by
  induction h with
  | zero l => exact fun b _ => .zero _
  | step l n hne _ ih =>
    intro b hb
    have hw := decodeL_width l
    have hd := dec_take l b hne (by omega)
    have hl : 0 < l.length := List.length_pos_iff.2 hne
    have hne' : l.take b ≠ [] := by
      intro e
      have := congrArg List.length e
      rw [List.length_take, List.length_nil] at this
      omega
    have h1 := ih (b - (decodeL l).2) (by omega)
    rw [← hd]
    refine .step _ _ hne' ?_
    rw [hd, List.drop_take]
    exact h1
end Go.Cs

namespace Go.Cs
open Go.Lib
set_option linter.unusedVariables false
/-! ### Segments -/
/-- The width of steps. -/
def W (u : List (Nat × Nat)) : Nat := (u.map (·.2)).sum
end Go.Cs

namespace Go.Cs
open Go.Lib
set_option linter.unusedVariables false
end Go.Cs
namespace Go.Cs
open Go.Lib
end Go.Cs

namespace Go.Cs
open Go.Lib
set_option linter.unusedVariables false
end Go.Cs

namespace Go.Cs
open Go.Lib
set_option linter.unusedVariables false
/-- What the reference asks of a piece of n bytes at the head of l. -/
def need (l : List UInt8) : Nat := if 194 ≤ (l.getD 0 0).toNat ∧ (l.getD 0 0).toNat ≤ 223 then 2 else if 224 ≤ (l.getD 0 0).toNat ∧ (l.getD 0 0).toNat ≤ 239 then 3 else if 240 ≤ (l.getD 0 0).toNat ∧ (l.getD 0 0).toNat ≤ 244 then 4 else 1
end Go.Cs

namespace Go.Cs
open Go.Lib
set_option linter.unusedVariables false
theorem nodup_len {α : Type} [DecidableEq α] : ∀ (a b : List α), a.Nodup → (∀ x ∈ a, x ∈ b) → a.length ≤ b.length
  | [], b, _, _ => Nat.zero_le _
  | x :: r, b, hn, hs => by
    rw [List.nodup_cons] at hn
    have hx : x ∈ b := hs x (by simp)
    have h1 := nodup_len r (b.erase x) hn.2 fun y hy => by
      have hne : y ≠ x := fun e => hn.1 (e ▸ hy)
      exact (List.mem_erase_of_ne hne).2 (hs y (by simp [hy]))
    have h2 := List.length_erase_of_mem hx
    have h3 : 0 < b.length := List.length_pos_iff.2 fun e => by rw [e] at hx; cases hx
    simp only [List.length_cons]
    omega
theorem takeWhile_split {α : Type} (p : α → Bool) : ∀ (l : List α) (j : Nat), (∀ x ∈ l.take j, p x = true) → (j ≤ l.length) → (∀ x, l[j]? = some x → p x = false) → (l.takeWhile p).length = j
  | [], j, _, hj, _ => by simp at hj; simp [hj]
  | a :: r, 0, _, _, h => by
    have := h a rfl
    simp [this]
  | a :: r, j + 1, h1, hj, h => by
    have ha := h1 a (by simp)
    simp only [List.takeWhile_cons, ha, if_true, List.length_cons]
    rw [takeWhile_split p r j (fun x hx => h1 x (by simp [hx])) (by simpa using hj) (fun x hx => h x (by simpa using hx))]
end Go.Cs
