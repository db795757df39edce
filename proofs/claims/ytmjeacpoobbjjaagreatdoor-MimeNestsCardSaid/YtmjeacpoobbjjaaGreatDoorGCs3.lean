/- Helper lemmas that the proved statement rests on; no conditions of their own. -/
import Derived.Lib.Small
import Derived.Lib.SlicesCompact
import Derived.Test.YtmjeacpoobbjjaaGreatDoorGCs0
set_option linter.unusedVariables false
set_option maxHeartbeats 1000000
namespace Go.Cs
open Go.Lib
theorem b2 (x : Nat) (y : Int) (h : (x : Int) = y) : UInt8.ofNat x = y.toNat.toUInt8 := by subst h; rfl
theorem zhC (r : Int) : Utf8.encode r = str (encodeRune r) := by
 unfold str encodeRune
 by_cases hv : (0 ≤ r ∧ r < 55296) ∨ (57344 ≤ r ∧ r ≤ 1114111)
 ·have hv' : Utf8.valid r = true := by unfold Utf8.valid; simp; omega
  unfold Utf8.encode
  rw [if_pos hv']
  dsimp only
  by_cases h1 : r ≤ 127
  ·rw [if_pos (by omega), encodeRuneZ_one (by omega) h1]; rfl
  by_cases h2 : r ≤ 2047
  ·rw [if_neg (by omega), if_pos (by omega), encodeRuneZ_two (by omega) h2]
   simp only [List.map_cons, List.map_nil]
   rw [b2 (192 + r.toNat / 64) (192 + r / 64) (by omega), b2 (128 + r.toNat % 64) (128 + r % 64) (by omega)]
  by_cases h3 : r ≤ 65535
  ·rw [if_neg (by omega), if_neg (by omega), if_pos (by omega), encodeRuneZ_three (by omega)]
   simp only [List.map_cons, List.map_nil]
   rw [b2 (224 + r.toNat / 4096) (224 + r / 4096) (by omega), b2 (128 + r.toNat / 64 % 64) (128 + r / 64 % 64) (by omega), b2 (128 + r.toNat % 64) (128 + r % 64) (by omega)]
  ·rw [if_neg (by omega), if_neg (by omega), if_neg (by omega), encodeRuneZ_four (by omega) (by omega)]
   simp only [List.map_cons, List.map_nil]
   rw [b2 (240 + r.toNat / 262144) (240 + r / 262144) (by omega), b2 (128 + r.toNat / 4096 % 64) (128 + r / 4096 % 64) (by omega), b2 (128 + r.toNat / 64 % 64) (128 + r / 64 % 64) (by omega), b2 (128 + r.toNat % 64) (128 + r % 64) (by omega)]
 ·have hv' : Utf8.valid r = false := by unfold Utf8.valid; simp; omega
  unfold Utf8.encode
  rw [hv', encodeRuneZ_bad (by omega)]
  simp only [Bool.false_eq_true, if_false]
  decide +kernel
theorem zfn (s : ByteArray) : s = ⟨#[]⟩ ↔ s.size = 0 := by
 constructor
 ·intro h; rw [h]; rfl
 ·intro h
  rw [← str_L s]
  have : L s = [] := List.eq_nil_of_length_eq_zero (by rw [L_len]; exact h)
  rw [this]; rfl
theorem zdu (s : ByteArray) (n : Nat) (h : n < s.size) : ∃ x : UInt8, s.data.toList.getD n 0 = x ∧ (L s)[n]? = some x ∧ (L s).take (n + 1) = (L s).take n ++ [x] ∧ (L s).drop n = x :: (L s).drop (n + 1) := by
 have hl := L_len s
 have hn : n < (L s).length := by omega
 refine ⟨(L s)[n], ?_, List.getElem?_eq_getElem hn, ?_, ?_⟩
 ·show (L s).getD n 0 = _; rw [List.getD, List.getElem?_eq_getElem hn]; rfl
 ·rw [List.take_add_one, List.getElem?_eq_getElem hn]; rfl
 ·rw [List.drop_eq_getElem_cons hn]
def kindN (r : Nat) : Nat :=
 if 1114111 < r then 0
 else if r < 192 then (if 48 ≤ r ∧ r ≤ 57 then 1 else if 65 ≤ r ∧ r ≤ 90 then 1 else if 97 ≤ r ∧ r ≤ 122 then 1 else 0)
 else if r = 215 then 0 else if r = 247 then 0 else if 8192 ≤ r ∧ r ≤ 11263 then 0 else if 11904 ≤ r ∧ r ≤ 12255 then 2 else if 12288 ≤ r ∧ r ≤ 12351 then 0
 else if 12353 ≤ r ∧ r ≤ 12543 then 2 else if 12549 ≤ r ∧ r ≤ 12591 then 2 else if 12593 ≤ r ∧ r ≤ 12686 then 2 else if 13312 ≤ r ∧ r ≤ 19903 then 2 else if 19968 ≤ r ∧ r ≤ 40959 then 2
 else if 44032 ≤ r ∧ r ≤ 55203 then 2 else if 55296 ≤ r ∧ r ≤ 63743 then 0 else if 63744 ≤ r ∧ r ≤ 64255 then 2 else if 65024 ≤ r ∧ r ≤ 65039 then 0 else if 65072 ≤ r ∧ r ≤ 65135 then 0
 else if 65280 ≤ r ∧ r ≤ 65295 then 0 else if 65520 ≤ r ∧ r ≤ 65535 then 0 else if 126976 ≤ r ∧ r ≤ 129791 then 0 else if 131072 ≤ r ∧ r ≤ 262143 then 2 else 1
def lowC (r : Nat) : Nat :=
 if 65 ≤ r ∧ r ≤ 90 then r + 32 else if 192 ≤ r ∧ r ≤ 214 then r + 32 else if 216 ≤ r ∧ r ≤ 222 then r + 32
 else if 256 ≤ r ∧ r ≤ 303 then (if r % 2 = 0 then r + 1 else r) else if 306 ≤ r ∧ r ≤ 311 then (if r % 2 = 0 then r + 1 else r)
 else if 313 ≤ r ∧ r ≤ 328 then (if r % 2 = 1 then r + 1 else r) else if 330 ≤ r ∧ r ≤ 375 then (if r % 2 = 0 then r + 1 else r)
 else if r = 376 then 255 else if 377 ≤ r ∧ r ≤ 382 then (if r % 2 = 1 then r + 1 else r)
 else if r = 902 then 940 else if 904 ≤ r ∧ r ≤ 906 then r + 37 else if r = 908 then 972 else if 910 ≤ r ∧ r ≤ 911 then r + 63
 else if 913 ≤ r ∧ r ≤ 929 then r + 32 else if 931 ≤ r ∧ r ≤ 939 then r + 32 else if 1024 ≤ r ∧ r ≤ 1039 then r + 80 else if 1040 ≤ r ∧ r ≤ 1071 then r + 32 else r
theorem zlC (r : Nat) (h : 1072 ≤ r) : lowC r = r := by
 unfold lowC
 rw [if_neg (by omega), if_neg (by omega), if_neg (by omega), if_neg (by omega), if_neg (by omega), if_neg (by omega), if_neg (by omega), if_neg (by omega), if_neg (by omega), if_neg (by omega), if_neg (by omega), if_neg (by omega), if_neg (by omega), if_neg (by omega), if_neg (by omega), if_neg (by omega), if_neg (by omega)]
set_option maxRecDepth 100000 in
theorem zjd : ∀ r : Fin 1104, kindN (lowC r.val) = kindN r.val ∧ lowC (lowC r.val) = lowC r.val ∧ (enc (lowC r.val)).length = (enc r.val).length ∧ lowC r.val ≤ 1119 := by decide +kernel
theorem zlf (r : Nat) : (enc (lowC r)).length = (enc r).length := by
 by_cases h : r < 1104
 ·exact (zjd ⟨r, h⟩).2.2.1
 ·rw [zlC r (by omega)]
def foldF : Nat → List UInt8 → List UInt8
 | 0, _ => []
 | _ + 1, [] => []
 | n + 1, b :: t => (if (decodeL (b :: t)).1 = 65533 ∧ (decodeL (b :: t)).2 = 1 then [b] else enc (lowC (decodeL (b :: t)).1)) ++ foldF n ((b :: t).drop (decodeL (b :: t)).2)
def foldL (l : List UInt8) : List UInt8 := foldF l.length l
theorem zdV : ∀ (n m : Nat) (l : List UInt8), l.length ≤ n → l.length ≤ m → foldF n l = foldF m l
 | 0, m, l, hn, _ => by
  have : l = [] := List.eq_nil_of_length_eq_zero (by omega)
  subst this
  cases m <;> rfl
 | n + 1, 0, l, _, hm => by
  have : l = [] := List.eq_nil_of_length_eq_zero (by omega)
  subst this; rfl
 | n + 1, m + 1, [], _, _ => rfl
 | n + 1, m + 1, b :: t, hn, hm => by
  have hw := decodeL_width (b :: t)
  simp only [foldF]
  rw [zdV n m _ (by rw [List.length_drop]; omega) (by rw [List.length_drop]; omega)]
def head1 (l : List UInt8) : List UInt8 := if (decodeL l).1 = 65533 ∧ (decodeL l).2 = 1 then [l.getD 0 0] else enc (lowC (decodeL l).1)
theorem zcu (l : List UInt8) (hne : l ≠ []) : foldL l = head1 l ++ foldL (l.drop (decodeL l).2) := by
 obtain ⟨b, t, rfl⟩ := List.exists_cons_of_ne_nil hne
 have hw := decodeL_width (b :: t)
 show (if (decodeL (b :: t)).1 = 65533 ∧ (decodeL (b :: t)).2 = 1 then [b] else enc (lowC (decodeL (b :: t)).1)) ++ foldF t.length _ = _
 rw [zdV t.length ((b :: t).drop (decodeL (b :: t)).2).length _ (by rw [List.length_drop, List.length_cons]; omega) (Nat.le_refl _)]
 rfl
def close (f : Option Nat) (at_ : Nat) : List (Nat × Nat) := match f with | none => [] | some a => [(a, at_)]
def wd : List (Nat × Nat) → Nat → Option Nat → List (Nat × Nat)
 | [], p, f => close f p
 | (k, n) :: r, p, f =>
  if k = 0 then close f p ++ wd r (p + n) none
  else if k = 2 then close f p ++ (p, p + n) :: wd r (p + n) none
  else match f with
   | some a => if 40 < p + n - a then (a, p) :: wd r (p + n) (some p) else wd r (p + n) (some a)
   | none => wd r (p + n) (some p)
def cutL (l : List UInt8) (p : Nat × Nat) : List UInt8 := (l.take p.2).drop p.1
def cont (b : UInt8) : Prop := b.toNat / 64 = 2
theorem zjb (c : Nat) (h : scal c) : ∃ b t, enc c = b :: t ∧ ¬ cont b ∧ ∀ x ∈ t, cont x := by
 unfold scal at h
 unfold enc encodeRune cont
 by_cases h1 : c < 128
 ·rw [encodeRuneZ_one (by omega) (by omega)]
  exact ⟨_, _, rfl, by rw [u8n _ (by omega)]; omega, by simp⟩
 by_cases h2 : c ≤ 2047
 ·rw [encodeRuneZ_two (by omega) (by omega)]
  refine ⟨_, _, rfl, by rw [u8n _ (by omega)]; omega, fun x hx => ?_⟩
  simp only [List.map_cons, List.map_nil, List.mem_cons, List.not_mem_nil, or_false] at hx
  subst hx; rw [u8n _ (by omega)]; omega
 by_cases h3 : c ≤ 65535
 ·rw [encodeRuneZ_three (by omega)]
  refine ⟨_, _, rfl, by rw [u8n _ (by omega)]; omega, fun x hx => ?_⟩
  simp only [List.map_cons, List.map_nil, List.mem_cons, List.not_mem_nil, or_false] at hx
  rcases hx with rfl | rfl <;> (rw [u8n _ (by omega)]; omega)
 ·rw [encodeRuneZ_four (by omega) (by omega)]
  refine ⟨_, _, rfl, by rw [u8n _ (by omega)]; omega, fun x hx => ?_⟩
  simp only [List.map_cons, List.map_nil, List.mem_cons, List.not_mem_nil, or_false] at hx
  rcases hx with rfl | rfl | rfl <;> (rw [u8n _ (by omega)]; omega)
theorem zgJ (l : List UInt8) (c : Nat) (h : scal c) (e : l.take (enc c).length = enc c) : decodeL l = (c, (enc c).length) := by
 have h2 := List.take_append_drop (enc c).length l
 rw [e] at h2
 have := ziP c h (l.drop (enc c).length)
 rw [h2] at this
 exact this
theorem bad_or (l : List UInt8) (hne : l ≠ []) : decodeL l = (65533, 1) ∨ ∃ c, scal c ∧ decodeL l = (c, (enc c).length) ∧ l.take (enc c).length = enc c := by
 rcases dec_whole l hne with h | ⟨h1, h2, h3, _⟩
 ·exact .inl h
 ·exact .inr ⟨_, h1, Prod.ext rfl h3, by rw [← h3]; exact h2⟩
theorem zlK (c : Nat) : (65533, 1) ≠ (c, (enc c).length) := by
 intro h
 injection h with h1 h2
 rw [← h1] at h2
 have := zbU
 omega
theorem zff (l : List UInt8) (n : Nat) (hne : l ≠ []) (hn : (decodeL l).2 ≤ n) : decodeL (l.take n) = decodeL l := by
 have hw := decodeL_width l
 have hl : 0 < l.length := List.length_pos_iff.2 hne
 have hne' : l.take n ≠ [] := by
  intro h
  have := congrArg List.length h
  rw [List.length_take, List.length_nil] at this
  omega
 rcases bad_or l hne with h | ⟨c, hs, hd, ht⟩
 ·rcases bad_or (l.take n) hne' with h' | ⟨c, hs, hd, ht⟩
  ·rw [h, h']
  ·exfalso
   have hle := decodeL_le _ hne'
   rw [hd, List.length_take] at hle
   simp only at hle
   rw [List.take_take, Nat.min_eq_left (by omega)] at ht
   have := zgJ l c hs ht
   rw [h] at this
   exact zlK c this
 ·rw [hd] at hn ⊢
  simp only at hn
  exact zgJ _ c hs (by rw [List.take_take, Nat.min_eq_left hn]; exact ht)
theorem head1_shape (l : List UInt8) (hne : l ≠ []) : (decodeL l = (65533, 1) ∧ ∃ b t, l = b :: t ∧ head1 l = [b]) ∨ ∃ c, scal c ∧ decodeL l = (c, (enc c).length) ∧ head1 l = enc (lowC c) ∧ ∃ b t, l = b :: t ∧ ¬ cont b := by
 obtain ⟨b, t, rfl⟩ := List.exists_cons_of_ne_nil hne
 rcases bad_or (b :: t) hne with h | ⟨c, hs, hd, ht⟩
 ·exact .inl ⟨h, b, t, rfl, by unfold head1; rw [h]; rfl⟩
 ·refine .inr ⟨c, hs, hd, ?_, b, t, rfl, ?_⟩
  ·unfold head1
   rw [hd, if_neg]
   rintro ⟨h1, h2⟩
   simp only at h1 h2
   subst h1
   rw [zbU] at h2; omega
  ·obtain ⟨x, y, e1, e2, _⟩ := zjb c hs
   rw [e1] at ht
   simp only [List.length_cons, List.take_succ_cons, List.cons.injEq] at ht
   rw [ht.1]; exact e2
theorem zig (l : List UInt8) (hne : l ≠ []) : (head1 l).length = (decodeL l).2 := by
 rcases head1_shape l hne with ⟨h, b, t, _, e⟩ | ⟨c, hs, hd, e, _⟩
 ·rw [h, e]; rfl
 ·rw [hd, e, zlf]
inductive Bd : List UInt8 → Nat → Prop
 | zero (l : List UInt8) : Bd l 0
 | step (l : List UInt8) (n : Nat) : l ≠ [] → Bd (l.drop (decodeL l).2) n → Bd l ((decodeL l).2 + n)
theorem zbG {l : List UInt8} {n : Nat} (h : Bd l n) : foldL (l.take n) = (foldL l).take n ∧ foldL (l.drop n) = (foldL l).drop n := by
 induction h with
 | zero l => exact ⟨rfl, rfl⟩
 | step l n hne _ ih =>
  have hw := decodeL_width l
  have hl : 0 < l.length := List.length_pos_iff.2 hne
  have hne' : l.take ((decodeL l).2 + n) ≠ [] := by
   intro h
   have := congrArg List.length h
   rw [List.length_take, List.length_nil] at this
   omega
  have h1 := zig l hne
  have hhd : head1 (l.take ((decodeL l).2 + n)) = head1 l := by
   unfold head1
   rw [zff l _ hne (by omega)]
   congr 2
   obtain ⟨b, t, rfl⟩ := List.exists_cons_of_ne_nil hne
   obtain ⟨m, hm⟩ : ∃ m, (decodeL (b :: t)).2 + n = m + 1 := ⟨(decodeL (b :: t)).2 + n - 1, by omega⟩
   rw [hm]; rfl
  constructor
  ·rw [zcu _ hne', zff l _ hne (by omega), hhd, List.drop_take, Nat.add_sub_cancel_left, ih.1, zcu l hne, ← h1, List.take_append]
   rw [List.take_of_length_le (l := head1 l) (i := (head1 l).length + n) (by omega), Nat.add_sub_cancel_left]
  ·rw [← List.drop_drop, ih.2, zcu l hne, ← h1, ← List.drop_drop, List.drop_left' rfl]
structure Bx where
 id : Int
 up : Int
 name : List UInt8
 role : List UInt8
deriving DecidableEq
def rolesL : List (List UInt8) := [[], [105, 110, 98, 111, 120], [100, 114, 97, 102, 116, 115], [115, 101, 110, 116], [116, 114, 97, 115, 104], [106, 117, 110, 107], [97, 114, 99, 104, 105, 118, 101]]
def fineB (b : UInt8) : Bool := !(decide (b.toNat < 32) || decide (b.toNat = 127) || decide (b.toNat = 47))
def namedB (s : List UInt8) : Bool := decide (1 ≤ s.length) && decide (s.length ≤ 100) && validD s && s.all fineB
def upOf (l : List Bx) (id : Int) : Option Int := (l.find? fun b => decide (b.id = id)).map (·.up)
def dep (l : List Bx) : Nat → Int → Option Nat
 | 0, id => if id = 0 then some 0 else none
 | n + 1, id => if id = 0 then some 0 else match upOf l id with
  | none => none
  | some u => (dep l n u).map (· + 1)
structure RightP (l : List Bx) : Prop where
 len : l.length ≤ 64
 pos : ∀ b ∈ l, 1 ≤ b.id ∧ b.id ≤ 1099511627776
 asc : l.Pairwise fun a b => a.id < b.id
 named : ∀ b ∈ l, namedB b.name = true
 roles : ∀ b ∈ l, b.role ∈ rolesL
 uniq : l.Pairwise fun a b => ¬ (a.up = b.up ∧ foldL a.name = foldL b.name)
 urole : l.Pairwise fun a b => ¬ (b.role ≠ [] ∧ a.role = b.role)
 deep : ∀ b ∈ l, ∃ d, dep l l.length b.id = some d ∧ d ≤ 8
theorem zcQ {l : List Bx} {id u : Int} (h : upOf l id = some u) : ∃ b ∈ l, b.id = id ∧ b.up = u := by
 unfold upOf at h
 cases hf : l.find? fun b => decide (b.id = id) with
 | none => rw [hf] at h; cases h
 | some b =>
  rw [hf] at h
  have h1 := List.find?_some hf
  exact ⟨b, List.mem_of_find?_eq_some hf, by simpa using h1, by simpa using h⟩
theorem ziZ {l : List Bx} {id : Int} : upOf l id = none ↔ ∀ b ∈ l, b.id ≠ id := by
 unfold upOf
 rw [Option.map_eq_none_iff, List.find?_eq_none]
 simp
theorem zlu {l : List Bx} (h : l.Pairwise fun a b => a.id < b.id) {b : Bx} (hb : b ∈ l) : upOf l b.id = some b.up := by
 cases hu : upOf l b.id with
 | none => exact absurd rfl (ziZ.1 hu b hb)
 | some u =>
  obtain ⟨c, hc, h1, h2⟩ := zcQ hu
  have : c = b := by
   obtain ⟨i, hi, rfl⟩ := List.getElem_of_mem hc
   obtain ⟨j, hj, rfl⟩ := List.getElem_of_mem hb
   rw [List.pairwise_iff_getElem] at h
   rcases Nat.lt_trichotomy i j with hij | hij | hij
   ·have := h i j hi hj hij; omega
   ·subst hij; rfl
   ·have := h j i hj hi hij; omega
  rw [← h2, this]
theorem zlO {l : List Bx} (h : l.Pairwise fun a b => a.id < b.id) {a b : Bx} (ha : a ∈ l) (hb : b ∈ l) (he : a.id = b.id) : a = b := by
 obtain ⟨i, hi, rfl⟩ := List.getElem_of_mem ha
 obtain ⟨j, hj, rfl⟩ := List.getElem_of_mem hb
 rw [List.pairwise_iff_getElem] at h
 rcases Nat.lt_trichotomy i j with hij | hij | hij
 ·have := h i j hi hj hij; omega
 ·subst hij; rfl
 ·have := h j i hj hi hij; omega
theorem zjk (l : List Bx) : ∀ (n : Nat) (id : Int) (d : Nat), dep l n id = some d → d ≤ n
 | 0, id, d, h => by
  unfold dep at h
  split at h
  ·cases h; omega
  ·cases h
 | n + 1, id, d, h => by
  unfold dep at h
  split at h
  ·cases h; omega
  ·cases hu : upOf l id with
   | none => rw [hu] at h; cases h
   | some u =>
    rw [hu] at h
    dsimp only at h
    cases hd : dep l n u with
    | none => rw [hd] at h; cases h
    | some e =>
     rw [hd] at h
     have := zjk l n u e hd
     simp at h; omega
theorem zga (l : List Bx) : ∀ (n : Nat) (id : Int) (d : Nat), dep l n id = some d → dep l d id = some d
 | 0, id, d, h => by
  have := zjk l 0 id d h
  obtain rfl : d = 0 := by omega
  exact h
 | n + 1, id, d, h => by
  have h' := h
  unfold dep at h
  split at h
  ·rename_i h0; cases h; simp [dep, h0]
  ·rename_i h0
   cases hu : upOf l id with
   | none => rw [hu] at h; cases h
   | some u =>
    rw [hu] at h
    dsimp only at h
    cases hd : dep l n u with
    | none => rw [hd] at h; cases h
    | some e =>
     rw [hd] at h
     simp at h
     subst h
     rw [dep, if_neg h0, hu]
     dsimp only
     rw [zga l n u e hd]; rfl
set_option linter.unusedSectionVars false
def boxOf (l : List Bx) (id : Int) : Option Bx := l.find? fun b => decide (b.id = id)
theorem zkk (l : List Bx) (id : Int) : upOf l id = (boxOf l id).map (·.up) := rfl
theorem zhY {l : List Bx} {id : Int} {b : Bx} (h : boxOf l id = some b) : b ∈ l ∧ b.id = id :=
 ⟨List.mem_of_find?_eq_some h, by simpa using List.find?_some h⟩
theorem zdW {l : List Bx} {id : Int} : boxOf l id = none ↔ ∀ b ∈ l, b.id ≠ id := by
 unfold boxOf
 rw [List.find?_eq_none]
 simp
theorem zgN {l : List Bx} (h : l.Pairwise fun a b => a.id < b.id) {b : Bx} (hb : b ∈ l) : boxOf l b.id = some b := by
 cases hu : boxOf l b.id with
 | none => exact absurd rfl (zdW.1 hu b hb)
 | some c =>
  obtain ⟨h1, h2⟩ := zhY hu
  rw [zlO h h1 hb h2]
section
variable {l : List Bx} (hr : RightP l)
include hr
theorem zit : boxOf l 0 = none := zdW.2 fun b hb => by have := (hr.pos b hb).1; omega
theorem zko {b : Bx} (hb : b ∈ l) : ∃ d, d + 1 ≤ 8 ∧ d + 1 ≤ l.length ∧ dep l (d + 1) b.id = some (d + 1) ∧ dep l d b.up = some d := by
 obtain ⟨d, hd, h8⟩ := hr.deep b hb
 have hb1 := (hr.pos b hb).1
 have hle := zjk _ _ _ _ hd
 have hd := zga _ _ _ _ hd
 cases d with
 | zero => rw [dep, if_neg (by omega)] at hd; cases hd
 | succ d =>
  refine ⟨d, h8, hle, hd, ?_⟩
  rw [dep, if_neg (by omega), zlu hr.asc hb] at hd
  dsimp only at hd
  cases hn2 : dep l d b.up with
  | none => rw [hn2] at hd; cases hd
  | some e => rw [hn2] at hd; simp at hd; rw [hd]
theorem dep_up0 {u : Int} {d : Nat} (h : dep l d u = some d) : (u = 0 ∧ d = 0) ∨ (u ≠ 0 ∧ ∃ b ∈ l, b.id = u ∧ ∃ e, d = e + 1 ∧ dep l e b.up = some e) := by
 cases d with
 | zero =>
  left
  unfold dep at h
  split at h
  ·rename_i h0; exact ⟨h0, rfl⟩
  ·cases h
 | succ d =>
  right
  by_cases h0 : u = 0
  ·rw [dep, if_pos h0] at h; cases h
  ·rw [dep, if_neg h0] at h
   cases hu : upOf l u with
   | none => rw [hu] at h; cases h
   | some v =>
    obtain ⟨c, h1, h2, h3⟩ := zcQ hu
    rw [hu] at h
    dsimp only at h
    refine ⟨h0, c, h1, h2, d, rfl, ?_⟩
    rw [h3]
    cases hn2 : dep l d v with
    | none => rw [hn2] at h; cases h
    | some e => rw [hn2] at h; simp at h; rw [h]
end
def namesN (l : List Bx) : Nat → Int → List (List UInt8)
 | 0, _ => []
 | n + 1, id => match boxOf l id with
  | none => []
  | some b => namesN l n b.up ++ [b.name]
def names (l : List Bx) (id : Int) : List (List UInt8) := namesN l l.length id
section
variable {l : List Bx} (hr : RightP l)
include hr
theorem zcv (n : Nat) : namesN l n 0 = [] := by
 cases n with
 | zero => rfl
 | succ n => rw [namesN, zit hr]
theorem zcH : ∀ (d : Nat) (id : Int), dep l d id = some d → ∀ n, d ≤ n → namesN l n id = namesN l d id
 | 0, id, h, n, hn => by
  rcases dep_up0 hr h with ⟨rfl, _⟩ | ⟨_, _, _, _, e, he, _⟩
  ·rw [zcv hr, zcv hr]
  ·omega
 | d + 1, id, h, n, hn => by
  rcases dep_up0 hr h with ⟨_, h0⟩ | ⟨h0, b, hb, rfl, e, he, hd⟩
  ·omega
  ·obtain rfl : d = e := by omega
   obtain ⟨n, rfl⟩ : ∃ m, n = m + 1 := ⟨n - 1, by omega⟩
   rw [namesN, namesN, zgN hr.asc hb]
   dsimp only
   rw [zcH d b.up hd n (by omega)]
theorem ziq {b : Bx} (hb : b ∈ l) : names l b.id = names l b.up ++ [b.name] := by
 obtain ⟨d, h1, h2, h3, h4⟩ := zko hr hb
 unfold names
 rw [zcH hr _ _ h3 _ h2, zcH hr _ _ h4 _ (by omega), namesN, zgN hr.asc hb]
theorem zhE : names l 0 = [] := zcv hr _
end
end Go.Cs
namespace Go.Cs
end Go.Cs
namespace Go.Cs
open Go.Lib
def mk (l : List UInt8) (p : Nat × Nat) : List UInt8 × Nat × Nat := (foldL (cutL l p), p.1, p.2)
theorem Bd.snoc {l : List UInt8} {n : Nat} (h : Bd l n) : l.drop n ≠ [] → Bd l (n + (decodeL (l.drop n)).2) := by
 induction h with
 | zero l => intro hne; rw [List.drop_zero] at *; rw [Nat.zero_add]; exact .step l 0 hne (.zero _)
 | step l n hne _ ih =>
  intro h
  rw [← List.drop_drop] at h
  have := ih h
  rw [← List.drop_drop, Nat.add_assoc]
  exact .step l _ hne this
theorem Bd.take {l : List UInt8} {n : Nat} (h : Bd l n) : ∀ b, n ≤ b → Bd (l.take b) n := by
 induction h with
 | zero l => exact fun b _ => .zero _
 | step l n hne _ ih =>
  intro b hb
  have hw := decodeL_width l
  have hd := zff l b hne (by omega)
  have hl : 0 < l.length := List.length_pos_iff.2 hne
  have hne' : l.take b ≠ [] := by
   intro e
   have := congrArg List.length e
   rw [List.length_take, List.length_nil] at this
   omega
  have h1 := ih (b - (decodeL l).2) (by omega)
  rw [← hd]
  refine .step _ _ hne' ?_
  rw [hd, List.drop_take]
  exact h1
def W (u : List (Nat × Nat)) : Nat := (u.map (·.2)).sum
def Ones (u : List (Nat × Nat)) : Prop := u ≠ [] ∧ (∀ q ∈ u, q.1 = 1) ∧ W u ≤ 40
def Seg (u : List (Nat × Nat)) : Prop := Ones u ∨ ∃ n, u = [(2, n)]
def Zeros (u : List (Nat × Nat)) : Prop := ∀ q ∈ u, q.1 = 0
def Chain (u0 : List (Nat × Nat)) : Nat → List (Nat × Nat) → Prop
 | e, [] => ∃ a b, u0 = a ++ b ∧ W a = e ∧ Zeros b
 | e, p :: ps => ∃ a z s c, u0 = a ++ z ++ s ++ c ∧ W a = e ∧ Zeros z ∧ p = (W a + W z, W a + W z + W s) ∧ Seg s ∧ Chain u0 p.2 ps
def need (l : List UInt8) : Nat := if 194 ≤ (l.getD 0 0).toNat ∧ (l.getD 0 0).toNat ≤ 223 then 2 else if 224 ≤ (l.getD 0 0).toNat ∧ (l.getD 0 0).toNat ≤ 239 then 3 else if 240 ≤ (l.getD 0 0).toNat ∧ (l.getD 0 0).toNat ≤ 244 then 4 else 1
theorem zfM {α : Type} [DecidableEq α] : ∀ (a b : List α), a.Nodup → (∀ x ∈ a, x ∈ b) → a.length ≤ b.length
 | [], b, _, _ => Nat.zero_le _
 | x :: r, b, hn, hs => by
  rw [List.nodup_cons] at hn
  have hx : x ∈ b := hs x (by simp)
  have h1 := zfM r (b.erase x) hn.2 fun y hy => by
   have hne : y ≠ x := fun e => hn.1 (e ▸ hy)
   exact (List.mem_erase_of_ne hne).2 (hs y (by simp [hy]))
  have h2 := List.length_erase_of_mem hx
  have h3 : 0 < b.length := List.length_pos_iff.2 fun e => by rw [e] at hx; cases hx
  simp only [List.length_cons]
  omega
set_option linter.unusedSectionVars false
def Dep (l : List Bx) : Nat → Int → Prop
 | 0, id => id = 0
 | d + 1, id => id ≠ 0 ∧ ∃ u, upOf l id = some u ∧ Dep l d u
theorem zgu (l : List Bx) : ∀ (n d : Nat) (id : Int), dep l n id = some d ↔ Dep l d id ∧ d ≤ n
 | 0, 0, id => by unfold dep Dep; by_cases h : id = 0 <;> simp [h]
 | 0, d + 1, id => by unfold dep; by_cases h : id = 0 <;> simp [h]
 | n + 1, 0, id => by
  unfold dep Dep
  by_cases h : id = 0
  ·simp [h]
  ·rw [if_neg h]
   constructor
   ·intro e
    cases hu : upOf l id with
    | none => rw [hu] at e; cases e
    | some u =>
     rw [hu] at e
     dsimp only at e
     cases hd : dep l n u with
     | none => rw [hd] at e; cases e
     | some x => rw [hd] at e; simp at e
   ·intro e; exact absurd e.1 h
 | n + 1, d + 1, id => by
  unfold dep Dep
  by_cases h : id = 0
  ·simp [h]
  ·rw [if_neg h]
   constructor
   ·intro e
    cases hu : upOf l id with
    | none => rw [hu] at e; cases e
    | some u =>
     rw [hu] at e
     dsimp only at e
     cases hd : dep l n u with
     | none => rw [hd] at e; cases e
     | some x =>
      rw [hd] at e
      simp at e
      subst e
      obtain ⟨h1, h2⟩ := (zgu l n x u).1 hd
      exact ⟨⟨h, u, rfl, h1⟩, by omega⟩
   ·rintro ⟨⟨_, u, hu, h1⟩, h2⟩
    rw [hu]
    dsimp only
    rw [(zgu l n d u).2 ⟨h1, by omega⟩]; rfl
theorem Dep.inj {l : List Bx} : ∀ {d e : Nat} {id : Int}, Dep l d id → Dep l e id → d = e
 | 0, 0, id, _, _ => rfl
 | 0, e + 1, id, h, k => absurd h k.1
 | d + 1, 0, id, h, k => absurd k h.1
 | d + 1, e + 1, id, ⟨_, u, hu, h⟩, ⟨_, v, hv, k⟩ => by
  rw [hu] at hv
  obtain rfl := Option.some.inj hv
  rw [Dep.inj h k]
theorem Dep.len {l : List Bx} {d : Nat} {id : Int} (h : Dep l d id) : d ≤ l.length := by
 have key : ∀ (d : Nat) (id : Int), Dep l d id → ∃ c : List Int, c.length = d ∧ c.Nodup ∧ (∀ x ∈ c, x ∈ l.map (·.id)) ∧ ∀ x ∈ c, ∃ e, e ≤ d ∧ Dep l e x := by
  intro d
  induction d with
  | zero => intro id _; exact ⟨[], rfl, .nil, by simp, by simp⟩
  | succ d ih =>
   rintro id ⟨h0, u, hu, hd⟩
   obtain ⟨c, h1, h2, h3, h4⟩ := ih u hd
   obtain ⟨b, hb, hid, _⟩ := zcQ hu
   refine ⟨id :: c, by simp [h1], List.nodup_cons.2 ⟨fun hm => ?_, h2⟩, fun x hx => ?_, fun x hx => ?_⟩
   ·obtain ⟨e, he, hde⟩ := h4 id hm
    have := Dep.inj hde (show Dep l (d + 1) id from ⟨h0, u, hu, hd⟩)
    omega
   ·rcases List.mem_cons.1 hx with rfl | hx
    ·exact List.mem_map.2 ⟨b, hb, hid⟩
    ·exact h3 x hx
   ·rcases List.mem_cons.1 hx with rfl | hx
    ·exact ⟨d + 1, Nat.le_refl _, h0, u, hu, hd⟩
    ·obtain ⟨e, he, hde⟩ := h4 x hx
     exact ⟨e, by omega, hde⟩
 obtain ⟨c, h1, h2, h3, _⟩ := key d id h
 have := zfM c (l.map (·.id)) h2 h3
 rw [List.length_map] at this
 omega
theorem RightP.dep {l : List Bx} (hr : RightP l) {b : Bx} (hb : b ∈ l) : ∃ d, Dep l d b.id ∧ d ≤ 8 := by
 obtain ⟨d, h1, h2⟩ := hr.deep b hb
 exact ⟨d, ((zgu _ _ _ _).1 h1).1, h2⟩
inductive Reach (l : List Bx) (b : Int) : Int → Prop
 | here : Reach l b b
 | up {id u : Int} : upOf l id = some u → Reach l b u → Reach l b id
theorem Dep.congr {l l' : List Bx} (S : Int → Prop) (hS : ∀ id u, S id → upOf l id = some u → upOf l' id = some u ∧ S u) : ∀ (d : Nat) (id : Int), S id → Dep l d id → Dep l' d id
 | 0, id, _, h => h
 | d + 1, id, hs, ⟨h0, u, hu, h⟩ => ⟨h0, u, (hS id u hs hu).1, Dep.congr S hS d u (hS id u hs hu).2 h⟩
section
end
theorem Reach.dep {l : List Bx} (hz : upOf l 0 = none) {b y : Int} (h : Reach l b y) : ∀ {d : Nat}, Dep l d y → ∃ e, e ≤ d ∧ Dep l e b := by
 induction h with
 | here => intro d hd; exact ⟨d, Nat.le_refl _, hd⟩
 | @up id u hu _ ih =>
  intro d hd
  cases d with
  | zero =>
   have h0 : id = 0 := hd
   rw [h0, hz] at hu; cases hu
  | succ d =>
   obtain ⟨h0, v, hv, hd⟩ := hd
   rw [hu] at hv
   obtain rfl := Option.some.inj hv
   obtain ⟨e, h1, h2⟩ := ih hd
   exact ⟨e, by omega, h2⟩
theorem RightP.zero {l : List Bx} (hr : RightP l) : upOf l 0 = none := by rw [zkk, zit hr]; rfl
section
variable {l : List Bx} (hr : RightP l)
include hr
theorem anc : ∀ (d : Nat) (y : Int), Dep l d y → ∀ p r, p ≠ [] → names l y = p ++ r → ∃ a ∈ l, names l a.id = p ∧ Reach l a.id y
 | 0, y, h, p, r, hp, he => by
  have : y = 0 := h
  rw [this, zhE hr] at he
  exact absurd (List.append_eq_nil_iff.1 he.symm).1 hp
 | d + 1, y, ⟨h0, u, hu, h⟩, p, r, hp, he => by
  obtain ⟨b, hb, rfl, rfl⟩ := zcQ hu
  rcases List.eq_nil_or_concat r with rfl | ⟨r', z, rfl⟩
  ·exact ⟨b, hb, by rw [he, List.append_nil], .here⟩
  ·rw [ziq hr hb, List.concat_eq_append, ← List.append_assoc] at he
   have h1 := (List.append_inj' he rfl).1
   obtain ⟨a, ha, h2, h3⟩ := anc d b.up h p r' hp h1
   exact ⟨a, ha, h2, .up hu h3⟩
end
section
end
structure Dg where
 (d0 d1 d2 d3 d4 d5 d6 d7 d8 d9 d10 d11 d12 d13 d14 d15 d16 d17 d18 d19 d20 d21 d22 d23 d24 d25 d26 d27 d28 d29 d30 d31 : Int)
deriving DecidableEq
structure Ml where
 id : Int
 blob : Dg
 boxes : List Int
 flags : List (List UInt8)
 at_ : Int
 size : Int
 mod : Int
deriving DecidableEq
structure Sc where
 name : List UInt8
 text : List UInt8
deriving DecidableEq
structure Sn where
 key : List UInt8
 at_ : Int
deriving DecidableEq
structure Acc where
 boxes : List Bx
 mails : List Ml
 scripts : List Sc
 active : List UInt8
 seen : List Sn
 nm : Int
 nb : Int
 st : Int
deriving DecidableEq
def AscB {α : Type} (lt : α → α → Bool) (l : List α) : Prop := l.Pairwise fun a b => lt a b = true
section
end
def ltI (a b : Int) : Bool := decide (a < b)
end Go.Cs
