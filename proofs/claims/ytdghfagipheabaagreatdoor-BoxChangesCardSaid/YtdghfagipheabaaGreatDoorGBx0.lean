/- Helper text of this claim: Bx0, Bx1, Bx2: lemmas and contracts that the proved statement rests on; no conditions of its own. -/
import Derived.Test.YtdghfagipheabaaGreatDoorGCt1
namespace Go.Cs
open Go.Lib
set_option linter.unusedVariables false
/-! ### Mailboxes, plain -/
structure Bx where
  id : Int
  up : Int
  name : List UInt8
  role : List UInt8
deriving DecidableEq
def rolesL : List (List UInt8) := [[], [105, 110, 98, 111, 120], [100, 114, 97, 102, 116, 115], [115, 101, 110, 116], [116, 114, 97, 115, 104], [106, 117, 110, 107], [97, 114, 99, 104, 105, 118, 101]]
def fineB (b : UInt8) : Bool := !(decide (b.toNat < 32) || decide (b.toNat = 127) || decide (b.toNat = 47))
def namedB (s : List UInt8) : Bool := decide (1 ≤ s.length) && decide (s.length ≤ 100) && validD s && s.all fineB
def okStep (pre : List Bx) (last : Int) (b : Bx) : Bool :=
  decide (last < b.id) && decide (b.id ≤ 1099511627776) && namedB b.name && decide (b.role ∈ rolesL) &&
    !(pre.any fun c => decide (c.up = b.up ∧ foldL c.name = foldL b.name)) && !(decide (b.role ≠ []) && pre.any fun c => decide (c.role = b.role))
def okAll : List Bx → List Bx → Int → Bool
  | pre, [], last => true
  | pre, b :: r, last => okStep pre last b && okAll (pre ++ [b]) r b.id
def upOf (l : List Bx) (id : Int) : Option Int := (l.find? fun b => decide (b.id = id)).map (·.up)
/-- How many steps lead to the root, within n. -/
def dep (l : List Bx) : Nat → Int → Option Nat
  | 0, id => if id = 0 then some 0 else none
  | n + 1, id => if id = 0 then some 0 else match upOf l id with
    | none => none
    | some u => (dep l n u).map (· + 1)
def deepB (l : List Bx) (b : Bx) : Bool := match dep l l.length b.id with | some d => decide (d ≤ 8) | none => false
def rightL (l : List Bx) : Bool := decide (l.length ≤ 64) && okAll [] l 0 && l.all (deepB l)
structure RightP (l : List Bx) : Prop where
  len : l.length ≤ 64
  pos : ∀ b ∈ l, 1 ≤ b.id ∧ b.id ≤ 1099511627776
  asc : l.Pairwise fun a b => a.id < b.id
  named : ∀ b ∈ l, namedB b.name = true
  roles : ∀ b ∈ l, b.role ∈ rolesL
  uniq : l.Pairwise fun a b => ¬ (a.up = b.up ∧ foldL a.name = foldL b.name)
  urole : l.Pairwise fun a b => ¬ (b.role ≠ [] ∧ a.role = b.role)
  deep : ∀ b ∈ l, ∃ d, dep l l.length b.id = some d ∧ d ≤ 8
structure StepP (pre : List Bx) (last : Int) (b : Bx) : Prop where
  asc : last < b.id
  max : b.id ≤ 1099511627776
  named : namedB b.name = true
  role : b.role ∈ rolesL
  uniq : ∀ c ∈ pre, ¬ (c.up = b.up ∧ foldL c.name = foldL b.name)
  urole : ∀ c ∈ pre, ¬ (b.role ≠ [] ∧ c.role = b.role)
theorem okStep_iff (pre : List Bx) (last : Int) (b : Bx) : okStep pre last b = true ↔ StepP pre last b := by
  unfold okStep
  simp only [Bool.and_eq_true, decide_eq_true_eq, Bool.not_eq_true', List.any_eq_false, Bool.and_eq_false_iff, decide_eq_false_iff_not]
  constructor
  · rintro ⟨⟨⟨⟨⟨h1, h2⟩, h3⟩, h4⟩, h5⟩, h6⟩
    refine ⟨h1, h2, h3, h4, fun c hc h => h5 c hc (by simpa using h), fun c hc h => ?_⟩
    rcases h6 with h6 | h6
    · exact h6 h.1
    · exact h6 c hc h.2
  · rintro ⟨h1, h2, h3, h4, h5, h6⟩
    refine ⟨⟨⟨⟨⟨h1, h2⟩, h3⟩, h4⟩, fun c hc h => h5 c hc (by simpa using h)⟩, ?_⟩
    by_cases h : b.role = []
    · exact .inl fun e => e h
    · exact .inr fun c hc e => h6 c hc ⟨h, e⟩
/-- What holds of the boxes before, and of each after them. -/
structure AllP (pre r : List Bx) (last : Int) : Prop where
  lo : ∀ b ∈ r, last < b.id
  max : ∀ b ∈ r, b.id ≤ 1099511627776
  asc : r.Pairwise fun a b => a.id < b.id
  named : ∀ b ∈ r, namedB b.name = true
  role : ∀ b ∈ r, b.role ∈ rolesL
  uniq0 : ∀ c ∈ pre, ∀ b ∈ r, ¬ (c.up = b.up ∧ foldL c.name = foldL b.name)
  uniq : r.Pairwise fun a b => ¬ (a.up = b.up ∧ foldL a.name = foldL b.name)
  urole0 : ∀ c ∈ pre, ∀ b ∈ r, ¬ (b.role ≠ [] ∧ c.role = b.role)
  urole : r.Pairwise fun a b => ¬ (b.role ≠ [] ∧ a.role = b.role)
theorem okAll_iff : ∀ (r pre : List Bx) (last : Int), okAll pre r last = true ↔ AllP pre r last
  | [], pre, last => ⟨fun _ => ⟨by simp, by simp, .nil, by simp, by simp, by simp, .nil, by simp, .nil⟩, fun _ => rfl⟩
  | b :: r, pre, last => by
    rw [okAll, Bool.and_eq_true, okStep_iff, okAll_iff r]
    constructor
    · rintro ⟨h, k⟩
      refine ⟨fun c hc => ?_, fun c hc => ?_, List.pairwise_cons.2 ⟨k.lo, k.asc⟩, fun c hc => ?_, fun c hc => ?_, fun c hc d hd => ?_, List.pairwise_cons.2 ⟨fun d hd => k.uniq0 b (by simp) d hd, k.uniq⟩, fun c hc d hd => ?_, List.pairwise_cons.2 ⟨fun d hd => k.urole0 b (by simp) d hd, k.urole⟩⟩
      · rcases List.mem_cons.1 hc with rfl | hc
        · exact h.asc
        · have := k.lo c hc; have := h.asc; omega
      · rcases List.mem_cons.1 hc with rfl | hc
        · exact h.max
        · exact k.max c hc
      · rcases List.mem_cons.1 hc with rfl | hc
        · exact h.named
        · exact k.named c hc
      · rcases List.mem_cons.1 hc with rfl | hc
        · exact h.role
        · exact k.role c hc
      · rcases List.mem_cons.1 hd with rfl | hd
        · exact h.uniq c hc
        · exact k.uniq0 c (by simp [hc]) d hd
      · rcases List.mem_cons.1 hd with rfl | hd
        · exact h.urole c hc
        · exact k.urole0 c (by simp [hc]) d hd
    · intro k
      obtain ⟨a1, a2⟩ := List.pairwise_cons.1 k.asc
      obtain ⟨u1, u2⟩ := List.pairwise_cons.1 k.uniq
      obtain ⟨v1, v2⟩ := List.pairwise_cons.1 k.urole
      have mp : ∀ {p : Bx → Prop} (hp : ∀ c ∈ pre, p c) (hb : p b), ∀ c ∈ pre ++ [b], p c := fun hp hb c hc => by
        rcases List.mem_append.1 hc with hc | hc
        · exact hp c hc
        · rw [List.mem_singleton.1 hc]; exact hb
      exact ⟨⟨k.lo b (by simp), k.max b (by simp), k.named b (by simp), k.role b (by simp), fun c hc => k.uniq0 c hc b (by simp), fun c hc => k.urole0 c hc b (by simp)⟩,
        ⟨a1, fun c hc => k.max c (by simp [hc]), a2, fun c hc => k.named c (by simp [hc]), fun c hc => k.role c (by simp [hc]),
          mp (fun c hc d hd => k.uniq0 c hc d (by simp [hd])) (fun d hd => u1 d hd), u2, mp (fun c hc d hd => k.urole0 c hc d (by simp [hd])) (fun d hd => v1 d hd), v2⟩⟩
theorem deepB_iff (l : List Bx) (b : Bx) : deepB l b = true ↔ ∃ d, dep l l.length b.id = some d ∧ d ≤ 8 := by
  unfold deepB
  cases dep l l.length b.id with
  | none => simp
  | some d => simp
theorem rightL_iff (l : List Bx) : rightL l = true ↔ RightP l := by
  unfold rightL
  rw [Bool.and_eq_true, Bool.and_eq_true, decide_eq_true_eq, okAll_iff, List.all_eq_true]
  constructor
  · rintro ⟨⟨h1, h2⟩, h3⟩
    exact ⟨h1, fun b hb => ⟨by have := h2.lo b hb; omega, h2.max b hb⟩, h2.asc, h2.named, h2.role, h2.uniq, h2.urole, fun b hb => (deepB_iff l b).1 (h3 b hb)⟩
  · intro h
    exact ⟨⟨h.len, fun b hb => by have := (h.pos b hb).1; omega, fun b hb => (h.pos b hb).2, h.asc, h.named, h.roles, by simp, h.uniq, by simp, h.urole⟩, fun b hb => (deepB_iff l b).2 (h.deep b hb)⟩
/-! ### Looking up -/
theorem upOf_mem {l : List Bx} {id u : Int} (h : upOf l id = some u) : ∃ b ∈ l, b.id = id ∧ b.up = u := by
  unfold upOf at h
  cases hf : l.find? fun b => decide (b.id = id) with
  | none => rw [hf] at h; cases h
  | some b =>
    rw [hf] at h
    have h1 := List.find?_some hf
    exact ⟨b, List.mem_of_find?_eq_some hf, by simpa using h1, by simpa using h⟩
theorem upOf_none {l : List Bx} {id : Int} : upOf l id = none ↔ ∀ b ∈ l, b.id ≠ id := by
  unfold upOf
  rw [Option.map_eq_none_iff, List.find?_eq_none]
  simp
theorem upOf_of {l : List Bx} (h : l.Pairwise fun a b => a.id < b.id) {b : Bx} (hb : b ∈ l) : upOf l b.id = some b.up := by
  cases hu : upOf l b.id with
  | none => exact absurd rfl (upOf_none.1 hu b hb)
  | some u =>
    obtain ⟨c, hc, h1, h2⟩ := upOf_mem hu
    have : c = b := by
      obtain ⟨i, hi, rfl⟩ := List.getElem_of_mem hc
      obtain ⟨j, hj, rfl⟩ := List.getElem_of_mem hb
      rw [List.pairwise_iff_getElem] at h
      rcases Nat.lt_trichotomy i j with hij | hij | hij
      · have := h i j hi hj hij; omega
      · subst hij; rfl
      · have := h j i hj hi hij; omega
    rw [← h2, this]
theorem id_inj {l : List Bx} (h : l.Pairwise fun a b => a.id < b.id) {a b : Bx} (ha : a ∈ l) (hb : b ∈ l) (he : a.id = b.id) : a = b := by
  obtain ⟨i, hi, rfl⟩ := List.getElem_of_mem ha
  obtain ⟨j, hj, rfl⟩ := List.getElem_of_mem hb
  rw [List.pairwise_iff_getElem] at h
  rcases Nat.lt_trichotomy i j with hij | hij | hij
  · have := h i j hi hj hij; omega
  · subst hij; rfl
  · have := h j i hj hi hij; omega
theorem dep_more (l : List Bx) : ∀ (n m : Nat) (id : Int) (d : Nat), dep l n id = some d → n ≤ m → dep l m id = some d
  | 0, m, id, d, h, _ => by
    unfold dep at h
    split at h
    · rename_i h0
      cases h
      cases m <;> simp [dep, h0]
    · cases h
  | n + 1, 0, id, d, h, hm => by omega
  | n + 1, m + 1, id, d, h, hm => by
    unfold dep at h ⊢
    split
    · rename_i h0; rw [if_pos h0] at h; exact h
    · rename_i h0
      rw [if_neg h0] at h
      cases hu : upOf l id with
      | none => rw [hu] at h; cases h
      | some u =>
        rw [hu] at h
        dsimp only at h ⊢
        cases hd : dep l n u with
        | none => rw [hd] at h; cases h
        | some e => rw [hd] at h; rw [dep_more l n m u e hd (by omega)]; exact h
theorem dep_le (l : List Bx) : ∀ (n : Nat) (id : Int) (d : Nat), dep l n id = some d → d ≤ n
  | 0, id, d, h => by
    unfold dep at h
    split at h
    · cases h; omega
    · cases h
  | n + 1, id, d, h => by
    unfold dep at h
    split at h
    · cases h; omega
    · cases hu : upOf l id with
      | none => rw [hu] at h; cases h
      | some u =>
        rw [hu] at h
        dsimp only at h
        cases hd : dep l n u with
        | none => rw [hd] at h; cases h
        | some e =>
          rw [hd] at h
          have := dep_le l n u e hd
          simp at h; omega
/-- A depth that is found at all is found within that many steps. -/
theorem dep_least (l : List Bx) : ∀ (n : Nat) (id : Int) (d : Nat), dep l n id = some d → dep l d id = some d
  | 0, id, d, h => by
    have := dep_le l 0 id d h
    obtain rfl : d = 0 := by omega
    exact h
  | n + 1, id, d, h => by
    have h' := h
    unfold dep at h
    split at h
    · rename_i h0; cases h; simp [dep, h0]
    · rename_i h0
      cases hu : upOf l id with
      | none => rw [hu] at h; cases h
      | some u =>
        rw [hu] at h
        dsimp only at h
        cases hd : dep l n u with
        | none => rw [hd] at h; cases h
        | some e =>
          rw [hd] at h
          simp at h
          subst h
          rw [dep, if_neg h0, hu]
          dsimp only
          rw [dep_least l n u e hd]; rfl
end Go.Cs

namespace Go.Cs
open Go.Lib
set_option linter.unusedVariables false
set_option linter.unusedSectionVars false
/-! ### Folding of valid texts, and separators -/
theorem fold_enc (c : Nat) (h : scal c) (t : List UInt8) : foldL (enc c ++ t) = enc (lowC c) ++ foldL t := by
  rw [foldL_step _ (enc_ne c t)]
  unfold head1
  rw [dec_enc c h]
  dsimp only
  rw [if_neg, List.drop_left]
  rintro ⟨rfl, h2⟩
  exact absurd h2 (by decide +kernel)
theorem fold_encs (rs : List Nat) (h : ∀ c ∈ rs, scal c) (t : List UInt8) : foldL (encs rs ++ t) = encs (rs.map lowC) ++ foldL t := by
  induction rs with
  | nil => rfl
  | cons c rs ih => rw [encs_cons, List.append_assoc, fold_enc c (h c (by simp)), ih (fun c hc => h c (by simp [hc])), List.map_cons, encs_cons, List.append_assoc]
theorem fold_app (a b : List UInt8) (h : validD a = true) : foldL (a ++ b) = foldL a ++ foldL b := by
  have he : encs (runes a) = a := repair_of_valid a h
  have h1 := fold_encs (runes a) (runes_scal a) b
  have h2 := fold_encs (runes a) (runes_scal a) []
  rw [he] at h1 h2
  rw [List.append_nil, foldL_nil, List.append_nil] at h2
  rw [h1, h2]
theorem fold_one (b : UInt8) (h : b.toNat < 128) (t : List UInt8) : foldL (b :: t) = UInt8.ofNat (lowC b.toNat) :: foldL t := by
  have hd : decodeL (b :: t) = (b.toNat, 1) := by rw [decodeL_N]; unfold decodeN; rw [List.getD_cons_zero, if_pos h]
  rw [foldL_step _ (by simp)]
  unfold head1
  rw [hd, if_neg (by dsimp only; omega)]
  dsimp only
  have hl : lowC b.toNat < 128 := by
    have : ∀ r : Fin 128, lowC r.val < 128 := by decide +kernel
    exact this ⟨b.toNat, h⟩
  have : enc (lowC b.toNat) = [UInt8.ofNat (lowC b.toNat)] := by
    unfold enc encodeRune
    rw [encodeRuneZ_one (by omega) (by omega)]
    simp only [List.map_cons, List.map_nil, Int.toNat_natCast]
  rw [this]; rfl
theorem fold_sep (t : List UInt8) : foldL (47 :: t) = 47 :: foldL t := fold_one 47 (by decide) t
theorem valid_sep (t : List UInt8) : validD (47 :: t) = validD t := by
  have := valid_enc 47 (.inl (by omega)) t
  have e : enc 47 = [47] := by decide +kernel
  rw [e] at this; exact this
theorem valid_app2 (a b : List UInt8) (h : validD a = true) : validD (a ++ b) = validD b := by
  have he : encs (runes a) = a := repair_of_valid a h
  have h1 := valid_encs (runes a) (runes_scal a) b
  rwa [he] at h1
theorem enc_47 (c : Nat) (h : scal c) (h47 : (47 : UInt8) ∈ enc c) : c = 47 := by
  by_cases h1 : c < 128
  · have : enc c = [UInt8.ofNat c] := by
      unfold enc encodeRune
      rw [encodeRuneZ_one (by omega) (by omega)]
      simp only [List.map_cons, List.map_nil, Int.toNat_natCast]
    rw [this, List.mem_singleton] at h47
    have := congrArg UInt8.toNat h47
    rw [UInt8.toNat_ofNat'] at this
    have e : (47 : UInt8).toNat = 47 := rfl
    omega
  · exfalso
    have key : ∀ x ∈ enc c, 128 ≤ x.toNat := by
      unfold scal at h
      unfold enc encodeRune
      by_cases h2 : c ≤ 2047
      · rw [encodeRuneZ_two (by omega) (by omega)]
        intro x hx
        simp only [List.map_cons, List.map_nil, List.mem_cons, List.not_mem_nil, or_false] at hx
        rcases hx with rfl | rfl <;> (rw [u8n _ (by omega)]; omega)
      by_cases h3 : c ≤ 65535
      · rw [encodeRuneZ_three (by omega)]
        intro x hx
        simp only [List.map_cons, List.map_nil, List.mem_cons, List.not_mem_nil, or_false] at hx
        rcases hx with rfl | rfl | rfl <;> (rw [u8n _ (by omega)]; omega)
      · rw [encodeRuneZ_four (by omega) (by omega)]
        intro x hx
        simp only [List.map_cons, List.map_nil, List.mem_cons, List.not_mem_nil, or_false] at hx
        rcases hx with rfl | rfl | rfl | rfl <;> (rw [u8n _ (by omega)]; omega)
    have := key 47 h47
    have e : (47 : UInt8).toNat = 47 := rfl
    omega
theorem low_47 (c : Nat) (h : lowC c = 47) : c = 47 := by
  by_cases h' : c < 1104
  · have : ∀ r : Fin 1104, lowC r.val = 47 → r.val = 47 := by decide +kernel
    exact this ⟨c, h'⟩ h
  · rw [low_big c (by omega)] at h; omega
theorem fold_no47 (a : List UInt8) (h : validD a = true) (hn : ¬ (47 : UInt8) ∈ a) : ¬ (47 : UInt8) ∈ foldL a := by
  have he : encs (runes a) = a := repair_of_valid a h
  have h2 := fold_encs (runes a) (runes_scal a) []
  rw [he, List.append_nil, foldL_nil, List.append_nil] at h2
  rw [h2]
  intro hm
  unfold encs at hm
  obtain ⟨c', hc', hm⟩ := List.mem_flatMap.1 hm
  obtain ⟨c, hc, rfl⟩ := List.mem_map.1 hc'
  have h1 := low_47 c (enc_47 _ (low_scal c (runes_scal a c hc)) hm)
  subst h1
  refine hn ?_
  rw [← he]
  unfold encs
  exact List.mem_flatMap.2 ⟨47, hc, by decide +kernel⟩
/-! ### Joining and splitting at '/' -/
def joinS : List (List UInt8) → List UInt8
  | [] => []
  | [x] => x
  | x :: y :: r => x ++ 47 :: joinS (y :: r)
/-- The pieces of a text between its '/'s. -/
def splitS : List UInt8 → List (List UInt8)
  | [] => [[]]
  | b :: t => if b = 47 then [] :: splitS t else match splitS t with
    | [] => [[b]]
    | x :: r => (b :: x) :: r
theorem splitS_ne (t : List UInt8) : splitS t ≠ [] := by
  cases t with
  | nil => simp [splitS]
  | cons b t =>
    unfold splitS
    split
    · simp
    · split <;> simp
theorem splitS_app (a : List UInt8) (h : ¬ (47 : UInt8) ∈ a) (t : List UInt8) : splitS (a ++ 47 :: t) = a :: splitS t := by
  induction a with
  | nil => simp [splitS]
  | cons b a ih =>
    have hb : ¬ b = 47 := fun e => h (by simp [e])
    rw [List.cons_append, splitS, if_neg hb, ih fun e => h (by simp [e])]
theorem splitS_one (a : List UInt8) (h : ¬ (47 : UInt8) ∈ a) : splitS a = [a] := by
  induction a with
  | nil => rfl
  | cons b a ih =>
    have hb : ¬ b = 47 := fun e => h (by simp [e])
    rw [splitS, if_neg hb, ih fun e => h (by simp [e])]
theorem split_join : ∀ (l : List (List UInt8)), l ≠ [] → (∀ x ∈ l, ¬ (47 : UInt8) ∈ x) → splitS (joinS l) = l
  | [], h, _ => absurd rfl h
  | [x], _, h => splitS_one x (h x (by simp))
  | x :: y :: r, _, h => by
    rw [joinS, splitS_app x (h x (by simp)), split_join (y :: r) (by simp) fun z hz => h z (by simp [hz])]
theorem join_split (t : List UInt8) : joinS (splitS t) = t := by
  induction t with
  | nil => rfl
  | cons b t ih =>
    unfold splitS
    by_cases hb : b = 47
    · rw [if_pos hb]
      obtain ⟨x, r, hx⟩ := List.exists_cons_of_ne_nil (splitS_ne t)
      rw [hx] at ih ⊢
      rw [joinS, ih, hb]; rfl
    · rw [if_neg hb]
      obtain ⟨x, r, hx⟩ := List.exists_cons_of_ne_nil (splitS_ne t)
      rw [hx] at ih ⊢
      dsimp only
      cases r with
      | nil => simp only [joinS] at ih ⊢; rw [ih]
      | cons y r => simp only [joinS] at ih ⊢; rw [List.cons_append, ih]
theorem join_snoc : ∀ (l : List (List UInt8)) (x : List UInt8), l ≠ [] → joinS (l ++ [x]) = joinS l ++ 47 :: x
  | [], x, h => absurd rfl h
  | [y], x, _ => rfl
  | y :: z :: r, x, _ => by
    have := join_snoc (z :: r) x (by simp)
    rw [List.cons_append, List.cons_append, joinS, ← List.cons_append, this, joinS, List.append_assoc]; rfl
theorem join_ne : ∀ (l : List (List UInt8)), l ≠ [] → (∀ x ∈ l, x ≠ []) → joinS l ≠ []
  | [], h, _ => absurd rfl h
  | [x], _, h => h x (by simp)
  | x :: y :: r, _, h => by simp [joinS]
theorem join_valid : ∀ (l : List (List UInt8)), (∀ x ∈ l, validD x = true) → validD (joinS l) = true
  | [], _ => rfl
  | [x], h => h x (by simp)
  | x :: y :: r, h => by
    rw [joinS, valid_app2 x _ (h x (by simp)), valid_sep, join_valid (y :: r) fun z hz => h z (by simp [hz])]
theorem fold_join : ∀ (l : List (List UInt8)), (∀ x ∈ l, validD x = true) → foldL (joinS l) = joinS (l.map foldL)
  | [], _ => rfl
  | [x], _ => rfl
  | x :: y :: r, h => by
    rw [joinS, fold_app x _ (h x (by simp)), fold_sep, fold_join (y :: r) fun z hz => h z (by simp [hz])]; rfl
/-! ### Names -/
theorem named_iff (s : List UInt8) : namedB s = true ↔ 1 ≤ s.length ∧ s.length ≤ 100 ∧ validD s = true ∧ ∀ b ∈ s, fineB b = true := by
  unfold namedB
  simp only [Bool.and_eq_true, decide_eq_true_eq, List.all_eq_true, and_assoc]
theorem named_ne {s : List UInt8} (h : namedB s = true) : s ≠ [] := fun e => by
  have := ((named_iff s).1 h).1
  rw [e] at this; simp at this
theorem named_no47 {s : List UInt8} (h : namedB s = true) : ¬ (47 : UInt8) ∈ s := fun e => by
  have := ((named_iff s).1 h).2.2.2 47 e
  revert this; decide
theorem named_valid {s : List UInt8} (h : namedB s = true) : validD s = true := ((named_iff s).1 h).2.2.1
/-! ### Chains to the root -/
/-- The boxes from one up to the root's child. -/
def boxOf (l : List Bx) (id : Int) : Option Bx := l.find? fun b => decide (b.id = id)
theorem boxOf_up (l : List Bx) (id : Int) : upOf l id = (boxOf l id).map (·.up) := rfl
theorem boxOf_mem {l : List Bx} {id : Int} {b : Bx} (h : boxOf l id = some b) : b ∈ l ∧ b.id = id :=
  ⟨List.mem_of_find?_eq_some h, by simpa using List.find?_some h⟩
theorem boxOf_none {l : List Bx} {id : Int} : boxOf l id = none ↔ ∀ b ∈ l, b.id ≠ id := by
  unfold boxOf
  rw [List.find?_eq_none]
  simp
theorem boxOf_of {l : List Bx} (h : l.Pairwise fun a b => a.id < b.id) {b : Bx} (hb : b ∈ l) : boxOf l b.id = some b := by
  cases hu : boxOf l b.id with
  | none => exact absurd rfl (boxOf_none.1 hu b hb)
  | some c =>
    obtain ⟨h1, h2⟩ := boxOf_mem hu
    rw [id_inj h h1 hb h2]
def chain (l : List Bx) : Nat → Int → List Bx
  | 0, _ => []
  | n + 1, id => match boxOf l id with
    | none => []
    | some b => b :: chain l n b.up
/-- The path of a mailbox, and '' if there is none. -/
def fullN (l : List Bx) : Nat → Int → List UInt8
  | 0, _ => []
  | n + 1, id => match boxOf l id with
    | none => []
    | some b => if fullN l n b.up ≠ [] then fullN l n b.up ++ 47 :: b.name else b.name
def fullL (l : List Bx) (id : Int) : List UInt8 := if rightL l then fullN l l.length id else []
def roleOf (l : List Bx) (r : List UInt8) : Option Int := if r = [] then none else (l.find? fun b => decide (b.role = r)).map (·.id)
/-- A child by its folded name. -/
def kid (l : List Bx) (up : Int) (nm : List UInt8) : Option Int := (l.find? fun b => decide (b.up = up ∧ foldL b.name = nm)).map (·.id)
def walkP (l : List Bx) : Int → List (List UInt8) → Option Int
  | id, [] => some id
  | id, x :: r => match kid l id x with
    | none => none
    | some j => walkP l j r
def pathL (l : List Bx) (path : List UInt8) : Option Int := if rightL l then walkP l 0 (splitS (foldL path)) else none
section
variable {l : List Bx} (hr : RightP l)
include hr
theorem zero_no : boxOf l 0 = none := boxOf_none.2 fun b hb => by have := (hr.pos b hb).1; omega
theorem up_cases {b : Bx} (hb : b ∈ l) : b.up = 0 ∨ ∃ c ∈ l, c.id = b.up := by
  obtain ⟨d, hd, _⟩ := hr.deep b hb
  have hb1 := (hr.pos b hb).1
  cases hn : l.length with
  | zero => rw [List.eq_nil_of_length_eq_zero hn] at hb; cases hb
  | succ n =>
    rw [hn, dep, if_neg (by omega), upOf_of hr.asc hb] at hd
    dsimp only at hd
    by_cases h0 : b.up = 0
    · exact .inl h0
    · right
      cases hn2 : dep l n b.up with
      | none => rw [hn2] at hd; cases hd
      | some e =>
        cases n with
        | zero => rw [dep, if_neg h0] at hn2; cases hn2
        | succ n =>
          rw [dep, if_neg h0] at hn2
          cases hu : upOf l b.up with
          | none => rw [hu] at hn2; cases hn2
          | some u =>
            obtain ⟨c, h1, h2, _⟩ := upOf_mem hu
            exact ⟨c, h1, h2⟩
/-- Depth: of the box, one more than of its parent. -/
theorem deep_box {b : Bx} (hb : b ∈ l) : ∃ d, d + 1 ≤ 8 ∧ d + 1 ≤ l.length ∧ dep l (d + 1) b.id = some (d + 1) ∧ dep l d b.up = some d := by
  obtain ⟨d, hd, h8⟩ := hr.deep b hb
  have hb1 := (hr.pos b hb).1
  have hle := dep_le _ _ _ _ hd
  have hd := dep_least _ _ _ _ hd
  cases d with
  | zero => rw [dep, if_neg (by omega)] at hd; cases hd
  | succ d =>
    refine ⟨d, h8, hle, hd, ?_⟩
    rw [dep, if_neg (by omega), upOf_of hr.asc hb] at hd
    dsimp only at hd
    cases hn2 : dep l d b.up with
    | none => rw [hn2] at hd; cases hd
    | some e => rw [hn2] at hd; simp at hd; rw [hd]
theorem dep_up0 {u : Int} {d : Nat} (h : dep l d u = some d) : (u = 0 ∧ d = 0) ∨ (u ≠ 0 ∧ ∃ b ∈ l, b.id = u ∧ ∃ e, d = e + 1 ∧ dep l e b.up = some e) := by
  cases d with
  | zero =>
    left
    unfold dep at h
    split at h
    · rename_i h0; exact ⟨h0, rfl⟩
    · cases h
  | succ d =>
    right
    by_cases h0 : u = 0
    · rw [dep, if_pos h0] at h; cases h
    · rw [dep, if_neg h0] at h
      cases hu : upOf l u with
      | none => rw [hu] at h; cases h
      | some v =>
        obtain ⟨c, h1, h2, h3⟩ := upOf_mem hu
        rw [hu] at h
        dsimp only at h
        refine ⟨h0, c, h1, h2, d, rfl, ?_⟩
        rw [h3]
        cases hn2 : dep l d v with
        | none => rw [hn2] at h; cases h
        | some e => rw [hn2] at h; simp at h; rw [h]
end
end Go.Cs

namespace Go.Cs
open Go.Lib
set_option linter.unusedVariables false
set_option linter.unusedSectionVars false
/-! ### Paths -/
def namesN (l : List Bx) : Nat → Int → List (List UInt8)
  | 0, _ => []
  | n + 1, id => match boxOf l id with
    | none => []
    | some b => namesN l n b.up ++ [b.name]
def names (l : List Bx) (id : Int) : List (List UInt8) := namesN l l.length id
theorem walk_app (l : List Bx) : ∀ (xs ys : List (List UInt8)) (id : Int), walkP l id (xs ++ ys) = (walkP l id xs).bind fun j => walkP l j ys
  | [], ys, id => rfl
  | x :: r, ys, id => by
    rw [List.cons_append, walkP, walkP]
    cases kid l id x with
    | none => rfl
    | some j => exact walk_app l r ys j
theorem names_mem (l : List Bx) : ∀ (n : Nat) (id : Int), ∀ x ∈ namesN l n id, ∃ b ∈ l, b.name = x
  | 0, id, x, h => by simp [namesN] at h
  | n + 1, id, x, h => by
    unfold namesN at h
    cases hb : boxOf l id with
    | none => rw [hb] at h; simp at h
    | some b =>
      rw [hb] at h
      rcases List.mem_append.1 h with h | h
      · exact names_mem l n b.up x h
      · exact ⟨b, (boxOf_mem hb).1, (List.mem_singleton.1 h).symm⟩
section
variable {l : List Bx} (hr : RightP l)
include hr
theorem names_zero (n : Nat) : namesN l n 0 = [] := by
  cases n with
  | zero => rfl
  | succ n => rw [namesN, zero_no hr]
theorem full_join (n : Nat) : ∀ (id : Int), fullN l n id = joinS (namesN l n id) := by
  induction n with
  | zero => intro id; rfl
  | succ n ih =>
    intro id
    unfold fullN namesN
    cases hb : boxOf l id with
    | none => rfl
    | some b =>
      dsimp only
      rw [ih b.up]
      by_cases hn : namesN l n b.up = []
      · rw [hn]; simp [joinS]
      · rw [if_pos (join_ne _ hn fun x hx => by
          obtain ⟨c, hc, rfl⟩ := names_mem l n b.up x hx
          exact named_ne (hr.named c hc)), join_snoc _ _ hn]
theorem names_more : ∀ (d : Nat) (id : Int), dep l d id = some d → ∀ n, d ≤ n → namesN l n id = namesN l d id
  | 0, id, h, n, hn => by
    rcases dep_up0 hr h with ⟨rfl, _⟩ | ⟨_, _, _, _, e, he, _⟩
    · rw [names_zero hr, names_zero hr]
    · omega
  | d + 1, id, h, n, hn => by
    rcases dep_up0 hr h with ⟨_, h0⟩ | ⟨h0, b, hb, rfl, e, he, hd⟩
    · omega
    · obtain rfl : d = e := by omega
      obtain ⟨n, rfl⟩ : ∃ m, n = m + 1 := ⟨n - 1, by omega⟩
      rw [namesN, namesN, boxOf_of hr.asc hb]
      dsimp only
      rw [names_more d b.up hd n (by omega)]
theorem names_box {b : Bx} (hb : b ∈ l) : names l b.id = names l b.up ++ [b.name] := by
  obtain ⟨d, h1, h2, h3, h4⟩ := deep_box hr hb
  unfold names
  rw [names_more hr _ _ h3 _ h2, names_more hr _ _ h4 _ (by omega), namesN, boxOf_of hr.asc hb]
theorem names_root : names l 0 = [] := names_zero hr _
theorem names_len {d : Nat} {u : Int} (h : dep l d u = some d) (hd : d ≤ l.length) : (names l u).length = d := by
  unfold names
  rw [names_more hr d u h _ hd]
  have key : ∀ (d : Nat) (u : Int), dep l d u = some d → (namesN l d u).length = d := by
    intro d
    induction d with
    | zero => intro u _; rfl
    | succ d ih =>
      intro u h
      rcases dep_up0 hr h with ⟨_, h0⟩ | ⟨h0, b, hb, rfl, e, he, hd⟩
      · omega
      · obtain rfl : d = e := by omega
        rw [namesN, boxOf_of hr.asc hb]
        dsimp only
        rw [List.length_append, ih _ hd]; rfl
  exact key d u h
theorem full_names (id : Int) : fullN l l.length id = joinS (names l id) := full_join hr _ _
theorem names_all (id : Int) : ∀ x ∈ names l id, namedB x = true := fun x hx => by
  obtain ⟨c, hc, rfl⟩ := names_mem l _ id x hx
  exact hr.named c hc
theorem uniq_eq {a b : Bx} (ha : a ∈ l) (hb : b ∈ l) (hu : a.up = b.up) (hn : foldL a.name = foldL b.name) : a = b := by
  obtain ⟨i, hi, rfl⟩ := List.getElem_of_mem ha
  obtain ⟨j, hj, rfl⟩ := List.getElem_of_mem hb
  have h := hr.uniq
  rw [List.pairwise_iff_getElem] at h
  rcases Nat.lt_trichotomy i j with hij | hij | hij
  · exact absurd ⟨hu, hn⟩ (h i j hi hj hij)
  · subst hij; rfl
  · exact absurd ⟨hu.symm, hn.symm⟩ (h j i hj hi hij)
theorem kid_of {b : Bx} (hb : b ∈ l) : kid l b.up (foldL b.name) = some b.id := by
  unfold kid
  cases hf : l.find? fun c => decide (c.up = b.up ∧ foldL c.name = foldL b.name) with
  | none =>
    rw [List.find?_eq_none] at hf
    exact absurd (by simp) (hf b hb)
  | some c =>
    have h1 := List.find?_some hf
    have h2 := List.mem_of_find?_eq_some hf
    simp only [decide_eq_true_eq] at h1
    rw [uniq_eq hr h2 hb h1.1 h1.2]; rfl
theorem kid_some {u j : Int} {nm : List UInt8} (h : kid l u nm = some j) : ∃ b ∈ l, b.up = u ∧ foldL b.name = nm ∧ b.id = j := by
  unfold kid at h
  cases hf : l.find? fun c => decide (c.up = u ∧ foldL c.name = nm) with
  | none => rw [hf] at h; cases h
  | some c =>
    rw [hf] at h
    have h1 := List.find?_some hf
    simp only [decide_eq_true_eq] at h1
    exact ⟨c, List.mem_of_find?_eq_some hf, h1.1, h1.2, by simpa using h⟩
theorem walk_names : ∀ (d : Nat) (u : Int), dep l d u = some d → walkP l 0 ((namesN l d u).map foldL) = some u
  | 0, u, h => by
    rcases dep_up0 hr h with ⟨rfl, _⟩ | ⟨_, _, _, _, e, he, _⟩
    · rfl
    · omega
  | d + 1, u, h => by
    rcases dep_up0 hr h with ⟨_, h0⟩ | ⟨h0, b, hb, rfl, e, he, hd⟩
    · omega
    · obtain rfl : d = e := by omega
      rw [namesN, boxOf_of hr.asc hb]
      dsimp only
      rw [List.map_append, walk_app, walk_names d b.up hd]
      simp only [Option.bind_some, List.map_cons, List.map_nil, walkP, kid_of hr hb]
theorem walk_box {b : Bx} (hb : b ∈ l) : walkP l 0 ((names l b.id).map foldL) = some b.id := by
  obtain ⟨d, h1, h2, h3, h4⟩ := deep_box hr hb
  unfold names
  rw [names_more hr _ _ h3 _ h2]
  exact walk_names hr _ _ h3
theorem walk_back (parts : List (List UInt8)) : ∀ (n : Nat) (parts : List (List UInt8)) (id : Int), parts.length = n → walkP l 0 parts = some id → parts = (names l id).map foldL ∧ (n ≠ 0 → ∃ b ∈ l, b.id = id) := by
  intro n
  induction n with
  | zero =>
    intro parts id hl h
    obtain rfl : parts = [] := List.eq_nil_of_length_eq_zero hl
    obtain rfl : (0 : Int) = id := Option.some.inj h
    rw [names_root hr]
    exact ⟨rfl, fun h => absurd rfl h⟩
  | succ n ih =>
    intro parts id hl h
    have hne : parts ≠ [] := fun e => by rw [e] at hl; simp at hl
    have hp := List.dropLast_concat_getLast hne
    rw [← hp, walk_app] at h
    cases hw : walkP l 0 parts.dropLast with
    | none => rw [hw] at h; cases h
    | some u =>
      rw [hw] at h
      simp only [Option.bind_some, walkP] at h
      cases hk : kid l u (parts.getLast hne) with
      | none => rw [hk] at h; cases h
      | some j =>
        rw [hk] at h
        obtain rfl : j = id := Option.some.inj h
        obtain ⟨b, hb, rfl, hn, rfl⟩ := kid_some hr hk
        obtain ⟨h1, _⟩ := ih parts.dropLast _ (by rw [List.length_dropLast]; omega) hw
        refine ⟨?_, fun _ => ⟨b, hb, rfl⟩⟩
        rw [names_box hr hb, List.map_append, ← h1, ← hp]
        simp [hn]
theorem names_ne {b : Bx} (hb : b ∈ l) : names l b.id ≠ [] := by rw [names_box hr hb]; simp
/-- The path of a box, as folded. -/
theorem fold_full (id : Int) : foldL (joinS (names l id)) = joinS ((names l id).map foldL) := fold_join _ fun x hx => named_valid (names_all hr id x hx)
theorem split_full {b : Bx} (hb : b ∈ l) : splitS (joinS ((names l b.id).map foldL)) = (names l b.id).map foldL :=
  split_join _ (by simpa using names_ne hr hb) fun x hx => by
    obtain ⟨y, hy, rfl⟩ := List.mem_map.1 hx
    have := names_all hr b.id y hy
    exact fold_no47 y (named_valid this) (named_no47 this)
theorem path_iff (p : List UInt8) (id : Int) : walkP l 0 (splitS (foldL p)) = some id ↔ ∃ b ∈ l, b.id = id ∧ foldL (fullN l l.length id) = foldL p := by
  rw [full_names hr]
  constructor
  · intro h
    obtain ⟨h1, h2⟩ := walk_back hr [] (splitS (foldL p)).length (splitS (foldL p)) id rfl h
    obtain ⟨b, hb, rfl⟩ := h2 fun e => splitS_ne (foldL p) (List.eq_nil_of_length_eq_zero e)
    refine ⟨b, hb, rfl, ?_⟩
    rw [fold_full hr, ← h1, join_split]
  · rintro ⟨b, hb, rfl, h⟩
    rw [← h, fold_full hr, split_full hr hb, walk_box hr hb]
theorem full_ne {b : Bx} (hb : b ∈ l) : fullN l l.length b.id ≠ [] := by
  rw [full_names hr]
  exact join_ne _ (names_ne hr hb) fun x hx => named_ne (names_all hr _ x hx)
theorem full_none {id : Int} (h : ∀ b ∈ l, b.id ≠ id) : fullN l l.length id = [] := by
  cases l.length with
  | zero => rfl
  | succ n => rw [fullN, boxOf_none.2 h]
/-- Two boxes whose paths fold alike are one. -/
theorem full_inj {a b : Bx} (ha : a ∈ l) (hb : b ∈ l) (h : foldL (fullN l l.length a.id) = foldL (fullN l l.length b.id)) : a = b := by
  have h1 := (path_iff hr (fullN l l.length a.id) a.id).2 ⟨a, ha, rfl, rfl⟩
  have h2 := (path_iff hr (fullN l l.length a.id) b.id).2 ⟨b, hb, rfl, h.symm⟩
  exact id_inj hr.asc ha hb (Option.some.inj (h1.symm.trans h2))
end
/-- The reference's look-up by path. -/
def pathR (l : List Bx) (p : List UInt8) : Option Int := (l.find? fun b => decide (fullL l b.id ≠ [] ∧ foldL (fullL l b.id) = foldL p)).map (·.id)
theorem path_ref (l : List Bx) (p : List UInt8) : pathR l p = pathL l p := by
  unfold pathL
  by_cases h : rightL l = true
  · rw [if_pos h]
    have hr := (rightL_iff l).1 h
    have hf : ∀ id, fullL l id = fullN l l.length id := fun id => by unfold fullL; rw [if_pos h]
    unfold pathR
    cases hf2 : l.find? fun b => decide (fullL l b.id ≠ [] ∧ foldL (fullL l b.id) = foldL p) with
    | none =>
      rw [List.find?_eq_none] at hf2
      cases hw : walkP l 0 (splitS (foldL p)) with
      | none => rfl
      | some id =>
        obtain ⟨b, hb, rfl, h2⟩ := (path_iff hr p id).1 hw
        exact absurd (decide_eq_true ⟨by rw [hf]; exact full_ne hr hb, by rw [hf]; exact h2⟩) (hf2 b hb)
    | some b =>
      have h1 := List.find?_some hf2
      have h2 := List.mem_of_find?_eq_some hf2
      simp only [decide_eq_true_eq] at h1
      rw [hf] at h1
      rw [(path_iff hr p b.id).2 ⟨b, h2, rfl, h1.2⟩]; rfl
  · rw [if_neg h]
    unfold pathR
    rw [Option.map_eq_none_iff, List.find?_eq_none]
    intro b hb
    simp [fullL, h]
end Go.Cs
