/- Helper text of this claim: Bx11, Bx12, Bq1, Bq2: lemmas and contracts that the proved statement rests on; no conditions of its own. -/
import Derived.Test.YtdghfagipheabaaDoorGOpn
import Derived.Test.YtdghfagipheabaaDoorGBx9
import Derived.Test.YtdghfagipheabaaDoorGBl3
namespace Go.Cs
open Go.Lib
set_option linter.unusedVariables false
/-! ### The reference's look-ups, plain -/
def findN (l : List Bx) (id : Int) : Nat := (l.takeWhile fun b => decide (b.id ≠ id)).length
def findV (l : List Bx) (id : Int) : Int := if findN l id < l.length then (findN l id : Int) else -1
theorem findN_cons (b : Bx) (l : List Bx) (id : Int) : findN (b :: l) id = if b.id = id then 0 else findN l id + 1 := by
  unfold findN
  by_cases h : b.id = id
  · rw [if_pos h, List.takeWhile_cons_of_neg (by simpa using h)]; rfl
  · rw [if_neg h, List.takeWhile_cons_of_pos (by simpa using h)]; rfl
theorem findN_at : ∀ {l : List Bx} {id : Int} {i : Nat} (hi : i < l.length), (∀ b ∈ l.take i, b.id ≠ id) → l[i].id = id → findN l id = i
  | b :: l, id, 0, hi, _, e => by
    have e : b.id = id := e
    rw [findN_cons, if_pos e]
  | b :: l, id, i + 1, hi, h, e => by
    rw [findN_cons, if_neg (h b (by simp)), findN_at (by simpa using hi) (fun c hc => h c (by simp [hc])) (by simpa using e)]
theorem findN_end : ∀ {l : List Bx} {id : Int}, (∀ b ∈ l, b.id ≠ id) → findN l id = l.length
  | [], id, _ => rfl
  | b :: l, id, h => by rw [findN_cons, if_neg (h b (by simp)), findN_end fun c hc => h c (by simp [hc]), List.length_cons]
theorem boxOf_find : ∀ (l : List Bx) (id : Int), boxOf l id = l[findN l id]?
  | [], id => rfl
  | b :: l, id => by
    rw [findN_cons]
    unfold boxOf
    by_cases h : b.id = id
    · rw [if_pos h, List.find?_cons_of_pos (by simpa using h)]; rfl
    · rw [if_neg h, List.find?_cons_of_neg (by simpa using h), List.getElem?_cons_succ]
      exact boxOf_find l id
theorem findN_le (l : List Bx) (id : Int) : findN l id ≤ l.length := (List.takeWhile_prefix _).length_le
theorem find_neg {l : List Bx} {id : Int} : findV l id < 0 ↔ boxOf l id = none := by
  rw [boxOf_find, List.getElem?_eq_none_iff]
  unfold findV
  split <;> omega
theorem find_nat {l : List Bx} {id : Int} {b : Bx} (h : boxOf l id = some b) : ∃ hk : findN l id < l.length, l[findN l id] = b ∧ findV l id = (findN l id : Nat) := by
  rw [boxOf_find] at h
  obtain ⟨h1, h2⟩ := List.getElem?_eq_some_iff.1 h
  exact ⟨h1, h2, by unfold findV; rw [if_pos h1]⟩
def deepR (l : List Bx) (id : Int) : Nat := (dep l l.length id).getD 1000
def deepAt (l : List Bx) (id : Int) (n : Nat) : Nat := if n ≤ l.length then (match dep l (l.length - n) id with | some d => d + n | none => 1000) else 1000
theorem deepAt_zero (l : List Bx) (id : Int) : deepAt l id 0 = deepR l id := by
  unfold deepAt deepR
  rw [if_pos (Nat.zero_le _), Nat.sub_zero]
  cases dep l l.length id <;> rfl
theorem deepAt_root (l : List Bx) (n : Nat) (hn : n ≤ l.length) : deepAt l 0 n = n := by
  unfold deepAt
  rw [if_pos hn]
  have : ∀ m, dep l m 0 = some 0 := fun m => by cases m <;> simp [dep]
  rw [this]; simp
theorem deepAt_none {l : List Bx} {id : Int} (n : Nat) (h0 : id ≠ 0) (h : boxOf l id = none) : deepAt l id n = 1000 := by
  unfold deepAt
  split
  · have : dep l (l.length - n) id = none := by
      cases l.length - n with
      | zero => simp [dep, h0]
      | succ m => simp [dep, h0, boxOf_up, h]
    rw [this]
  · rfl
theorem deepAt_step {l : List Bx} {id : Int} {b : Bx} (n : Nat) (h0 : id ≠ 0) (h : boxOf l id = some b) (hn : n ≤ l.length) : deepAt l id n = deepAt l b.up (n + 1) := by
  unfold deepAt
  rw [if_pos hn]
  by_cases h1 : n + 1 ≤ l.length
  · rw [if_pos h1, show l.length - n = (l.length - (n + 1)) + 1 by omega]
    rw [dep, if_neg h0, boxOf_up, h]
    dsimp only [Option.map_some]
    cases dep l (l.length - (n + 1)) b.up with
    | none => rfl
    | some d => show d + 1 + n = d + (n + 1); omega
  · rw [if_neg h1, show l.length - n = 0 by omega]
    simp [dep, h0]
theorem deepAt_end (l : List Bx) (id : Int) : deepAt l id (l.length + 1) = 1000 := by unfold deepAt; rw [if_neg (by omega)]
theorem deepR_le {l : List Bx} {id : Int} : deepR l id ≤ 8 ↔ ∃ d, dep l l.length id = some d ∧ d ≤ 8 := by
  unfold deepR
  cases dep l l.length id with
  | none => simp
  | some d => simp
theorem deepR_of {l : List Bx} {id : Int} {d : Nat} (h : Dep l d id) : deepR l id = d := by
  unfold deepR
  rw [(dep_iff _ _ _ _).2 ⟨h, h.len⟩]; rfl
theorem deepR_bd (l : List Bx) (id : Int) : deepR l id ≤ l.length + 1000 := by
  unfold deepR
  cases h : dep l l.length id with
  | none => simp
  | some d => have := dep_le _ _ _ _ h; simp only [Option.getD_some]; omega
/-! ### What the reference asks of each mailbox -/
structure OkR (l : List Bx) (i : Nat) (b : Bx) : Prop where
  named : namedB b.name = true
  role : b.role ∈ rolesL
  pos : 1 ≤ b.id ∧ b.id ≤ 1099511627776
  asc : ∀ c, 0 < i → l[i - 1]? = some c → c.id < b.id
  deep : deepR l b.id ≤ 8
  free : ∀ k c, k < i → l[k]? = some c → ¬ (c.role = b.role ∧ b.role ≠ []) ∧ ¬ (c.up = b.up ∧ foldL c.name = foldL b.name)
theorem right_ref (l : List Bx) : rightL l = true ↔ l.length ≤ 64 ∧ ∀ i (hi : i < l.length), OkR l i l[i] := by
  rw [rightL_iff]
  constructor
  · intro h
    refine ⟨h.len, fun i hi => ⟨h.named _ (List.getElem_mem hi), h.roles _ (List.getElem_mem hi), h.pos _ (List.getElem_mem hi), fun c h0 hc => ?_, deepR_le.2 (h.deep _ (List.getElem_mem hi)), fun k c hk hc => ?_⟩⟩
    · obtain ⟨h1, rfl⟩ := List.getElem?_eq_some_iff.1 hc
      exact List.pairwise_iff_getElem.1 h.asc _ _ h1 hi (by omega)
    · obtain ⟨h1, rfl⟩ := List.getElem?_eq_some_iff.1 hc
      refine ⟨fun e => List.pairwise_iff_getElem.1 h.urole _ _ h1 hi hk ⟨e.2, e.1⟩, List.pairwise_iff_getElem.1 h.uniq _ _ h1 hi hk⟩
  · rintro ⟨h64, h⟩
    have hall : ∀ {p : Bx → Prop}, (∀ i (hi : i < l.length), p l[i]) → ∀ b ∈ l, p b := fun hp b hb => by
      obtain ⟨i, hi, rfl⟩ := List.getElem_of_mem hb
      exact hp i hi
    have hasc : ∀ (d i : Nat) (hi : i + d + 1 < l.length), l[i].id < l[i + d + 1].id := by
      intro d
      induction d with
      | zero => intro i hi; exact (h (i + 1) hi).asc l[i] (by omega) (by rw [Nat.add_sub_cancel]; exact List.getElem?_eq_getElem (by omega))
      | succ d ih =>
        intro i hi
        have h1 := ih i (by omega)
        have h2 := (h (i + (d + 1) + 1) hi).asc l[i + d + 1] (by omega) (by rw [Nat.add_sub_cancel]; exact List.getElem?_eq_getElem (by omega))
        omega
    refine ⟨h64, hall fun i hi => (h i hi).pos, List.pairwise_iff_getElem.2 fun i j hi hj hij => ?_, hall fun i hi => (h i hi).named, hall fun i hi => (h i hi).role, List.pairwise_iff_getElem.2 fun i j hi hj hij => ((h j hj).free i _ hij (List.getElem?_eq_getElem hi)).2,
      List.pairwise_iff_getElem.2 fun i j hi hj hij e => ((h j hj).free i _ hij (List.getElem?_eq_getElem hi)).1 ⟨e.2, e.1⟩, hall fun i hi => deepR_le.1 (h i hi).deep⟩
    have := hasc (j - i - 1) i (by omega)
    simpa [show i + (j - i - 1) + 1 = j by omega] using this
/-! ### Paths, from their end -/
theorem join_pre : ∀ (a b : List (List UInt8)), b ≠ [] → (joinS b).length ≤ (joinS (a ++ b)).length
  | [], b, _ => Nat.le_refl _
  | x :: a, b, hb => by
    have h := join_pre a b hb
    cases hab : a ++ b with
    | nil => simp at hab; exact absurd hab.2 hb
    | cons y r =>
      rw [hab] at h
      rw [List.cons_append, hab, joinS, List.length_append, List.length_cons]; omega
theorem role_some (l : List Bx) (r : List UInt8) : (roleOf l r).isSome = decide (r ≠ [] ∧ (l.any fun b => decide (b.role = r)) = true) := by
  unfold roleOf
  by_cases h : r = []
  · simp [h]
  · rw [if_neg h, Option.isSome_map, Bool.eq_iff_iff, List.find?_isSome, decide_eq_true_eq, List.any_eq_true]
    exact ⟨fun h2 => ⟨h, h2⟩, fun h2 => h2.2⟩
end Go.Cs

namespace Go.Cs
open Go.Lib
set_option linter.unusedVariables false
/-! ### Depths as the reference checks them -/
theorem dpt_ref {l : List Bx} (hr : RightP l) {up : Int} (hup : up = 0 ∨ hasId l up = true) : deepR l up = dpt l up := by
  have h := (dep_up hr (up := up) (hup.imp id fun h => (hasId_iff _ _).1 h)).1
  rw [deepR_of h]
theorem deep_moved {l : List Bx} (hr : RightP l) {x : Bx} (hx : x ∈ l) {up : Int} (hup : up = 0 ∨ hasId l up = true) (hn : ¬ Reach l x.id up) :
    8 < dpt l up + belowL l x.id ↔ ∃ b ∈ setUp l x.id up, 8 < deepR (setUp l x.id up) b.id := by
  have h := move_deep hr hx (hup.imp id fun h => (hasId_iff _ _).1 h) hn
  constructor
  · intro h8
    refine Classical.byContradiction fun hc => ?_
    have : dpt l up + belowL l x.id ≤ 8 := h.2 fun b hb => by
      have h1 : deepR (setUp l x.id up) b.id ≤ 8 := Nat.le_of_not_lt fun h2 => hc ⟨b, hb, h2⟩
      obtain ⟨d, h2, h3⟩ := deepR_le.1 h1
      exact ⟨d, ((dep_iff _ _ _ _).1 h2).1, h3⟩
    omega
  · rintro ⟨b, hb, h8⟩
    refine Nat.lt_of_not_le fun hc => ?_
    obtain ⟨d, h2, h3⟩ := h.1 hc b hb
    rw [deepR_of h2] at h8
    omega
theorem has_box {l : List Bx} {id : Int} : hasId l id = (boxOf l id).isSome := by
  rw [Bool.eq_iff_iff, hasId_iff, boxOf, List.find?_isSome]
  simp
end Go.Cs
namespace Go.Cs
theorem idx_first : ∀ {l : List Bx} {id : Int} {i : Nat}, i ≤ l.length → (∀ b ∈ l.take i, b.id < id) → (∀ b, l[i]? = some b → ¬ b.id < id) → idxL l id = i
  | [], id, i, hi, _, _ => by
    have : i = 0 := by simpa using hi
    subst this; rfl
  | b :: l, id, 0, _, _, h => by
    unfold idxL
    rw [List.takeWhile_cons_of_neg (by simpa using h b rfl)]; rfl
  | b :: l, id, i + 1, hi, h, h2 => by
    have e := idx_first (l := l) (id := id) (i := i) (by simpa using hi) (fun c hc => h c (by simp [hc])) (fun c hc => h2 c (by simpa using hc))
    unfold idxL at e ⊢
    rw [List.takeWhile_cons_of_pos (by simpa using h b (by simp)), List.length_cons, e]
end Go.Cs

-- alias Tryd
namespace Go.Proofs.YtdghfagipheabaaDoor
open Go.RowKit Go.Pw Go.Vc Go.Cs Go.Lib
set_option linter.unusedVariables false
set_option maxRecDepth 100000
theorem str_nilq (s : List UInt8) : decide (str s = (⟨#[]⟩ : ByteArray)) = decide (s = []) := by
  by_cases h : s = []
  · rw [h]; rfl
  · rw [decide_eq_false h]
    exact decide_eq_false fun e => h (by have := congrArg L e; rwa [L_str] at this)
theorem optV_shape (o : Option Int) : ∃ i q, optV o = .tuple #[.int .i64 i, .bool q] := by cases o <;> exact ⟨_, _, rfl⟩
section
variable {w w' : World}
set_option maxHeartbeats 1000000 in
theorem rq_find {v : Value} (l : List Bx) (id : Int) (hv : RowB w v l) (hl : l.length ≤ 1000000) : Calls Tryd.prog 38 #[v, .int .i64 id] w fun e w' => e = .returned (.int .i64 (findV l id)) ∧ Keeps w w' none_ := by
  obtain ⟨a, cap, rfl, hr⟩ := hv
  refine calls_of_vc (args := [.slice a l.length cap, .int .i64 id]) Tryd.func38 rfl (Nat.le_of_ble_eq_true rfl) ?_; refine Sat.go hmix ?_; conv => whnf
  refine Loop.intro (ι := Nat) (fun i => [(0, .slice a l.length cap), (1, .int .i64 id), (5, .int .i64 (i : Nat))])
    (fun i wr => Keeps w wr none_ ∧ i ≤ l.length ∧ ∀ b ∈ l.take i, b.id ≠ id) (fun i => l.length - i) 0 ⟨rfl, rfl, rfl, trivial⟩ ⟨Keeps.refl _ _, Nat.zero_le _, by simp⟩ ?_
  rintro i gg wr ⟨hK, hi, ht⟩
  (first | refine Then.go hmix ?_ | refine Sat.go hmix ?_ | refine ResK.go ?_ | skip); conv => whnf
  by_cases hlt : i < l.length
  · obtain ⟨g, o, rfl, hg, hat⟩ := hr (by omega)
    have htk : l.take (i + 1) = l.take i ++ [l[i]] := List.take_succ_eq_append_getElem hlt
    by_cases he : l[i].id = id
    · refine KGO ?_
      refine ⟨?_, hK⟩
      unfold findV
      rw [findN_at hlt ht he, if_pos hlt]
    · refine KGO ?_
      refine ⟨i + 1, ⟨rfl, rfl, v_int (by simp), trivial⟩, ⟨hK, by omega, ?_⟩, by dsimp only; omega⟩
      rw [htk]
      intro b hb
      rcases List.mem_append.1 hb with hb | hb
      · exact ht b hb
      · rw [List.mem_singleton.1 hb]; exact he
  · refine KGO ?_
    refine ⟨?_, hK⟩
    rw [List.take_of_length_le (by omega)] at ht
    unfold findV
    rw [findN_end ht, if_neg (Nat.lt_irrefl _)]
set_option maxHeartbeats 1000000 in
theorem rq_deep {v : Value} (l : List Bx) (id : Int) (hv : RowB w v l) (hl : l.length ≤ 1000000) : Calls Tryd.prog 32 #[v, .int .i64 id] w fun e w' => e = .returned (.int .i64 (deepR l id : Nat)) ∧ Keeps w w' none_ := by
  have hv0 := hv
  obtain ⟨a, cap, rfl, hr⟩ := hv
  refine calls_of_vc (args := [.slice a l.length cap, .int .i64 id]) Tryd.func32 rfl (Nat.le_of_ble_eq_true rfl) ?_; refine Sat.go hmix ?_; conv => whnf
  refine Loop.intro (ι := Nat × Int) (fun i => [(0, .slice a l.length cap), (1, .int .i64 i.2), (5, .int .i64 (i.1 : Nat))])
    (fun i wr => Keeps w wr none_ ∧ i.1 ≤ l.length + 1 ∧ deepR l id = deepAt l i.2 i.1) (fun i => l.length + 1 - i.1) (0, id) ⟨rfl, rfl, rfl, trivial⟩ ⟨Keeps.refl _ _, Nat.zero_le _, (deepAt_zero _ _).symm⟩ ?_
  rintro ⟨n, y⟩ gg wr ⟨hK, hn, ht⟩
  dsimp only at hn ht ⊢
  (first | refine Then.go hmix ?_ | refine Sat.go hmix ?_ | refine ResK.go ?_ | skip); conv => whnf
  by_cases hlt : n ≤ l.length
  · by_cases h0 : y = 0
    · refine KGO ?_
      rw [ht, h0, deepAt_root l n hlt]
      exact ⟨rfl, hK⟩
    · refine KGO ?_
      refine CallS.of (Tryd.call38 _ _) (rq_find (w := wr) l y (hv0.keep hK) hl) ?_
      rintro e w1 ⟨rfl, k1⟩
      refine ⟨_, rfl, ?_⟩; (first | refine Then.go hmix ?_ | refine Sat.go hmix ?_ | refine ResK.go ?_ | skip); conv => whnf
      have K1 := hK.trans0 k1
      cases hb : boxOf l y with
      | none =>
        have hneg := find_neg.2 hb
        refine KGO ?_
        rw [ht, deepAt_none n h0 hb]
        exact ⟨rfl, K1⟩
      | some b =>
        obtain ⟨hk, he, hf⟩ := find_nat hb
        rw [hf]
        obtain ⟨g, o, rfl, hg, hat⟩ := hr (by omega)
        refine KGO ?_
        rw [he]
        refine KGO ?_
        exact ⟨(n + 1, b.up), ⟨rfl, rfl, v_int (by simp), trivial⟩, ⟨K1, by dsimp only; omega, by rw [ht, deepAt_step n h0 hb hlt]⟩, by dsimp only; omega⟩
  · refine KGO ?_
    have e : n = l.length + 1 := by omega
    rw [ht, e, deepAt_end]
    exact ⟨rfl, hK⟩
theorem role_fact (s : List UInt8) (i : Nat) (hi : i < rolesL.length) : decide (str rolesL[i] = str s) = decide (rolesL[i] = s) := by
  rw [decide_eq_decide, str_eq]
set_option maxHeartbeats 1000000 in
theorem rq_Equal (a b : List UInt8) (ha : a.length ≤ 100000000) (hb : b.length ≤ 100000000) : Calls Tryd.prog 28 #[.string (str a), .string (str b)] w fun e w' => e = .returned (.bool (decide (foldL a = foldL b))) ∧ Keeps w w' none_ := by
  refine calls_of_vc (args := [.string (str a), .string (str b)]) Tryd.func28 rfl (Nat.le_of_ble_eq_true rfl) ?_; refine Sat.go hmix ?_; conv => whnf
  refine CallS.of (Tryd.call55 _ _) (ref_Fold05 (w := w) (str a) (by rw [str_size]; omega)) ?_
  rintro e w1 ⟨rfl, k1⟩
  rw [L_str]
  refine ⟨_, rfl, ?_⟩; (first | refine Then.go hmix ?_ | refine Sat.go hmix ?_ | refine ResK.go ?_ | skip); conv => whnf
  refine KGO ?_
  refine CallS.of (Tryd.call55 _ _) (ref_Fold05 (w := w1) (str b) (by rw [str_size]; omega)) ?_
  rintro e w2 ⟨rfl, k2⟩
  rw [L_str]
  refine ⟨_, rfl, ?_⟩; (first | refine Then.go hmix ?_ | refine Sat.go hmix ?_ | refine ResK.go ?_ | skip); conv => whnf
  refine KGO ?_
  refine ⟨ret_bool ?_, k1.trans0 k2⟩
  rw [decide_eq_decide, str_eq]
set_option maxHeartbeats 1000000 in
theorem rq_Role {v : Value} (l : List Bx) (r : List UInt8) (hv : RowB w v l) (hl : l.length ≤ 1000000) : Calls Tryd.prog 12 #[v, .string (str r)] w fun e w' => e = .returned (optV (roleOf l r)) ∧ Keeps w w' none_ := by
  obtain ⟨a, cap, rfl, hr⟩ := hv
  refine calls_of_vc (args := [.slice a l.length cap, .string (str r)]) Tryd.func12 rfl (Nat.le_of_ble_eq_true rfl) ?_; refine Sat.go hmix ?_; conv => whnf
  have hrd : decide (str r = (⟨#[]⟩ : ByteArray)) = decide (r = []) := by
    by_cases h : r = []
    · rw [h]; rfl
    · rw [decide_eq_false h]
      exact decide_eq_false fun e => h (by have := congrArg L e; rwa [L_str] at this)
  refine Loop.intro (ι := Nat) (fun i => [(0, .slice a l.length cap), (1, .string (str r)), (6, .int .i64 (i : Nat))])
    (fun i wr => Keeps w wr none_ ∧ i ≤ l.length ∧ roleOf l r = roleOf (l.drop i) r) (fun i => l.length - i) 0 ⟨rfl, rfl, rfl, trivial⟩ ⟨Keeps.refl _ _, Nat.zero_le _, rfl⟩ ?_
  rintro i gg wr ⟨hK, hi, ht⟩
  (first | refine Then.go hmix ?_ | refine Sat.go hmix ?_ | refine ResK.go ?_ | skip); conv => whnf
  by_cases hlt : i < l.length
  · obtain ⟨g, o, rfl, hg, hat⟩ := hr (by omega)
    rw [List.drop_eq_getElem_cons hlt] at ht
    have hq : decide (str l[i].role = str r) = decide (l[i].role = r) := by rw [decide_eq_decide, str_eq]
    by_cases he : l[i].role = r
    · rw [decide_eq_true he] at hq
      by_cases h0 : r = []
      · rw [decide_eq_true h0] at hrd
        refine KGO ?_
        refine ⟨i + 1, ⟨rfl, rfl, v_int (by simp), trivial⟩, ⟨hK, by omega, ?_⟩, by dsimp only; omega⟩
        rw [ht]; unfold roleOf; rw [if_pos h0, if_pos h0]
      · rw [decide_eq_false h0] at hrd
        refine KGO ?_
        refine ⟨?_, hK⟩
        rw [ht]
        unfold roleOf
        rw [if_neg h0, List.find?_cons_of_pos (by simpa using he)]; rfl
    · rw [decide_eq_false he] at hq
      refine KGO ?_
      refine ⟨i + 1, ⟨rfl, rfl, v_int (by simp), trivial⟩, ⟨hK, by omega, ?_⟩, by dsimp only; omega⟩
      rw [ht]
      unfold roleOf
      by_cases h0 : r = []
      · rw [if_pos h0, if_pos h0]
      · rw [if_neg h0, if_neg h0, List.find?_cons_of_neg (by simpa using he)]
  · refine KGO ?_
    refine ⟨?_, hK⟩
    rw [ht, List.drop_eq_nil_of_le (by omega)]
    unfold roleOf
    by_cases h0 : r = []
    · rw [if_pos h0]; rfl
    · rw [if_neg h0]; rfl
theorem fine_code (b : UInt8) : fineB b = true ↔ ¬ b.toNat < 32 ∧ ¬ b.toNat = 127 ∧ ¬ b.toNat = 47 := by
  unfold fineB
  simp [and_assoc]
set_option maxHeartbeats 1000000 in
theorem rq_Named (s : ByteArray) (hs : s.size ≤ 100000000) : Calls Tryd.prog 16 #[.string s] w fun e w' => e = .returned (.bool (namedB (L s))) ∧ Keeps w w' none_ := by
  have hl := L_len s
  refine calls_of_vc (args := [.string s]) Tryd.func16 rfl (Nat.le_of_ble_eq_true rfl) ?_; refine Sat.go hmix ?_; conv => whnf
  refine Loop.intro (ι := Nat) (fun i => [(0, .string s), (3, .int .i64 i)])
    (fun i wr => Keeps w wr none_ ∧ i ≤ s.size ∧ ∀ b ∈ (L s).take i, fineB b = true) (fun i => s.size - i) 0 ⟨rfl, rfl, trivial⟩
    ⟨Keeps.refl _ _, Nat.zero_le _, by simp⟩ ?_
  rintro n g wr ⟨hK, hn, ht⟩
  (first | refine Then.go hmix ?_ | refine Sat.go hmix ?_ | refine ResK.go ?_ | skip); conv => whnf
  by_cases hlt : n < s.size
  · have hn2 : n < (L s).length := by omega
    have hbe : byteAt s n = (L s)[n] := by
      show (L s).getD n 0 = _
      rw [List.getD, List.getElem?_eq_getElem hn2]; rfl
    have htk : (L s).take (n + 1) = (L s).take n ++ [byteAt s n] := by rw [List.take_succ_eq_append_getElem hn2, hbe]
    have hmem : byteAt s n ∈ L s := by rw [hbe]; exact List.getElem_mem hn2
    have hfc := fine_code (byteAt s n)
    have hbad : ¬ fineB (byteAt s n) = true → namedB (L s) = false := fun h => by
      cases hq : namedB (L s) with
      | false => rfl
      | true => exact absurd (((named_iff _).1 hq).2.2.2 _ hmem) h
    have hxl := UInt8.toNat_lt (byteAt s n)
    by_cases h1 : (byteAt s n).toNat < 32
    · refine KGO ?_
      exact ⟨ret_bool (hbad fun h => (hfc.1 h).1 h1).symm, hK⟩
    by_cases h2 : (byteAt s n).toNat = 127
    · refine KGO ?_
      exact ⟨ret_bool (hbad fun h => (hfc.1 h).2.1 h2).symm, hK⟩
    by_cases h3 : (byteAt s n).toNat = 47
    · refine KGO ?_
      exact ⟨ret_bool (hbad fun h => (hfc.1 h).2.2 h3).symm, hK⟩
    refine KGO ?_
    refine ⟨n + 1, ⟨rfl, v_int (by simp), trivial⟩, ⟨hK, by omega, ?_⟩, by dsimp only; omega⟩
    rw [htk]
    intro b hb
    rcases List.mem_append.1 hb with hb | hb
    · exact ht b hb
    · rw [List.mem_singleton.1 hb]; exact hfc.2 ⟨h1, h2, h3⟩
  · refine KGO ?_
    rw [List.take_of_length_le (by omega)] at ht
    have hall : (L s).all fineB = true := List.all_eq_true.2 ht
    have hN : namedB (L s) = (decide (1 ≤ s.size) && decide (s.size ≤ 100) && validD (L s)) := by
      unfold namedB
      rw [hall, Bool.and_true, hl]
    rw [hN]
    by_cases h1 : 1 ≤ s.size
    · by_cases h2 : s.size ≤ 100
      · refine KGO ?_
        refine CallS.of (Tryd.call36 _ _) (ref_Valid (w := wr) s (by omega)) ?_
        rintro e w1 ⟨rfl, k1⟩
        refine ⟨_, rfl, ?_⟩; (first | refine Then.go hmix ?_ | refine Sat.go hmix ?_ | refine ResK.go ?_ | skip); conv => whnf
        refine KGO ?_
        refine ⟨ret_bool ?_, hK.trans0 k1⟩
        rw [decide_eq_true h1, decide_eq_true h2]; rfl
      · refine KGO ?_
        refine ⟨ret_bool ?_, hK⟩
        rw [decide_eq_false h2]; simp
    · refine KGO ?_
      refine ⟨ret_bool ?_, hK⟩
      rw [decide_eq_false h1]; simp
end
end Go.Proofs.YtdghfagipheabaaDoor

-- alias Tryd
namespace Go.Proofs.YtdghfagipheabaaDoor
open Go.RowKit Go.Pw Go.Vc Go.Cs Go.Lib
set_option linter.unusedVariables false
set_option maxRecDepth 100000
section
variable {w w' : World}
theorem build_roles (w : World) : (Instr.buildSlice 51 7 [(0, .string ⟨#[]⟩), (1, .string ⟨#[105, 110, 98, 111, 120]⟩), (2, .string ⟨#[100, 114, 97, 102, 116, 115]⟩), (3, .string ⟨#[115, 101, 110, 116]⟩), (4, .string ⟨#[116, 114, 97, 115, 104]⟩), (5, .string ⟨#[106, 117, 110, 107]⟩), (6, .string ⟨#[97, 114, 99, 104, 105, 118, 101]⟩)].toArray).run Tryd.prog w =
    .ok (.slice (some ⟨w.heap.size, 0, none⟩) 7 7) (w.alloc (.cells (rolesL.map sv).toArray 9)) := by
  simp [Instr.buildSlice, go_sem, Tryd.runUnderlying51, rolesL, sv, str]
set_option maxHeartbeats 1000000 in
theorem rq_role (s : List UInt8) : Calls Tryd.prog 31 #[.string (str s)] w fun e w' => e = .returned (.bool (decide (s ∈ rolesL))) ∧ Keeps w w' none_ := by
  refine calls_of_vc (args := [.string (str s)]) Tryd.func31 rfl (Nat.le_of_ble_eq_true rfl) ?_; refine Sat.go hmix ?_; conv => whnf
  refine RunV.of (build_roles _) ?_
  have a1 := at_fresh w 9 (rolesL.map sv)
  have k1 : Keeps w (w.alloc (.cells (rolesL.map sv).toArray 9)) none_ := (Keeps.refl _ _).alloc _
  generalize w.alloc (.cells (rolesL.map sv).toArray 9) = w1 at *
  generalize w.heap.size = g at *
  have h7 : rolesL.length = 7 := rfl
  refine KGO ?_
  refine Loop.intro (ι := Nat) (fun i => [(0, .string (str s)), (3, .slice (some ⟨g, 0, none⟩) 7 7), (4, .int .i64 (i : Nat))])
    (fun i wr => Keeps w1 wr none_ ∧ i ≤ 7 ∧ ∀ x ∈ rolesL.take i, x ≠ s) (fun i => 7 - i) 0 ⟨rfl, rfl, rfl, trivial⟩ ⟨Keeps.refl _ _, Nat.zero_le _, by simp⟩ ?_
  rintro i gg wr ⟨hK, hi, ht⟩
  (first | refine Then.go hmix ?_ | refine Sat.go hmix ?_ | refine ResK.go ?_ | skip); conv => whnf
  by_cases hlt : i < 7
  · have hi7 : i < rolesL.length := by omega
    have c0 : wr.cell? ⟨g, 0 + i, none⟩ = some (.string (str rolesL[i])) := (at_mono a1 hK) i _ (by rw [List.getElem?_map, List.getElem?_eq_getElem hi7]; rfl)
    have hm : rolesL[i] ∈ rolesL := List.getElem_mem hi7
    have htk : rolesL.take (i + 1) = rolesL.take i ++ [rolesL[i]] := List.take_succ_eq_append_getElem hi7
    have hq : decide (str rolesL[i] = str s) = decide (rolesL[i] = s) := by rw [decide_eq_decide, str_eq]
    generalize rolesL[i] = x at *
    by_cases he : x = s
    · rw [decide_eq_true he] at hq
      refine KGO ?_
      exact ⟨ret_bool (decide_eq_true (he ▸ hm)).symm, k1.trans0 hK⟩
    · rw [decide_eq_false he] at hq
      refine KGO ?_
      refine ⟨i + 1, ⟨rfl, rfl, v_int (by simp), trivial⟩, ⟨hK, by omega, ?_⟩, by dsimp only; omega⟩
      rw [htk]
      intro b hb
      rcases List.mem_append.1 hb with hb | hb
      · exact ht b hb
      · rw [List.mem_singleton.1 hb]; exact he
  · refine KGO ?_
    rw [List.take_of_length_le (by omega)] at ht
    exact ⟨ret_bool (decide_eq_false fun h => ht s h rfl).symm, k1.trans0 hK⟩
set_option maxHeartbeats 4000000 in
theorem rq_Right {v : Value} (l : List Bx) (hv : RowB w v l) (hl : l.length ≤ 1000) (hs : SmallB l) :
    Calls Tryd.prog 14 #[v] w fun e w' => e = .returned (.bool (rightL l)) ∧ Keeps w w' none_ := by
  have hv0 := hv
  obtain ⟨a, cap, rfl, hr⟩ := hv
  refine calls_of_vc (args := [.slice a l.length cap]) Tryd.func14 rfl (Nat.le_of_ble_eq_true rfl) ?_; refine Sat.go hmix ?_; conv => whnf
  have href := right_ref l
  by_cases hlen : 64 < l.length
  · refine KGO ?_
    refine ⟨ret_bool ?_, Keeps.refl _ _⟩
    cases hq : rightL l with
    | false => rfl
    | true => have := (href.1 hq).1; omega
  refine KGO ?_
  refine Loop.intro (ι := Nat) (fun i => [(0, .slice a l.length cap), (3, .int .i64 (i : Nat))])
    (fun i wr => Keeps w wr none_ ∧ i ≤ l.length ∧ ∀ j (hj : j < l.length), j < i → OkR l j l[j]) (fun i => l.length - i) 0 ⟨rfl, rfl, trivial⟩ ⟨Keeps.refl _ _, Nat.zero_le _, fun j _ h => by omega⟩ ?_
  rintro i gg wr ⟨hK, hi, hok⟩
  (first | refine Then.go hmix ?_ | refine Sat.go hmix ?_ | refine ResK.go ?_ | skip); conv => whnf
  by_cases hlt : i < l.length
  · obtain ⟨g, o, rfl, hg, hat⟩ := hr (by omega)
    have hbs := hs l[i] (List.getElem_mem hlt)
    have hfalse : ¬ OkR l i l[i] → rightL l = false := fun h => by
      cases hq : rightL l with
      | false => rfl
      | true => exact absurd ((href.1 hq).2 i hlt) h
    refine KGO ?_
    refine CallS.of (Tryd.call16 _ _) (rq_Named (w := wr) (str l[i].name) (by rw [str_size]; omega)) ?_
    rintro e w1 ⟨rfl, k1⟩
    rw [L_str]
    have K1 := hK.trans0 k1
    refine ⟨_, rfl, ?_⟩; (first | refine Then.go hmix ?_ | refine Sat.go hmix ?_ | refine ResK.go ?_ | skip); conv => whnf
    refine KGO ?_
    refine CallS.of (Tryd.call31 _ _) (rq_role (w := w1) l[i].role) ?_
    rintro e w2 ⟨rfl, k2⟩
    have K2 := K1.trans0 k2
    refine ⟨_, rfl, ?_⟩; (first | refine Then.go hmix ?_ | refine Sat.go hmix ?_ | refine ResK.go ?_ | skip); conv => whnf
    by_cases q1 : namedB l[i].name = true
    rotate_left
    · rw [show namedB l[i].name = false by simpa using q1]
      refine KGO ?_
      exact ⟨ret_bool (hfalse fun h => q1 h.named).symm, K2.drew⟩
    rw [q1]
    by_cases q2 : l[i].role ∈ rolesL
    rotate_left
    · rw [decide_eq_false q2]
      refine KGO ?_
      exact ⟨ret_bool (hfalse fun h => q2 h.role).symm, K2.drew⟩
    rw [decide_eq_true q2]
    by_cases h3 : l[i].id < 1
    · refine KGO ?_
      exact ⟨ret_bool (hfalse fun h => by have := h.pos; omega).symm, K2.drew⟩
    by_cases h4 : 1099511627776 < l[i].id
    · refine KGO ?_
      exact ⟨ret_bool (hfalse fun h => by have := h.pos; omega).symm, K2.drew⟩
    by_cases h0 : i = 0
    · have hasc : ∀ c, 0 < i → l[i - 1]? = some c → c.id < l[i].id := fun c h => by omega
      refine KGO ?_
      refine CallS.of (Tryd.call32 _ _) (rq_deep (w := w2.drew) l l[i].id (hv0.keep K2.drew) (by omega)) ?_
      rintro e w3 ⟨rfl, k3⟩
      have K3 := K2.drew.trans0 k3
      refine ⟨_, rfl, ?_⟩; (first | refine Then.go hmix ?_ | refine Sat.go hmix ?_ | refine ResK.go ?_ | skip); conv => whnf
      by_cases h6 : 8 < deepR l l[i].id
      · refine KGO ?_
        exact ⟨ret_bool (hfalse fun h => by have := h.deep; omega).symm, K3⟩
      refine KGO ?_
      have hokN : (∀ k c, k < i → l[k]? = some c → ¬ (c.role = l[i].role ∧ l[i].role ≠ []) ∧ ¬ (c.up = l[i].up ∧ foldL c.name = foldL l[i].name)) → OkR l i l[i] := fun h =>
        ⟨q1, q2, ⟨by omega, by omega⟩, hasc, by omega, h⟩
      clear hasc h0
      refine Loop.intro (ι := Nat) (fun k => [(0, .slice (some ⟨g, o, none⟩) l.length cap), (3, .int .i64 (i : Nat)), (6, .int .i64 (k : Nat))])
        (fun k wk => Keeps w wk none_ ∧ k ≤ i ∧ ∀ k' c, k' < k → l[k']? = some c → ¬ (c.role = l[i].role ∧ l[i].role ≠ []) ∧ ¬ (c.up = l[i].up ∧ foldL c.name = foldL l[i].name)) (fun k => i - k) 0 ⟨rfl, rfl, rfl, trivial⟩ ⟨K3, Nat.zero_le _, fun _ _ h => by omega⟩ ?_
      rintro k gk wk ⟨kk, hki, hfree⟩
      (first | refine Then.go hmix ?_ | refine Sat.go hmix ?_ | refine ResK.go ?_ | skip); conv => whnf
      by_cases hkt : k < i
      · have hk2 : k < l.length := by omega
        have hbk := hs l[k] (List.getElem_mem hk2)
        have hnext0 : ∀ (hno : ¬ (l[k].role = l[i].role ∧ l[i].role ≠ [])) (hu : ¬ (l[k].up = l[i].up ∧ foldL l[k].name = foldL l[i].name)), (∀ k' c, k' < k + 1 → l[k']? = some c → ¬ (c.role = l[i].role ∧ l[i].role ≠ []) ∧ ¬ (c.up = l[i].up ∧ foldL c.name = foldL l[i].name)) := fun hno hu k' c hk' hc => by
          by_cases e : k' < k
          · exact hfree k' c e hc
          · obtain rfl : k' = k := by omega
            rw [List.getElem?_eq_getElem hk2] at hc
            obtain rfl := Option.some.inj hc
            exact ⟨hno, hu⟩
        have d1 : decide (str l[k].role = str l[i].role) = decide (l[k].role = l[i].role) := by rw [decide_eq_decide, str_eq]
        have d2 := str_nilq l[i].role
        by_cases r1 : l[k].role = l[i].role
        · rw [decide_eq_true r1] at d1
          by_cases r2 : l[i].role = []
          · rw [decide_eq_true r2] at d2
            have hno : ¬ (l[k].role = l[i].role ∧ l[i].role ≠ []) := fun h => h.2 r2
            by_cases u1 : l[k].up = l[i].up
            rotate_left
            · refine KGO ?_
              exact ⟨k + 1, ⟨rfl, rfl, v_int (by simp), trivial⟩, ⟨kk.drew, by omega, hnext0 hno fun h => u1 h.1⟩, by dsimp only; omega⟩
            refine KGO ?_
            refine CallS.of (Tryd.call28 _ _) (rq_Equal (w := wk.drew) l[k].name l[i].name (by omega) (by omega)) ?_
            rintro e w4 ⟨rfl, k4⟩
            have K4 := kk.drew.trans0 k4
            refine ⟨_, rfl, ?_⟩; (first | refine Then.go hmix ?_ | refine Sat.go hmix ?_ | refine ResK.go ?_ | skip); conv => whnf
            by_cases u2 : foldL l[k].name = foldL l[i].name
            · rw [decide_eq_true u2]
              refine KGO ?_
              exact ⟨ret_bool (hfalse fun h => (h.free k _ hkt (List.getElem?_eq_getElem hk2)).2 ⟨u1, u2⟩).symm, K4⟩
            · rw [decide_eq_false u2]
              refine KGO ?_
              exact ⟨k + 1, ⟨rfl, rfl, v_int (by simp), trivial⟩, ⟨K4, by omega, hnext0 hno fun h => u2 h.2⟩, by dsimp only; omega⟩
          · rw [decide_eq_false r2] at d2
            refine KGO ?_
            exact ⟨ret_bool (hfalse fun h => (h.free k _ hkt (List.getElem?_eq_getElem hk2)).1 ⟨r1, r2⟩).symm, kk.drew⟩
        · rw [decide_eq_false r1] at d1
          have hno : ¬ (l[k].role = l[i].role ∧ l[i].role ≠ []) := fun h => r1 h.1
          by_cases u1 : l[k].up = l[i].up
          rotate_left
          · refine KGO ?_
            exact ⟨k + 1, ⟨rfl, rfl, v_int (by simp), trivial⟩, ⟨kk.drew, by omega, hnext0 hno fun h => u1 h.1⟩, by dsimp only; omega⟩
          refine KGO ?_
          refine CallS.of (Tryd.call28 _ _) (rq_Equal (w := wk.drew) l[k].name l[i].name (by omega) (by omega)) ?_
          rintro e w4 ⟨rfl, k4⟩
          have K4 := kk.drew.trans0 k4
          refine ⟨_, rfl, ?_⟩; (first | refine Then.go hmix ?_ | refine Sat.go hmix ?_ | refine ResK.go ?_ | skip); conv => whnf
          by_cases u2 : foldL l[k].name = foldL l[i].name
          · rw [decide_eq_true u2]
            refine KGO ?_
            exact ⟨ret_bool (hfalse fun h => (h.free k _ hkt (List.getElem?_eq_getElem hk2)).2 ⟨u1, u2⟩).symm, K4⟩
          · rw [decide_eq_false u2]
            refine KGO ?_
            exact ⟨k + 1, ⟨rfl, rfl, v_int (by simp), trivial⟩, ⟨K4, by omega, hnext0 hno fun h => u2 h.2⟩, by dsimp only; omega⟩
      · refine KGO ?_
        have hk3 : k = i := by omega
        refine ⟨i + 1, ⟨rfl, v_int (by simp), trivial⟩, ⟨kk, by omega, fun j hj h => ?_⟩, by dsimp only; omega⟩
        by_cases hj2 : j < i
        · exact hok j hj hj2
        · obtain rfl : j = i := by omega
          rw [hk3] at hfree
          exact hokN hfree
    · have hp : ((i : Int) - 1).toNat < l.length := by omega
      have hpe : ((i : Int) - 1).toNat = i - 1 := by omega
      have hpp : l[i - 1]? = some l[((i : Int) - 1).toNat] := by rw [← hpe]; exact List.getElem?_eq_getElem hp
      by_cases h5 : l[i].id ≤ l[((i : Int) - 1).toNat].id
      · refine KGO ?_
        exact ⟨ret_bool (hfalse fun h => by have := h.asc _ (by omega) hpp; omega).symm, K2.drew⟩
      · have hasc : ∀ c, 0 < i → l[i - 1]? = some c → c.id < l[i].id := fun c _ h => by
          rw [hpp] at h
          rw [← Option.some.inj h]
          omega
        refine KGO ?_
        refine CallS.of (Tryd.call32 _ _) (rq_deep (w := w2.drew) l l[i].id (hv0.keep K2.drew) (by omega)) ?_
        rintro e w3 ⟨rfl, k3⟩
        have K3 := K2.drew.trans0 k3
        refine ⟨_, rfl, ?_⟩; (first | refine Then.go hmix ?_ | refine Sat.go hmix ?_ | refine ResK.go ?_ | skip); conv => whnf
        by_cases h6 : 8 < deepR l l[i].id
        · refine KGO ?_
          exact ⟨ret_bool (hfalse fun h => by have := h.deep; omega).symm, K3⟩
        refine KGO ?_
        have hokN : (∀ k c, k < i → l[k]? = some c → ¬ (c.role = l[i].role ∧ l[i].role ≠ []) ∧ ¬ (c.up = l[i].up ∧ foldL c.name = foldL l[i].name)) → OkR l i l[i] := fun h =>
          ⟨q1, q2, ⟨by omega, by omega⟩, hasc, by omega, h⟩
        clear hasc h0
        refine Loop.intro (ι := Nat) (fun k => [(0, .slice (some ⟨g, o, none⟩) l.length cap), (3, .int .i64 (i : Nat)), (6, .int .i64 (k : Nat))])
          (fun k wk => Keeps w wk none_ ∧ k ≤ i ∧ ∀ k' c, k' < k → l[k']? = some c → ¬ (c.role = l[i].role ∧ l[i].role ≠ []) ∧ ¬ (c.up = l[i].up ∧ foldL c.name = foldL l[i].name)) (fun k => i - k) 0 ⟨rfl, rfl, rfl, trivial⟩ ⟨K3, Nat.zero_le _, fun _ _ h => by omega⟩ ?_
        rintro k gk wk ⟨kk, hki, hfree⟩
        (first | refine Then.go hmix ?_ | refine Sat.go hmix ?_ | refine ResK.go ?_ | skip); conv => whnf
        by_cases hkt : k < i
        · have hk2 : k < l.length := by omega
          have hbk := hs l[k] (List.getElem_mem hk2)
          have hnext0 : ∀ (hno : ¬ (l[k].role = l[i].role ∧ l[i].role ≠ [])) (hu : ¬ (l[k].up = l[i].up ∧ foldL l[k].name = foldL l[i].name)), (∀ k' c, k' < k + 1 → l[k']? = some c → ¬ (c.role = l[i].role ∧ l[i].role ≠ []) ∧ ¬ (c.up = l[i].up ∧ foldL c.name = foldL l[i].name)) := fun hno hu k' c hk' hc => by
            by_cases e : k' < k
            · exact hfree k' c e hc
            · obtain rfl : k' = k := by omega
              rw [List.getElem?_eq_getElem hk2] at hc
              obtain rfl := Option.some.inj hc
              exact ⟨hno, hu⟩
          have d1 : decide (str l[k].role = str l[i].role) = decide (l[k].role = l[i].role) := by rw [decide_eq_decide, str_eq]
          have d2 := str_nilq l[i].role
          by_cases r1 : l[k].role = l[i].role
          · rw [decide_eq_true r1] at d1
            by_cases r2 : l[i].role = []
            · rw [decide_eq_true r2] at d2
              have hno : ¬ (l[k].role = l[i].role ∧ l[i].role ≠ []) := fun h => h.2 r2
              by_cases u1 : l[k].up = l[i].up
              rotate_left
              · refine KGO ?_
                exact ⟨k + 1, ⟨rfl, rfl, v_int (by simp), trivial⟩, ⟨kk.drew, by omega, hnext0 hno fun h => u1 h.1⟩, by dsimp only; omega⟩
              refine KGO ?_
              refine CallS.of (Tryd.call28 _ _) (rq_Equal (w := wk.drew) l[k].name l[i].name (by omega) (by omega)) ?_
              rintro e w4 ⟨rfl, k4⟩
              have K4 := kk.drew.trans0 k4
              refine ⟨_, rfl, ?_⟩; (first | refine Then.go hmix ?_ | refine Sat.go hmix ?_ | refine ResK.go ?_ | skip); conv => whnf
              by_cases u2 : foldL l[k].name = foldL l[i].name
              · rw [decide_eq_true u2]
                refine KGO ?_
                exact ⟨ret_bool (hfalse fun h => (h.free k _ hkt (List.getElem?_eq_getElem hk2)).2 ⟨u1, u2⟩).symm, K4⟩
              · rw [decide_eq_false u2]
                refine KGO ?_
                exact ⟨k + 1, ⟨rfl, rfl, v_int (by simp), trivial⟩, ⟨K4, by omega, hnext0 hno fun h => u2 h.2⟩, by dsimp only; omega⟩
            · rw [decide_eq_false r2] at d2
              refine KGO ?_
              exact ⟨ret_bool (hfalse fun h => (h.free k _ hkt (List.getElem?_eq_getElem hk2)).1 ⟨r1, r2⟩).symm, kk.drew⟩
          · rw [decide_eq_false r1] at d1
            have hno : ¬ (l[k].role = l[i].role ∧ l[i].role ≠ []) := fun h => r1 h.1
            by_cases u1 : l[k].up = l[i].up
            rotate_left
            · refine KGO ?_
              exact ⟨k + 1, ⟨rfl, rfl, v_int (by simp), trivial⟩, ⟨kk.drew, by omega, hnext0 hno fun h => u1 h.1⟩, by dsimp only; omega⟩
            refine KGO ?_
            refine CallS.of (Tryd.call28 _ _) (rq_Equal (w := wk.drew) l[k].name l[i].name (by omega) (by omega)) ?_
            rintro e w4 ⟨rfl, k4⟩
            have K4 := kk.drew.trans0 k4
            refine ⟨_, rfl, ?_⟩; (first | refine Then.go hmix ?_ | refine Sat.go hmix ?_ | refine ResK.go ?_ | skip); conv => whnf
            by_cases u2 : foldL l[k].name = foldL l[i].name
            · rw [decide_eq_true u2]
              refine KGO ?_
              exact ⟨ret_bool (hfalse fun h => (h.free k _ hkt (List.getElem?_eq_getElem hk2)).2 ⟨u1, u2⟩).symm, K4⟩
            · rw [decide_eq_false u2]
              refine KGO ?_
              exact ⟨k + 1, ⟨rfl, rfl, v_int (by simp), trivial⟩, ⟨K4, by omega, hnext0 hno fun h => u2 h.2⟩, by dsimp only; omega⟩
        · refine KGO ?_
          have hk3 : k = i := by omega
          refine ⟨i + 1, ⟨rfl, v_int (by simp), trivial⟩, ⟨kk, by omega, fun j hj h => ?_⟩, by dsimp only; omega⟩
          by_cases hj2 : j < i
          · exact hok j hj hj2
          · obtain rfl : j = i := by omega
            rw [hk3] at hfree
            exact hokN hfree
  · refine KGO ?_
    have e : i = l.length := by omega
    refine ⟨ret_bool ?_, hK⟩
    exact (href.2 ⟨by omega, fun j hj => hok j hj (by omega)⟩).symm
end
end Go.Proofs.YtdghfagipheabaaDoor
