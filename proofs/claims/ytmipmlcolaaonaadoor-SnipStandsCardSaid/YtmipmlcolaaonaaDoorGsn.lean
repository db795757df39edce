/- Helper text of this claim: MapK2, Sn0, Sn1, Kit7, Sn2, Sn3: lemmas and contracts that the proved statement rests on; no conditions of its own. -/
import Derived.Test.YtmipmlcolaaonaaDoorGws
import Derived.Test.YtmipmlcolaaonaaDoorGct
import Derived.Test.YtmipmlcolaaonaaDoorGwc
/-! Maps from strings: size, deletion; what a lookup finds after them. -/
namespace Go.Vc
open Go Go.Pw Go.RowKit
set_option linter.unusedVariables false
section
variable {P : Program} {w : World} {b : Nat} {m : SM} {t kt et : TypeId} {K : Value → World → Prop}
theorem SMap.keep {w' : World} {c : Nat → Prop} (h : SMap w b m) (k : Keeps w w' c) (hc : ¬ c b) : SMap w' b m := by
  obtain ⟨es, cl, hb, he⟩ := h
  have hlt : b < w.heap.size := by
    rcases Nat.lt_or_ge b w.heap.size with h' | h'
    · exact h'
    · rw [Array.getElem?_eq_none h'] at hb; cases hb
  exact ⟨es, cl, (k.block b hlt hc).trans hb, he⟩
theorem SMap.lt (h : SMap w b m) : b < w.heap.size := by
  obtain ⟨es, cl, hb, he⟩ := h
  rcases Nat.lt_or_ge b w.heap.size with h' | h'
  · exact h'
  · rw [Array.getElem?_eq_none h'] at hb; cases hb
theorem SMap.new (w : World) : SMap (w.alloc (.map #[] 0)) w.heap.size [] := ⟨#[], 0, heap_alloc_new w _, rfl⟩
theorem RunV.newMap {r : Option Value} (hr : r = none) (k : K (.map (some w.heap.size)) (w.alloc (.map #[] 0))) : RunV P (Instr.makeMap t r) w K := by
  subst hr
  exact RunV.of (by simp [Instr.makeMap]) k
theorem RunN.mapLen {ty : TypeId} {cs : Array Bool} (ht : P.underlying t = some (.map kt et)) (h : SMap w b m) (k : K (.int .i64 (m.length : Nat)) w) : RunN P (builtin .len #[t] ty cs [.map (some b)].toArray) w K := by
  obtain ⟨es, clock, hb, he⟩ := h
  have hl : es.size = m.length := by
    have := congrArg List.length he
    simpa using this
  refine ⟨_, w, ?_, k⟩
  simp [builtin, Builtin.len_, und_ok ht, getObj, Sem.run, hb, goInt, hl]
theorem RunN.mapDel {ty u : TypeId} {cs : Array Bool} (ht : P.underlying t = some (.map kt et)) (hk : P.underlying kt = some .string) (h : SMap w b m) (s : ByteArray) (k : ∀ w', SMap w' b (m.del s) → Keeps w w' (one_ b) → K (.tuple #[]) w') :
    RunN P (builtin .delete #[t, u] ty cs [.map (some b), .string s].toArray) w K := by
  have hlt := h.lt
  obtain ⟨es, clock, hb, he⟩ := h
  rcases findNow_str s es.toList m 0 he with ⟨a1, a2, _, a4⟩ | ⟨v, j, a1, a2, a3, a4, _, a6⟩
  · refine ⟨.tuple #[], setO w b (.map es clock), ?_, k _ ⟨_, _, setO_get _ hlt, by rw [a4]; exact he⟩ (setO_keeps _)⟩
    simp [builtin, Builtin.delete_, und_ok ht, getObj, setObj, Sem.run, hb, checkKey_str hk, Instr.findKey, und_ok hk, a2, setO]
  · refine ⟨.tuple #[], setO w b (.map (es.eraseIdxIfInBounds j) clock), ?_, k _ ⟨_, _, setO_get _ hlt, ?_⟩ (setO_keeps _)⟩
    · simp [builtin, Builtin.delete_, und_ok ht, getObj, setObj, Sem.run, hb, checkKey_str hk, Instr.findKey, und_ok hk, a3, setO]
    · rw [← a6]
      have hj : j < es.size := by simpa using a2
      simp [Array.eraseIdxIfInBounds, hj]
end
instance : LawfulBEq ByteArray where
  eq_of_beq {a b} h := by rw [ba_beq] at h; exact of_decide_eq_true h
  rfl {a} := by rw [ba_beq]; exact decide_eq_true rfl
def SM.keys (m : SM) : List ByteArray := m.map (·.1)
theorem SM.get_mem : ∀ (m : SM) (k : ByteArray), (m.get k).isSome = decide (k ∈ m.keys)
  | [], k => by simp [SM.get, SM.keys]
  | (s, v) :: r, k => by
    unfold SM.get
    by_cases h : k = s
    · rw [if_pos h]; simp [SM.keys, h]
    · rw [if_neg h, SM.get_mem r k]
      unfold SM.keys
      simp only [List.map_cons, List.mem_cons, h, false_or]
theorem SM.get_put : ∀ (m : SM) (k k' : ByteArray) (x : Value), (m.put k x).get k' = if k' = k then some x else m.get k'
  | [], k, k', x => by simp [SM.put, SM.get]
  | (s, v) :: r, k, k', x => by
    unfold SM.put
    by_cases h : k = s
    · subst h
      rw [if_pos rfl]
      simp only [SM.get]
      split <;> rfl
    · rw [if_neg h]
      simp only [SM.get]
      by_cases h2 : k' = s
      · rw [if_pos h2, if_pos h2, if_neg (fun e => h (by rw [← e, h2]))]
      · rw [if_neg h2, if_neg h2, SM.get_put r k k' x]
theorem SM.keys_put : ∀ (m : SM) (k : ByteArray) (x : Value), (m.put k x).keys = if k ∈ m.keys then m.keys else m.keys ++ [k]
  | [], k, x => by simp [SM.put, SM.keys]
  | (s, v) :: r, k, x => by
    unfold SM.put
    by_cases h : k = s
    · subst h; simp [SM.keys]
    · rw [if_neg h]
      have ih := SM.keys_put r k x
      by_cases hk : k ∈ SM.keys r
      · rw [if_pos hk] at ih
        have hk2 : k ∈ SM.keys ((s, v) :: r) := List.mem_cons_of_mem _ hk
        rw [if_pos hk2]
        show s :: SM.keys (SM.put r k x) = s :: SM.keys r
        rw [ih]
      · rw [if_neg hk] at ih
        have hk2 : ¬ k ∈ SM.keys ((s, v) :: r) := fun e => by
          rcases List.mem_cons.1 e with e | e
          · exact h e
          · exact hk e
        rw [if_neg hk2]
        show s :: SM.keys (SM.put r k x) = s :: (SM.keys r ++ [k])
        rw [ih]
theorem SM.keys_del : ∀ (m : SM) (k : ByteArray), (m.del k).keys = m.keys.erase k
  | [], k => rfl
  | (s, v) :: r, k => by
    unfold SM.del
    by_cases h : k = s
    · subst h; simp [SM.keys]
    · rw [if_neg h]
      have ih := SM.keys_del r k
      simp only [SM.keys, List.map_cons] at ih ⊢
      rw [ih, List.erase_cons_tail (by simp; exact fun e => h e.symm)]
theorem SM.get_del_ne : ∀ (m : SM) (k k' : ByteArray), k' ≠ k → (m.del k).get k' = m.get k'
  | [], k, k', _ => rfl
  | (s, v) :: r, k, k', hne => by
    unfold SM.del
    by_cases h : k = s
    · subst h
      rw [if_pos rfl]
      simp only [SM.get, if_neg hne]
    · rw [if_neg h]
      simp only [SM.get, SM.get_del_ne r k k' hne]
theorem SM.get_del_same (m : SM) (k : ByteArray) (hn : m.keys.Nodup) : (m.del k).get k = none := by
  have h := SM.get_mem (m.del k) k
  have hk : ¬ k ∈ (m.del k).keys := fun e => by
    rw [SM.keys_del, List.Nodup.mem_erase_iff hn] at e
    exact e.1 rfl
  rw [decide_eq_false hk] at h
  simpa using h
theorem SM.nodup_put (m : SM) (k : ByteArray) (x : Value) (hn : m.keys.Nodup) : (m.put k x).keys.Nodup := by
  rw [SM.keys_put]
  split
  · exact hn
  · rename_i h
    rw [List.nodup_append]
    exact ⟨hn, by simp, fun a ha b hb => by simp at hb; subst hb; rintro rfl; exact h ha⟩
theorem SM.nodup_del (m : SM) (k : ByteArray) (hn : m.keys.Nodup) : (m.del k).keys.Nodup := by
  rw [SM.keys_del]; exact hn.erase k
end Go.Vc

namespace Go.Cs
open Go.Lib
set_option linter.unusedVariables false
/-! ### Snippets: plain -/
abbrev Wd3 := List UInt8 × Nat × Nat
/-- The sought terms: what a word's text must be in. -/
def soughtL (words : List (List UInt8)) : List (List UInt8) := words.flatMap fun x => (wordsL x).map (·.1)
/-- Distinct sought terms, in order of their first place. -/
def seenL (ks : List (List UInt8)) : List Wd3 → List (List UInt8) → List (List UInt8)
  | [], seen => seen
  | x :: r, seen => seenL ks r (if x.1 ∈ ks ∧ ¬ x.1 ∈ seen then seen ++ [x.1] else seen)
def showsL (ks : List (List UInt8)) (ws : List Wd3) : Nat := (seenL ks ws []).length
theorem seen_mem (ks : List (List UInt8)) : ∀ (ws : List Wd3) (seen : List (List UInt8)) (t : List UInt8), t ∈ seenL ks ws seen ↔ t ∈ seen ∨ (t ∈ ks ∧ ∃ x ∈ ws, x.1 = t)
  | [], seen, t => by simp [seenL]
  | x :: r, seen, t => by
    rw [seenL, seen_mem ks r]
    by_cases h : x.1 ∈ ks ∧ ¬ x.1 ∈ seen
    · rw [if_pos h]
      simp only [List.mem_append, List.mem_cons, List.not_mem_nil, or_false]
      constructor
      · rintro ((h1 | rfl) | ⟨h1, y, h2, h3⟩)
        · exact .inl h1
        · exact .inr ⟨h.1, x, .inl rfl, rfl⟩
        · exact .inr ⟨h1, y, .inr h2, h3⟩
      · rintro (h1 | ⟨h1, y, rfl | h2, h3⟩)
        · exact .inl (.inl h1)
        · exact .inl (.inr h3.symm)
        · exact .inr ⟨h1, y, h2, h3⟩
    · rw [if_neg h]
      simp only [List.mem_cons]
      constructor
      · rintro (h1 | ⟨h1, y, h2, h3⟩)
        · exact .inl h1
        · exact .inr ⟨h1, y, .inr h2, h3⟩
      · rintro (h1 | ⟨h1, y, rfl | h2, h3⟩)
        · exact .inl h1
        · subst h3
          by_cases hs : y.1 ∈ seen
          · exact .inl hs
          · exact (h ⟨h1, hs⟩).elim
        · exact .inr ⟨h1, y, h2, h3⟩
theorem seen_nodup (ks : List (List UInt8)) : ∀ (ws : List Wd3) (seen : List (List UInt8)), seen.Nodup → (seenL ks ws seen).Nodup
  | [], seen, h => h
  | x :: r, seen, h => by
    rw [seenL]
    refine seen_nodup ks r _ ?_
    split
    · rename_i hx
      rw [List.nodup_append]
      refine ⟨h, by simp, fun a ha b hb => ?_⟩
      simp at hb; subst hb
      rintro rfl
      exact hx.2 ha
    · exact h
theorem nodup_len {α : Type} [DecidableEq α] : ∀ (a b : List α), a.Nodup → (∀ x ∈ a, x ∈ b) → a.length ≤ b.length
  | [], b, _, _ => Nat.zero_le _
  | x :: r, b, hn, hs => by
    rw [List.nodup_cons] at hn
    have hx : x ∈ b := hs x (by simp)
    have h1 := nodup_len r (b.erase x) hn.2 fun y hy => by
      have hne : y ≠ x := fun e => hn.1 (e ▸ hy)
      exact (List.mem_erase_of_ne hne).2 (hs y (by simp [hy]))
    have h2 := List.length_erase_of_mem hx
    have h3 : 0 < b.length := List.length_pos_iff.2 fun e => by rw [e] at hx; cases hx
    simp only [List.length_cons]
    omega
theorem nodup_len_eq {α : Type} [DecidableEq α] (a b : List α) (ha : a.Nodup) (hb : b.Nodup) (h : ∀ x, x ∈ a ↔ x ∈ b) : a.length = b.length :=
  Nat.le_antisymm (nodup_len a b ha fun x hx => (h x).1 hx) (nodup_len b a hb fun x hx => (h x).2 hx)
theorem shows_of (ks : List (List UInt8)) (ws : List Wd3) (a : List (List UInt8)) (ha : a.Nodup) (h : ∀ t, t ∈ a ↔ t ∈ ks ∧ ∃ x ∈ ws, x.1 = t) : a.length = showsL ks ws :=
  nodup_len_eq _ _ ha (seen_nodup ks ws [] (by simp)) fun t => by rw [h, seen_mem]; simp
theorem shows_mono (ks : List (List UInt8)) (ws vs : List Wd3) (h : ∀ x ∈ ws, ∃ y ∈ vs, y.1 = x.1) : showsL ks ws ≤ showsL ks vs :=
  nodup_len _ _ (seen_nodup ks ws [] (by simp)) fun t ht => by
    rw [seen_mem] at ht ⊢
    rcases ht with h0 | ⟨h1, x, hx, rfl⟩
    · cases h0
    · obtain ⟨y, hy, e⟩ := h x hx
      exact .inr ⟨h1, y, hy, e⟩
theorem shows_ks (ks ks' : List (List UInt8)) (ws : List Wd3) (h : ∀ t, t ∈ ks ↔ t ∈ ks') : showsL ks ws = showsL ks' ws :=
  (shows_of ks' ws _ (seen_nodup ks ws [] (by simp)) fun t => by rw [seen_mem, h]; simp)
/-- Does the word end within the width, counted from f? -/
def fitB (f : Nat) (width : Int) (x : Wd3) : Bool := decide (((x.2.2 : Nat) : Int) - ((f : Nat) : Int) ≤ width)
/-- The end of the window of the word i. -/
def winE (l : List Wd3) (width : Int) (i : Nat) : Nat := i + ((l.drop i).takeWhile (fitB (l.getD i ([], 0, 0)).2.1 width)).length
theorem winE_le (l : List Wd3) (width : Int) (i : Nat) (hi : i ≤ l.length) : i ≤ winE l width i ∧ winE l width i ≤ l.length := by
  unfold winE
  have := (List.takeWhile_prefix (fitB (l.getD i ([], 0, 0)).2.1 width) (l := l.drop i)).length_le
  rw [List.length_drop] at this
  omega
theorem takeWhile_split {α : Type} (p : α → Bool) : ∀ (l : List α) (j : Nat), (∀ x ∈ l.take j, p x = true) → (j ≤ l.length) → (∀ x, l[j]? = some x → p x = false) → (l.takeWhile p).length = j
  | [], j, _, hj, _ => by simp at hj; simp [hj]
  | a :: r, 0, _, _, h => by
    have := h a rfl
    simp [this]
  | a :: r, j + 1, h1, hj, h => by
    have ha := h1 a (by simp)
    simp only [List.takeWhile_cons, ha, if_true, List.length_cons]
    rw [takeWhile_split p r j (fun x hx => h1 x (by simp [hx])) (by simpa using hj) (fun x hx => h x (by simpa using hx))]
theorem takeWhile_all {α : Type} (p : α → Bool) : ∀ (l : List α), ∀ x ∈ l.take (l.takeWhile p).length, p x = true
  | [], x, h => by simp at h
  | a :: r, x, h => by
    by_cases ha : p a = true
    · simp only [List.takeWhile_cons, ha, if_true, List.length_cons, List.take_succ_cons, List.mem_cons] at h
      rcases h with rfl | h
      · exact ha
      · exact takeWhile_all p r x h
    · simp [ha] at h
/-- The window's words. -/
def winW (l : List Wd3) (width : Int) (i : Nat) : List Wd3 := (l.take (winE l width i)).drop i
/-- The first of the best windows among the first n words. -/
def bestN (ks : List (List UInt8)) (l : List Wd3) (width : Int) : Nat → Option Nat
  | 0 => none
  | i + 1 => match bestN ks l width i with
    | none => if i < winE l width i then some i else none
    | some f => if i < winE l width i ∧ showsL ks (winW l width f) < showsL ks (winW l width i) then some i else some f
/-- The longest prefix of whole pieces. -/
def startN : List (List UInt8) → Nat → Int → Nat
  | [], n, _ => n
  | u :: r, n, width => if ((n + u.length : Nat) : Int) ≤ width then startN r (n + u.length) width else n
def marksL (ks : List (List UInt8)) (at_ : Nat) (ws : List Wd3) : List (Nat × Nat) := (ws.filter fun x => decide (x.1 ∈ ks)).map fun x => (x.2.1 - at_, x.2.2 - at_)
def fromOf (l : List Wd3) (i : Nat) : Nat := (l.getD i ([], 0, 0)).2.1
def toOf (l : List Wd3) (i : Nat) : Nat := (l.getD i ([], 0, 0)).2.2
/-- A snippet: its text and its marks. -/
def snipL (ks : List (List UInt8)) (text : List UInt8) (width : Int) : List UInt8 × List (Nat × Nat) :=
  match bestN ks (wordsL text) width (wordsL text).length with
  | none => (text.take (startN (units text) 0 width), [])
  | some f => (cutL text (fromOf (wordsL text) f, toOf (wordsL text) (winE (wordsL text) width f - 1)), marksL ks (fromOf (wordsL text) f) (winW (wordsL text) width f))
theorem bestN_spec (ks : List (List UInt8)) (l : List Wd3) (width : Int) : ∀ n f, bestN ks l width n = some f → f < n ∧ f < winE l width f ∧ (∀ i, i < n → i < winE l width i → showsL ks (winW l width i) ≤ showsL ks (winW l width f))
  | 0, f, h => by cases h
  | n + 1, f, h => by
    rw [bestN] at h
    cases hb : bestN ks l width n with
    | none =>
      rw [hb] at h
      dsimp only at h
      have hno : ∀ i, i < n → ¬ i < winE l width i := bestN_none ks l width n hb
      split at h
      · rename_i hw
        injection h with h
        subst h
        refine ⟨by omega, hw, fun i hi hwi => ?_⟩
        rcases (show i < n ∨ i = n by omega) with h1 | h1
        · exact (hno i h1 hwi).elim
        · subst h1; exact Nat.le_refl _
      · cases h
    | some g =>
      rw [hb] at h
      dsimp only at h
      obtain ⟨h1, h2, h3⟩ := bestN_spec ks l width n g hb
      split at h
      · rename_i hw
        injection h with h
        subst h
        refine ⟨by omega, hw.1, fun i hi hwi => ?_⟩
        rcases (show i < n ∨ i = n by omega) with h4 | h4
        · exact Nat.le_trans (h3 i h4 hwi) (Nat.le_of_lt hw.2)
        · subst h4; exact Nat.le_refl _
      · rename_i hw
        injection h with h
        subst h
        refine ⟨by omega, h2, fun i hi hwi => ?_⟩
        rcases (show i < n ∨ i = n by omega) with h4 | h4
        · exact h3 i h4 hwi
        · subst h4
          exact Nat.le_of_not_lt fun hlt => hw ⟨hwi, hlt⟩
where
  bestN_none (ks : List (List UInt8)) (l : List Wd3) (width : Int) : ∀ n, bestN ks l width n = none → ∀ i, i < n → ¬ i < winE l width i
  | 0, _, i, hi => by omega
  | n + 1, h, i, hi => by
    rw [bestN] at h
    cases hb : bestN ks l width n with
    | none =>
      rw [hb] at h
      dsimp only at h
      split at h
      · cases h
      · rename_i hw
        rcases (show i < n ∨ i = n by omega) with h1 | h1
        · exact bestN_none ks l width n hb i h1
        · subst h1; exact hw
    | some g =>
      rw [hb] at h
      dsimp only at h
      split at h <;> cases h
/-- Words in order. -/
def Ord (l : List Wd3) : Prop := ∀ i j, i < j → j < l.length → toOf l i ≤ fromOf l j
def Ord1 (l : List Wd3) : Prop := ∀ i, i < l.length → fromOf l i < toOf l i
end Go.Cs

namespace Go.Cs
open Go.Lib
set_option linter.unusedVariables false
/-! ### Words in order; counting; the moving window: plain -/
theorem us_pos (l : List UInt8) : ∀ q ∈ us l, 1 ≤ q.2 := by
  induction l using dec_ind with
  | nil => intro q hq; cases hq
  | step l hne ih =>
    intro q hq
    rw [us_step l hne] at hq
    rcases List.mem_cons.1 hq with rfl | hq
    · exact decodeL_width l
    · exact ih q hq
theorem W_pos {u : List (Nat × Nat)} (h : ∀ q ∈ u, 1 ≤ q.2) (hne : u ≠ []) : 1 ≤ W u := by
  obtain ⟨q, r, rfl⟩ := List.exists_cons_of_ne_nil hne
  rw [W_cons]
  have := h q (by simp); omega
theorem seg_ne {u : List (Nat × Nat)} (h : Seg u) : u ≠ [] := by
  rcases h with h | ⟨n, rfl⟩
  · exact h.1
  · simp
theorem chain_ord (u0 : List (Nat × Nat)) (h0 : ∀ q ∈ u0, 1 ≤ q.2) : ∀ (ps : List (Nat × Nat)) (e : Nat), Chain u0 e ps → (∀ p ∈ ps, e ≤ p.1 ∧ p.1 < p.2 ∧ p.2 ≤ W u0) ∧ ps.Pairwise (fun p q => p.2 ≤ q.1)
  | [], e, _ => ⟨by simp, .nil⟩
  | p :: ps, e, h => by
    obtain ⟨a, z, s, c, hu, ha, hz, hp, hs, hc⟩ := h
    obtain ⟨i1, i2⟩ := chain_ord u0 h0 ps p.2 hc
    have hsp : 1 ≤ W s := W_pos (fun q hq => h0 q (by rw [hu]; simp [hq])) (seg_ne hs)
    have hw : W u0 = W a + W z + W s + W c := by rw [hu]; simp only [W_app]
    have hp1 : p.1 = W a + W z := by rw [hp]
    have hp2 : p.2 = W a + W z + W s := by rw [hp]
    refine ⟨fun q hq => ?_, List.pairwise_cons.2 ⟨fun q hq => (i1 q hq).1, i2⟩⟩
    rcases List.mem_cons.1 hq with rfl | hq
    · omega
    · have := i1 q hq; omega
theorem places_chain (l : List UInt8) : Chain (us l) 0 (wd (us l) 0 none) := by
  have := wd_chain (us l) (us l) [] [] [] none rfl (by simp [Zeros]) (us_class l) (.inl ⟨rfl, rfl⟩)
  simpa [W_nil] using this
/-- Words in order: each has bytes, ends in the text, and ends ahead of the next. -/
structure InOrder (l : List Wd3) (n : Nat) : Prop where
  each : ∀ i, i < l.length → fromOf l i < toOf l i ∧ toOf l i ≤ n
  next : ∀ i j, i < j → j < l.length → toOf l i ≤ fromOf l j
theorem getD_map_mk (l : List UInt8) (ps : List (Nat × Nat)) (i : Nat) (hi : i < ps.length) : (ps.map (mk l)).getD i ([], 0, 0) = mk l ps[i] := by
  rw [List.getD_eq_getElem?_getD, List.getElem?_map, List.getElem?_eq_getElem hi]; rfl
theorem words_order (l : List UInt8) : InOrder (wordsL l) l.length := by
  obtain ⟨h1, h2⟩ := chain_ord (us l) (us_pos l) _ 0 (places_chain l)
  rw [us_W] at h1
  rw [wordsL_eq]
  generalize wd (us l) 0 none = ps at *
  refine ⟨fun i hi => ?_, fun i j hij hj => ?_⟩
  · rw [List.length_map] at hi
    unfold fromOf toOf
    rw [getD_map_mk l ps i hi]
    have := h1 ps[i] (List.getElem_mem hi)
    exact ⟨this.2.1, this.2.2⟩
  · rw [List.length_map] at hj
    unfold fromOf toOf
    rw [getD_map_mk l ps i (by omega), getD_map_mk l ps j hj]
    exact List.pairwise_iff_getElem.1 h2 i j (by omega) hj hij
theorem InOrder.mono {l : List Wd3} {n : Nat} (h : InOrder l n) {i j : Nat} (hij : i ≤ j) (hj : j < l.length) : fromOf l i ≤ fromOf l j := by
  rcases Nat.lt_or_ge i j with h1 | h1
  · have := (h.each i (by omega)).1
    have := h.next i j h1 hj
    omega
  · have : i = j := by omega
    subst this; exact Nat.le_refl _
/-- How often a sought term stands among the words. -/
def cnt (ks : List (List UInt8)) (ws : List Wd3) (t : List UInt8) : Nat := if t ∈ ks then (ws.filter fun x => decide (x.1 = t)).length else 0
theorem cnt_nil (ks : List (List UInt8)) (t : List UInt8) : cnt ks [] t = 0 := by unfold cnt; split <;> rfl
theorem cnt_cons (ks : List (List UInt8)) (x : Wd3) (ws : List Wd3) (t : List UInt8) : cnt ks (x :: ws) t = (if x.1 = t ∧ t ∈ ks then 1 else 0) + cnt ks ws t := by
  unfold cnt
  by_cases h : t ∈ ks
  · rw [if_pos h, if_pos h]
    by_cases h2 : x.1 = t
    · rw [if_pos ⟨h2, h⟩]; simp [h2]; omega
    · rw [if_neg (fun e => h2 e.1)]; simp [h2]
  · rw [if_neg h, if_neg h, if_neg (fun e => h e.2)]
theorem cnt_snoc (ks : List (List UInt8)) (x : Wd3) (ws : List Wd3) (t : List UInt8) : cnt ks (ws ++ [x]) t = cnt ks ws t + (if x.1 = t ∧ t ∈ ks then 1 else 0) := by
  unfold cnt
  by_cases h : t ∈ ks
  · rw [if_pos h, if_pos h, List.filter_append, List.length_append]
    by_cases h2 : x.1 = t
    · rw [if_pos ⟨h2, h⟩]; simp [h2]
    · rw [if_neg (fun e => h2 e.1)]; simp [h2]
  · rw [if_neg h, if_neg h, if_neg (fun e => h e.2)]
theorem cnt_pos (ks : List (List UInt8)) (ws : List Wd3) (t : List UInt8) : cnt ks ws t ≠ 0 ↔ t ∈ ks ∧ ∃ x ∈ ws, x.1 = t := by
  unfold cnt
  by_cases h : t ∈ ks
  · rw [if_pos h]
    constructor
    · intro h1
      obtain ⟨x, hx⟩ := List.exists_mem_of_length_pos (Nat.pos_of_ne_zero h1)
      rw [List.mem_filter] at hx
      exact ⟨h, x, hx.1, of_decide_eq_true hx.2⟩
    · rintro ⟨_, x, hx, he⟩ h0
      have : x ∈ ws.filter fun x => decide (x.1 = t) := List.mem_filter.2 ⟨hx, decide_eq_true he⟩
      rw [List.length_eq_zero_iff.1 h0] at this
      cases this
  · rw [if_neg h]
    exact ⟨fun h => (h rfl).elim, fun e => (h e.1).elim⟩
theorem cnt_le (ks : List (List UInt8)) (ws : List Wd3) (t : List UInt8) : cnt ks ws t ≤ ws.length := by
  unfold cnt
  split
  · exact List.length_filter_le _ _
  · exact Nat.zero_le _
/-- The words from i up to j. -/
def cutW (l : List Wd3) (i j : Nat) : List Wd3 := (l.take j).drop i
theorem cutW_nil (l : List Wd3) (i : Nat) : cutW l i i = [] := by unfold cutW; rw [List.drop_eq_nil_iff, List.length_take]; omega
theorem cutW_snoc (l : List Wd3) (i j : Nat) (hij : i ≤ j) (hj : j < l.length) : cutW l i (j + 1) = cutW l i j ++ [l[j]] := by
  unfold cutW
  rw [List.take_succ_eq_append_getElem hj, List.drop_append_of_le_length (by rw [List.length_take]; omega)]
theorem cutW_cons (l : List Wd3) (i j : Nat) (hij : i < j) (hj : j ≤ l.length) : cutW l i j = (l[i]'(by omega)) :: cutW l (i + 1) j := by
  unfold cutW
  rw [List.drop_eq_getElem_cons (by rw [List.length_take]; omega), List.getElem_take]
theorem cutW_len (l : List Wd3) (i j : Nat) (hj : j ≤ l.length) : (cutW l i j).length = j - i := by
  unfold cutW; rw [List.length_drop, List.length_take]; omega
theorem cutW_mem (l : List Wd3) (i j : Nat) (x : Wd3) (hj : j ≤ l.length) : x ∈ cutW l i j ↔ ∃ k, i ≤ k ∧ k < j ∧ l[k]? = some x := by
  unfold cutW
  rw [List.mem_iff_getElem?]
  constructor
  · rintro ⟨k, hk⟩
    rw [List.getElem?_drop, List.getElem?_take] at hk
    split at hk
    · exact ⟨i + k, by omega, by assumption, hk⟩
    · cases hk
  · rintro ⟨k, h1, h2, h3⟩
    refine ⟨k - i, ?_⟩
    rw [List.getElem?_drop, List.getElem?_take, show i + (k - i) = k by omega, if_pos h2]
    exact h3
/-- All words from i up to j end within the width. -/
def Fits (l : List Wd3) (width : Int) (i j : Nat) : Prop := ∀ k, i ≤ k → k < j → ((toOf l k : Nat) : Int) - ((fromOf l i : Nat) : Int) ≤ width
theorem winE_of (l : List Wd3) (width : Int) (i j : Nat) (hij : i ≤ j) (hj : j ≤ l.length) (hf : Fits l width i j) (hn : j < l.length → ¬ ((toOf l j : Nat) : Int) - ((fromOf l i : Nat) : Int) ≤ width) : winE l width i = j := by
  unfold winE
  rw [takeWhile_split _ (l.drop i) (j - i)]
  · omega
  · intro x hx
    obtain ⟨k, hk⟩ := List.mem_iff_getElem?.1 hx
    rw [List.getElem?_take] at hk
    split at hk
    · rename_i hlt
      rw [List.getElem?_drop] at hk
      have h := hf (i + k) (by omega) (by omega)
      unfold fitB
      refine decide_eq_true ?_
      unfold toOf at h
      rw [List.getD_eq_getElem?_getD, hk] at h
      exact h
    · cases hk
  · rw [List.length_drop]; omega
  · intro x hx
    rw [List.getElem?_drop, show i + (j - i) = j by omega] at hx
    have hlt : j < l.length := (List.getElem?_eq_some_iff.1 hx).1
    have h := hn hlt
    unfold fitB
    refine decide_eq_false ?_
    unfold toOf at h
    rw [List.getD_eq_getElem?_getD, hx] at h
    exact h
theorem winE_fits (l : List Wd3) (width : Int) (i : Nat) (hi : i ≤ l.length) : Fits l width i (winE l width i) := by
  intro k h1 h2
  have h := takeWhile_all (fitB (l.getD i ([], 0, 0)).2.1 width) (l.drop i)
  have hle := (winE_le l width i hi).2
  have hk : k < l.length := by omega
  have hm : l[k] ∈ (l.drop i).take ((l.drop i).takeWhile (fitB (l.getD i ([], 0, 0)).2.1 width)).length := by
    rw [List.mem_iff_getElem?]
    refine ⟨k - i, ?_⟩
    unfold winE at h2
    rw [List.getElem?_take, if_pos (by omega), List.getElem?_drop, show i + (k - i) = k by omega, List.getElem?_eq_getElem hk]
  have := of_decide_eq_true (h _ hm)
  unfold toOf fromOf
  rw [List.getD_eq_getElem?_getD (i := k), List.getElem?_eq_getElem hk]
  exact this
theorem winE_stop (l : List Wd3) (width : Int) (i : Nat) (hi : i ≤ l.length) (h : winE l width i < l.length) : ¬ ((toOf l (winE l width i) : Nat) : Int) - ((fromOf l i : Nat) : Int) ≤ width := by
  intro hf
  have h1 := winE_fits l width i hi
  have h2 := winE_le l width i hi
  -- with one word more the window would be longer
  have h3 : Fits l width i (winE l width i + 1) := fun k hk1 hk2 => by
    rcases (show k < winE l width i ∨ k = winE l width i by omega) with h4 | h4
    · exact h1 k hk1 h4
    · subst h4; exact hf
  have key : ∀ n j, l.length - j = n → i ≤ j → j ≤ l.length → Fits l width i j → j ≤ winE l width i := by
    intro n
    induction n with
    | zero =>
      intro j hj h4 h5 h6
      exact Nat.le_of_eq (winE_of l width i j h4 h5 h6 (fun h => by omega)).symm
    | succ n ih =>
      intro j hj h4 h5 h6
      by_cases hn : ((toOf l j : Nat) : Int) - ((fromOf l i : Nat) : Int) ≤ width
      · have := ih (j + 1) (by omega) (by omega) (by omega) (fun k hk1 hk2 => by
          rcases (show k < j ∨ k = j by omega) with h7 | h7
          · exact h6 k hk1 h7
          · subst h7; exact hn)
        omega
      · exact Nat.le_of_eq (winE_of l width i j h4 h5 h6 (fun _ => hn)).symm
  have := key _ (winE l width i + 1) rfl (by omega) (by omega) h3
  omega
theorem fits_next {l : List Wd3} {n : Nat} (ho : InOrder l n) {width : Int} {i j : Nat} (hi : i + 1 < l.length ∨ j ≤ i + 1) (h : Fits l width i j) : Fits l width (i + 1) j := fun k h1 h2 => by
  have := h k (by omega) h2
  rcases hi with hi | hi
  · have h3 := ho.mono (Nat.le_succ i) hi
    show ((toOf l k : Nat) : Int) - ((fromOf l (i + 1) : Nat) : Int) ≤ width
    have h4 : fromOf l i ≤ fromOf l (i + 1) := h3
    omega
  · omega
end Go.Cs

namespace Go.Pw
open Go
set_option linter.unusedVariables false
set_option linter.unusedSectionVars false
/-! As Kit6's, but the last operation is of any kind (it need not be calm): such as a comparison of arrays. -/
section
variable {P : Program} {ops : Array Oper} {S : World → Prop} {hs : Option Tmp → Bool}
theorem anyOrderY {Q : Exit → Act → World → Prop} {m : Array Nat} (ok : TextOkH P hs ops m) {z : Nat} (hz : z + 1 = ops.size) (hall : ∀ j, j < z → (m.getD z 0).testBit j = true) : ∀ (fuel : Nat) (L : List Nat) (listed : Array Bool) (a : Act) (w : World),
    L.length = fuel → listed.size = ops.size → Closed ops listed → L.Pairwise (· < ·) → (∀ j ∈ L, j < z) → (∀ j, j < ops.size → (listed.getD j false = false ↔ j ∈ L ∨ j = z)) →
    S w → wpIh P S hs ops (fun a w => S w → wpOp P ops Q z (fun a w => Q .normal a w) a w) L a w → wpAny P .any ops Q (fuel + 1) listed a w := by
  intro fuel
  induction fuel with
  | zero =>
    intro L listed a w hlen hsz hcl hpw hlt' hmem hw0 h
    obtain rfl : L = [] := List.eq_nil_of_length_eq_zero hlen
    have hzl : listed.getD z false = false := (hmem z (by omega)).2 (.inr rfl)
    have hrd : ∀ i, i ∈ Region.ready .any ops listed ↔ i = z := by
      intro i
      constructor
      · intro hi
        obtain ⟨h0, o, ho, _⟩ := mem_ready.1 hi
        have hlt : i < ops.size := (Array.getElem?_eq_some_iff.1 ho).1
        have h0' : listed.getD i false = false := by
          have : i < listed.size := by omega
          simp [this] at h0 ⊢; exact h0
        rcases (hmem i hlt).1 h0' with h | h
        · cases h
        · exact h
      · rintro rfl
        refine mem_ready.2 ⟨?_, ops[i]'(by omega), Array.getElem?_eq_getElem (by omega), fun e he hb => ?_⟩
        · have : i < listed.size := by omega
          simp [this] at hzl ⊢; exact hzl
        · have hlt' := ok.back i _ (Array.getElem?_eq_getElem (by omega)) e he hb
          cases hl : listed.getD e.on false with
          | true => rfl
          | false =>
            rcases (hmem e.on (by omega)).1 hl with h | h
            · cases h
            · omega
    refine ⟨fun hr => ?_, fun i hi => ?_⟩
    · have := (hrd z).2 rfl
      rw [hr] at this; cases this
    · obtain rfl := (hrd i).1 hi
      refine wpOp_mono (fun a w h => ?_) (h hw0)
      refine ⟨?_, h⟩
      refine List.eq_nil_iff_forall_not_mem.2 fun j hj => ?_
      obtain ⟨h0, o, ho, _⟩ := mem_ready.1 hj
      have hlt : j < ops.size := (Array.getElem?_eq_some_iff.1 ho).1
      by_cases hji : j = i
      · subst hji
        have : j < listed.size := by omega
        simp [this] at h0
      · have h0' : listed.getD j false = false := by
          have h1 : j < listed.size := by omega
          have h2 : (listed.setIfInBounds i true).getD j false = false := by
            simp [h1] at h0 ⊢; exact h0
          rwa [getD_set_ne false (fun h => hji h.symm)] at h2
        rcases (hmem j hlt).1 h0' with h | h
        · cases h
        · exact hji h
  | succ fuel ih =>
    intro L listed a w hlen hsz hcl hpw hlt' hmem hw0 h
    refine ⟨fun hr => ?_, fun i hi => ?_⟩
    · cases L with
      | nil => cases hlen
      | cons i L =>
        exfalso
        have hiz := hlt' i List.mem_cons_self
        have h0 : listed.getD i false = false := (hmem i (by omega)).2 (.inl List.mem_cons_self)
        have hrdy : i ∈ Region.ready .any ops listed := by
          refine mem_ready.2 ⟨?_, ops[i]'(by omega), Array.getElem?_eq_getElem (by omega), fun e he hb => ?_⟩
          · have : i < listed.size := by omega
            simp [this] at h0 ⊢; exact h0
          · have hlt2 := ok.back i _ (Array.getElem?_eq_getElem (by omega)) e he hb
            cases hl : listed.getD e.on false with
            | true => rfl
            | false =>
              rcases (hmem e.on (by omega)).1 hl with hin | hin
              · rcases List.mem_cons.1 hin with heq | hin
                · omega
                · have := (List.pairwise_cons.1 hpw).1 _ hin; omega
              · omega
        rw [hr] at hrdy; cases hrdy
    · obtain ⟨h0, o, ho, hdeps⟩ := mem_ready.1 hi
      have hlt : i < ops.size := (Array.getElem?_eq_some_iff.1 ho).1
      have hil : i < listed.size := by omega
      have h0' : listed.getD i false = false := by simp [hil] at h0 ⊢; exact h0
      have hin : i ∈ L := by
        rcases (hmem i hlt).1 h0' with h | h
        · exact h
        · exfalso
          subst h
          obtain ⟨j, L', rfl⟩ := List.exists_cons_of_ne_nil (l := L) (by rintro rfl; simp at hlen)
          have hjz := hlt' j List.mem_cons_self
          have := dep_listedH ok hcl i i o (Nat.le_refl _) ho hdeps j hjz (hall j hjz)
          rw [(hmem j (by omega)).2 (.inl List.mem_cons_self)] at this; cases this
      obtain ⟨pre, post, rfl⟩ := List.append_of_mem hin
      have hpre : ∀ j ∈ pre, j < i := fun j hj => (List.pairwise_append.1 hpw).2.2 j hj i List.mem_cons_self
      have hiz : i < z := hlt' i hin
      refine wpOp_mono (fun a w h => ?_) (wpOp_of_TIh (bubbleH ok ho pre post (fun j hj => ⟨hpre j hj, ?_⟩) a w hw0 h) hw0)
      · refine ih (pre ++ post) _ a w (by simp at hlen ⊢; omega) (by simp [hsz]) ?_ ?_ ?_ ?_ h.1 h.2
        · intro k p hk hl e he hb
          by_cases hki : k = i
          · subst hki
            obtain rfl : p = o := Option.some.inj (hk.symm.trans ho)
            exact getD_set_true (hdeps e he hb)
          · rw [getD_set_ne false (fun h => hki h.symm)] at hl
            exact getD_set_true (hcl k p hk hl e he hb)
        · exact hpw.sublist (List.Sublist.append_left (List.sublist_cons_self _ _) _)
        · intro j hj
          rcases List.mem_append.1 hj with hj | hj
          · exact hlt' j (List.mem_append_left _ hj)
          · exact hlt' j (List.mem_append_right _ (List.mem_cons_of_mem _ hj))
        · intro j hjs
          have hne : j ∈ pre ++ post → j ≠ i := fun hj e => by
            subst e
            rcases List.mem_append.1 hj with hj | hj
            · have := hpre _ hj; omega
            · have := (List.pairwise_cons.1 (List.pairwise_append.1 hpw).2.1).1 _ hj; omega
          constructor
          · intro k2
            have hji : j ≠ i := fun e => by subst e; simp [hil] at k2
            rw [getD_set_ne false (fun h => hji h.symm)] at k2
            rcases (hmem j hjs).1 k2 with hj | hj
            · left
              rcases List.mem_append.1 hj with hj | hj
              · exact List.mem_append_left _ hj
              · rcases List.mem_cons.1 hj with rfl | hj
                · exact absurd rfl hji
                · exact List.mem_append_right _ hj
            · exact .inr hj
          · intro hj
            have hji : j ≠ i := by
              rcases hj with hj | hj
              · exact hne hj
              · omega
            rw [getD_set_ne false (fun h => hji h.symm)]
            refine (hmem j hjs).2 ?_
            rcases hj with hj | hj
            · left
              rcases List.mem_append.1 hj with hj | hj
              · exact List.mem_append_left _ hj
              · exact List.mem_append_right _ (List.mem_cons_of_mem _ hj)
            · exact .inr hj
      · cases hm : (m.getD i 0).testBit j with
        | false => rfl
        | true =>
          have hl := dep_listedH ok hcl i i o (Nat.le_refl _) ho hdeps j (hpre j hj) hm
          have := (hmem j (by have := hpre j hj; omega)).2 (.inl (List.mem_append_left _ hj))
          rw [hl] at this; cases this
theorem wp_region_heldAny {Q : Exit → Act → World → Prop} {id : Nat} {pre : List Oper} {o : Oper} {a : Act} {w : World} (hm : P.follows .mixedOrders = true) (hs : Option Tmp → Bool) (S : World → Prop) (hw0 : S w.drew)
    (hB : textH P hs (pre ++ [o]).toArray = true) (hL : lastB (pre ++ [o]).toArray = true)
    (h : wpTh P S hs (pre ++ [o]).toArray (fun a w => S w → wpList P (pre ++ [o]).toArray Q [o] a w) pre a w.drew) : (Code.region id (pre ++ [o]).toArray true).wp P Q a w := by
  refine wp_region_any hm ?_
  have ok := textOkH_of hB
  have hz : ∀ j, (Array.replicate (pre ++ [o]).toArray.size false).getD j false = false := fun j => by
    simp only [Array.getD_eq_getD_getElem?, Array.getElem?_replicate]; split <;> rfl
  have hsz : (pre ++ [o]).toArray.size = pre.length + 1 := by simp
  have hget : (pre ++ [o]).toArray[pre.length]? = some o := by simp
  have key := anyOrderY (S := S) (Q := Q) ok (z := pre.length) hsz.symm (fun j hj => by
    unfold lastB at hL
    rw [hsz] at hL
    simpa using List.all_eq_true.1 hL j (by simpa using hj)) pre.length (List.range pre.length) (Array.replicate (pre ++ [o]).toArray.size false) a w.drew (by simp) (by simp) ?_ ?_ ?_ ?_ hw0 ?_
  · rw [hsz] at key ⊢; exact key
  · intro i o _ hl; rw [hz] at hl; cases hl
  · exact List.pairwise_lt_range
  · intro j hj; simpa using hj
  · intro j hj
    rw [hz, hsz] at *
    simp
    omega
  · have e := wpTh_eqZ (P := P) (S := S) (hs := hs) (ops := (pre ++ [o]).toArray) (Q := fun a w => S w → wpOp P (pre ++ [o]).toArray Q pre.length (fun a w => Q .normal a w) a w) pre 0 (fun j hj => by rw [Nat.zero_add]; simp [List.getElem?_append_left hj])
    rw [show List.range pre.length = List.range' 0 pre.length from by simp [List.range_eq_range'], e]
    have e2 : (fun a w => S w → wpOp P (pre ++ [o]).toArray Q pre.length (fun a w => Q .normal a w) a w) = (fun a w => S w → wpList P (pre ++ [o]).toArray Q [o] a w) := by
      funext a w
      unfold wpOp wpList
      simp only [hget]
      rfl
    rw [e2]
    exact h
end
end Go.Pw
namespace Go.Vc
open Go Go.Pw
theorem Draw.heldAny {P : Program} {n : Nat} {K : Exit → Fr → World → Prop} {id : Nat} {ops : Array Oper} {t : List It} {f : Fr} {w : World} (S : World → Prop) (hs : Option Tmp → Bool) (pre : List Oper) (o : Oper) (he : ops = (pre ++ [o]).toArray) (hB : textH P hs ops = true) (hL : lastB ops = true) (hw : S w.drew)
    (h : Sat P n K .normal (.opsH S hs ops.toList pre :: .ops ops.toList [o] false :: t) f w.drew) : Draw P n K id ops t f w :=
  ⟨fun hm hf => by
    subst he
    refine wp_region_heldAny hm hs S hw hB hL ?_
    have h1 := h.h hf
    have h1 : S w.drew → wpTh P S hs (pre ++ [o]).toArray (fun a w => S w → Lift n (after P n (.ops (pre ++ [o]).toArray.toList [o] false :: t) K .normal) a w) pre (act n f) w.drew := h1
    have mono : ∀ (l : List Oper) (Q Q' : Act → World → Prop), (∀ a w, Q a w → Q' a w) → ∀ a w, S w → wpTh P S hs (pre ++ [o]).toArray Q l a w → wpTh P S hs (pre ++ [o]).toArray Q' l a w := by
      intro l
      induction l with
      | nil => intro Q Q' hq a w _ h; exact hq a w h
      | cons x r ih => intro Q Q' hq a w hw h; exact T1h_mono hw (fun a w hS hh => ih Q Q' hq a w hS hh) h
    refine mono pre _ _ ?_ _ _ hw (h1 hw)
    rintro a w hk hS
    obtain ⟨g, hg, e, hk2⟩ := hk hS
    subst e
    exact hk2⟩
theorem Draw.heldEndAny {P : Program} {n : Nat} {K : Exit → Fr → World → Prop} {id : Nat} {ops : Array Oper} {t : List It} {f : Fr} {w : World} (S : World → Prop) (hs : Option Tmp → Bool) (hn : ops.toList ≠ []) (hB : textH P hs ops = true) (hL : lastB ops = true) (hw : S w.drew)
    (h : Sat P n K .normal (.opsH S hs ops.toList ops.toList.dropLast :: .ops ops.toList [ops.toList.getLast hn] false :: t) f w.drew) : Draw P n K id ops t f w :=
  Draw.heldAny S hs _ _ (by rw [List.dropLast_concat_getLast hn]) hB hL hw h
end Go.Vc

namespace Go.Cs
open Go.Lib
set_option linter.unusedVariables false
/-! ### Words of a piece of a text, from a word's start to a word's end: plain -/
/-- Where a word begins, the rest begins anew: a list of places that begins at a word is that of the rest. -/
theorem wd_restart : ∀ (u : List (Nat × Nat)) (p : Nat) (f : Option Nat) (ps1 : List (Nat × Nat)) (q : Nat × Nat) (ps2 : List (Nat × Nat)), (∀ x ∈ u, x.1 ≤ 2) → wd u p f = ps1 ++ q :: ps2 → ps1 ≠ [] ∨ f ≠ some q.1 →
    ∃ A R, u = A ++ R ∧ p + W A = q.1 ∧ wd R q.1 none = q :: ps2
  | [], p, f, ps1, q, ps2, _, h, hf => by
    exfalso
    cases f with
    | none => simp [wd, close] at h
    | some a =>
      cases ps1 with
      | nil =>
        simp only [wd, close, List.nil_append, List.cons.injEq] at h
        rcases hf with hf | hf
        · exact hf rfl
        · exact hf (by rw [← h.1])
      | cons x r => simp [wd, close] at h
  | (k, n) :: r, p, f, ps1, q, ps2, hk, h, hf => by
    have hkr : ∀ x ∈ r, x.1 ≤ 2 := fun x hx => hk x (by simp [hx])
    have hk0 : k ≤ 2 := hk (k, n) (by simp)
    -- what is left goes on behind this step
    have next : ∀ (f' : Option Nat) (ps1' : List (Nat × Nat)), wd r (p + n) f' = ps1' ++ q :: ps2 → ps1' ≠ [] ∨ f' ≠ some q.1 → ∃ A R, (k, n) :: r = A ++ R ∧ p + W A = q.1 ∧ wd R q.1 none = q :: ps2 := fun f' ps1' h' hf' => by
      obtain ⟨A, R, h1, h2, h3⟩ := wd_restart r (p + n) f' ps1' q ps2 hkr h' hf'
      exact ⟨(k, n) :: A, R, by rw [h1]; rfl, by rw [W_cons]; omega, h3⟩
    rcases (show k = 0 ∨ k = 1 ∨ k = 2 by omega) with rfl | rfl | rfl
    · rw [wd_0] at h
      cases f with
      | none => exact next none ps1 (by simpa [close] using h) (.inr (by simp))
      | some a =>
        simp only [close, List.cons_append, List.nil_append] at h
        cases ps1 with
        | nil =>
          exfalso
          simp only [List.nil_append, List.cons.injEq] at h
          rcases hf with hf | hf
          · exact hf rfl
          · exact hf (by rw [← h.1])
        | cons x s =>
          simp only [List.cons_append, List.cons.injEq] at h
          exact next none s h.2 (.inr (by simp))
    · cases f with
      | none =>
        rw [wd_1n] at h
        by_cases hq : ps1 = [] ∧ p = q.1
        · obtain ⟨rfl, rfl⟩ := hq
          exact ⟨[], (1, n) :: r, rfl, by rw [W_nil]; rfl, by rw [wd_1n]; exact h⟩
        · refine next (some p) ps1 h ?_
          by_cases h1 : ps1 = []
          · exact .inr fun e => hq ⟨h1, Option.some.inj e⟩
          · exact .inl h1
      | some a =>
        rw [wd_1s] at h
        split at h
        · cases ps1 with
          | nil =>
            exfalso
            simp only [List.nil_append, List.cons.injEq] at h
            rcases hf with hf | hf
            · exact hf rfl
            · exact hf (by rw [← h.1])
          | cons x s =>
            simp only [List.cons_append, List.cons.injEq] at h
            by_cases hq : s = [] ∧ p = q.1
            · obtain ⟨rfl, rfl⟩ := hq
              exact ⟨[], (1, n) :: r, rfl, by rw [W_nil]; rfl, by rw [wd_1n]; exact h.2⟩
            · refine next (some p) s h.2 ?_
              by_cases h1 : s = []
              · exact .inr fun e => hq ⟨h1, Option.some.inj e⟩
              · exact .inl h1
        · refine next (some a) ps1 h ?_
          exact hf
    · rw [wd_2] at h
      have go2 : ∀ (ps1' : List (Nat × Nat)), (p, p + n) :: wd r (p + n) none = ps1' ++ q :: ps2 → ∃ A R, (2, n) :: r = A ++ R ∧ p + W A = q.1 ∧ wd R q.1 none = q :: ps2 := fun ps1' h' => by
        cases ps1' with
        | nil =>
          simp only [List.nil_append, List.cons.injEq] at h'
          obtain ⟨e1, e2⟩ := h'
          refine ⟨[], (2, n) :: r, rfl, by rw [W_nil, ← e1]; rfl, ?_⟩
          rw [← e1, wd_2, e2]
          rfl
        | cons x s =>
          simp only [List.cons_append, List.cons.injEq] at h'
          exact next none s h'.2 (.inr (by simp))
      cases f with
      | none => exact go2 ps1 (by simpa [close] using h)
      | some a =>
        simp only [close, List.cons_append, List.nil_append] at h
        cases ps1 with
        | nil =>
          exfalso
          simp only [List.nil_append, List.cons.injEq] at h
          rcases hf with hf | hf
          · exact hf rfl
          · exact hf (by rw [← h.1])
        | cons x s =>
          simp only [List.cons_append, List.cons.injEq] at h
          exact go2 s h.2
/-- Where a word ends, what was ahead stands alone. -/
theorem wd_stop : ∀ (u : List (Nat × Nat)) (p : Nat) (f : Option Nat) (ps1 : List (Nat × Nat)) (q : Nat × Nat) (ps2 : List (Nat × Nat)), (∀ x ∈ u, x.1 ≤ 2 ∧ 1 ≤ x.2) → (∀ a, f = some a → a < p) → wd u p f = ps1 ++ q :: ps2 →
    ∃ B C, u = B ++ C ∧ p + W B = q.2 ∧ wd B p f = ps1 ++ [q]
  | [], p, f, ps1, q, ps2, _, _, h => by
    cases f with
    | none => simp [wd, close] at h
    | some a =>
      cases ps1 with
      | nil =>
        simp only [wd, close, List.nil_append, List.cons.injEq] at h
        exact ⟨[], [], rfl, by rw [W_nil, ← h.1]; rfl, by simp [wd, close, ← h.1]⟩
      | cons x r => simp [wd, close] at h
  | (k, n) :: r, p, f, ps1, q, ps2, hk, hfp, h => by
    have hkr : ∀ x ∈ r, x.1 ≤ 2 ∧ 1 ≤ x.2 := fun x hx => hk x (by simp [hx])
    have hk0 : k ≤ 2 ∧ 1 ≤ n := hk (k, n) (by simp)
    have ih := wd_stop r (p + n)
    rcases (show k = 0 ∨ k = 1 ∨ k = 2 by omega) with rfl | rfl | rfl
    · rw [wd_0] at h
      have go0 : ∀ ps1', wd r (p + n) none = ps1' ++ q :: ps2 → ps1 = close f p ++ ps1' → ∃ B C, (0, n) :: r = B ++ C ∧ p + W B = q.2 ∧ wd B p f = ps1 ++ [q] := fun ps1' h1 h2 => by
        obtain ⟨B, C, e1, e2, e3⟩ := ih none ps1' q ps2 hkr (fun a h => by cases h) h1
        exact ⟨(0, n) :: B, C, by rw [e1]; rfl, by rw [W_cons]; omega, by rw [wd_0, e3, h2, List.append_assoc]⟩
      cases f with
      | none => exact go0 ps1 (by simpa [close] using h) (by simp [close])
      | some a =>
        simp only [close, List.cons_append, List.nil_append] at h
        cases ps1 with
        | nil =>
          simp only [List.nil_append, List.cons.injEq] at h
          exact ⟨[], (0, n) :: r, rfl, by rw [W_nil, ← h.1]; rfl, by simp [wd, close, ← h.1]⟩
        | cons x s =>
          simp only [List.cons_append, List.cons.injEq] at h
          exact go0 s h.2 (by simp [close, h.1])
    · cases f with
      | none =>
        rw [wd_1n] at h
        obtain ⟨B, C, e1, e2, e3⟩ := ih (some p) ps1 q ps2 hkr (fun a h => by injection h with h; omega) h
        exact ⟨(1, n) :: B, C, by rw [e1]; rfl, by rw [W_cons]; omega, by rw [wd_1n, e3]⟩
      | some a =>
        have hap := hfp a rfl
        rw [wd_1s] at h
        by_cases h40 : 40 < p + n - a
        · rw [if_pos h40] at h
          cases ps1 with
          | nil =>
            simp only [List.nil_append, List.cons.injEq] at h
            exact ⟨[], (1, n) :: r, rfl, by rw [W_nil, ← h.1]; rfl, by simp [wd, close, ← h.1]⟩
          | cons x s =>
            simp only [List.cons_append, List.cons.injEq] at h
            obtain ⟨B, C, e1, e2, e3⟩ := ih (some p) s q ps2 hkr (fun a h => by injection h with h; omega) h.2
            exact ⟨(1, n) :: B, C, by rw [e1]; rfl, by rw [W_cons]; omega, by rw [wd_1s, if_pos h40, e3, h.1]; rfl⟩
        · rw [if_neg h40] at h
          obtain ⟨B, C, e1, e2, e3⟩ := ih (some a) ps1 q ps2 hkr (fun b h => by injection h with h; omega) h
          exact ⟨(1, n) :: B, C, by rw [e1]; rfl, by rw [W_cons]; omega, by rw [wd_1s, if_neg h40, e3]⟩
    · rw [wd_2] at h
      have go2 : ∀ ps1', (p, p + n) :: wd r (p + n) none = ps1' ++ q :: ps2 → ps1 = close f p ++ ps1' → ∃ B C, (2, n) :: r = B ++ C ∧ p + W B = q.2 ∧ wd B p f = ps1 ++ [q] := fun ps1' h1 h2 => by
        cases ps1' with
        | nil =>
          simp only [List.nil_append, List.cons.injEq] at h1
          exact ⟨[(2, n)], r, rfl, by rw [W_cons, W_nil, ← h1.1]; rfl, by rw [wd_2, h2, ← h1.1]; simp [wd, close]⟩
        | cons x s =>
          simp only [List.cons_append, List.cons.injEq] at h1
          obtain ⟨B, C, e1, e2, e3⟩ := ih none s q ps2 hkr (fun a h => by cases h) h1.2
          exact ⟨(2, n) :: B, C, by rw [e1]; rfl, by rw [W_cons]; omega, by rw [wd_2, e3, h2, h1.1]; simp⟩
      cases f with
      | none => exact go2 ps1 (by simpa [close] using h) (by simp [close])
      | some a =>
        simp only [close, List.cons_append, List.nil_append] at h
        cases ps1 with
        | nil =>
          simp only [List.nil_append, List.cons.injEq] at h
          exact ⟨[], (2, n) :: r, rfl, by rw [W_nil, ← h.1]; rfl, by simp [wd, close, ← h.1]⟩
        | cons x s =>
          simp only [List.cons_append, List.cons.injEq] at h
          exact go2 s h.2 (by simp [close, h.1])
end Go.Cs

namespace Go.Cs
open Go.Lib
set_option linter.unusedVariables false
/-! ### The snippet's words, and what the best window holds: plain -/
theorem winE_ge (l : List Wd3) (width : Int) (i : Nat) : ∀ (n j : Nat), l.length - j = n → i ≤ j → j ≤ l.length → Fits l width i j → j ≤ winE l width i
  | 0, j, hj, h4, h5, h6 => Nat.le_of_eq (winE_of l width i j h4 h5 h6 (fun h => by omega)).symm
  | n + 1, j, hj, h4, h5, h6 => by
    by_cases hn : ((toOf l j : Nat) : Int) - ((fromOf l i : Nat) : Int) ≤ width
    · have := winE_ge l width i n (j + 1) (by omega) (by omega) (by omega) (fun k hk1 hk2 => by
        rcases (show k < j ∨ k = j by omega) with h7 | h7
        · exact h6 k hk1 h7
        · subst h7; exact hn)
      omega
    · exact Nat.le_of_eq (winE_of l width i j h4 h5 h6 (fun _ => hn)).symm
theorem InOrder.to_mono {l : List Wd3} {n : Nat} (h : InOrder l n) {i j : Nat} (hij : i ≤ j) (hj : j < l.length) : toOf l i ≤ toOf l j := by
  rcases Nat.lt_or_ge i j with h1 | h1
  · have := (h.each j hj).1
    have := h.next i j h1 hj
    omega
  · have : i = j := by omega
    subst this; exact Nat.le_refl _
theorem fits_to {l : List Wd3} {n : Nat} (h : InOrder l n) {width : Int} {i j : Nat} (hij : i < j) (hj : j ≤ l.length) (hw : ((toOf l (j - 1) : Nat) : Int) - ((fromOf l i : Nat) : Int) ≤ width) : Fits l width i j := fun k h1 h2 => by
  have := h.to_mono (show k ≤ j - 1 by omega) (by omega)
  omega
theorem cut_cut (l : List UInt8) (a b : Nat) (q : Nat × Nat) (h : q.2 + a ≤ b) : cutL (cutL l (a, b)) q = cutL l (q.1 + a, q.2 + a) := by
  unfold cutL
  dsimp only
  rw [List.take_drop, List.take_take, Nat.min_eq_left (by omega), List.drop_drop, Nat.add_comm a q.2, Nat.add_comm a q.1]
theorem cut_len (l : List UInt8) (a b : Nat) (hb : b ≤ l.length) : (cutL l (a, b)).length = b - a := by
  unfold cutL; rw [List.length_drop, List.length_take]; dsimp only; omega
/-- The words of a piece of a text from the start of word i to the end of word E - 1. -/
theorem sub_words (l : List UInt8) (i E : Nat) (hi : i < E) (hE : E ≤ (wordsL l).length) :
    wordsL (cutL l (fromOf (wordsL l) i, toOf (wordsL l) (E - 1))) = (cutW (wordsL l) i E).map fun x => (x.1, x.2.1 - fromOf (wordsL l) i, x.2.2 - fromOf (wordsL l) i) := by
  have hcl := us_class l
  have hps := us_pos l
  have hW := us_W l
  have hord := words_order l
  have hte := (hord.each (E - 1) (by omega)).2
  have hfe := hord.to_mono (show i ≤ E - 1 by omega) (by omega)
  rw [wordsL_eq] at hE
  generalize hpe : wd (us l) 0 none = ps at *
  rw [List.length_map] at hE
  have hiL : i < ps.length := by omega
  have hEL : E - 1 < ps.length := by omega
  have hat : fromOf (ps.map (mk l)) i = ps[i].1 := by unfold fromOf; rw [getD_map_mk l ps i hiL]; rfl
  have hto : toOf (ps.map (mk l)) (E - 1) = ps[E - 1].2 := by unfold toOf; rw [getD_map_mk l ps (E - 1) hEL]; rfl
  have hwe : wordsL l = ps.map (mk l) := by rw [wordsL_eq, hpe]
  rw [hwe] at hte hfe
  rw [hwe, hat, hto]
  rw [hto] at hte
  have s1 : ps = ps.take i ++ ps[i] :: ps.drop (i + 1) := by rw [← List.drop_eq_getElem_cons hiL, List.take_append_drop]
  obtain ⟨A, R, h1, h2, h3⟩ := wd_restart (us l) 0 none (ps.take i) ps[i] (ps.drop (i + 1)) (fun x hx => (hcl x hx).1) (by rw [hpe]; exact s1) (.inr (by simp))
  rw [← List.drop_eq_getElem_cons hiL] at h3
  have hdl : E - 1 - i < (ps.drop i).length := by rw [List.length_drop]; omega
  have hde : (ps.drop i)[E - 1 - i] = ps[E - 1] := by rw [List.getElem_drop]; congr 1; omega
  have s2 : ps.drop i = (ps.drop i).take (E - 1 - i) ++ ps[E - 1] :: (ps.drop i).drop (E - 1 - i + 1) := by
    rw [← hde, ← List.drop_eq_getElem_cons hdl, List.take_append_drop]
  obtain ⟨B, C, h4, h5, h6⟩ := wd_stop R ps[i].1 none ((ps.drop i).take (E - 1 - i)) ps[E - 1] ((ps.drop i).drop (E - 1 - i + 1)) (fun x hx => ⟨(hcl x (by rw [h1]; simp [hx])).1, hps x (by rw [h1]; simp [hx])⟩) (fun a h => by cases h) (by rw [h3]; exact s2)
  rw [← hde, ← List.take_succ_eq_append_getElem hdl, show E - 1 - i + 1 = E - i by omega] at h6
  have hB : us (cutL l (ps[i].1, ps[E - 1].2)) = B := by
    have := us_cut (a := A) (b := B) (c := C) (l := l) (by rw [h1, h4, List.append_assoc])
    rw [show W A = ps[i].1 by omega, h5] at this
    exact this
  have h7 := wd_shift ps[i].1 B 0 none
  rw [Nat.zero_add] at h7
  have h8 : (wd B 0 none).map (shiftP ps[i].1) = (ps.drop i).take (E - i) := by
    rw [← h6]; exact h7.symm
  rw [wordsL_eq, hB]
  have hcw : cutW (ps.map (mk l)) i E = ((ps.drop i).take (E - i)).map (mk l) := by
    unfold cutW
    rw [← List.map_take, ← List.map_drop, List.take_drop, show i + (E - i) = E by omega]
  rw [hcw, ← h8, List.map_map, List.map_map]
  refine List.map_congr_left fun q hq => ?_
  have hqs : q.2 ≤ (cutL l (ps[i].1, ps[E - 1].2)).length := by
    have := words_small (cutL l (ps[i].1, ps[E - 1].2)) (mk (cutL l (ps[i].1, ps[E - 1].2)) q) (by rw [wordsL_eq, hB]; exact List.mem_map_of_mem hq)
    exact this.2
  rw [cut_len l _ _ hte] at hqs
  have hlt : ps[i].1 < ps[E - 1].2 := by
    have e1 := (hord.each i (by rw [hwe, List.length_map]; exact hiL)).1
    rw [hwe] at e1
    rw [hto] at hfe
    rw [hat] at e1
    omega
  simp only [Function.comp_apply]
  unfold mk shiftP
  dsimp only
  rw [cut_cut l _ _ q (by omega), Nat.add_sub_cancel, Nat.add_sub_cancel]
theorem sub_shows (ks : List (List UInt8)) (l : List UInt8) (i E : Nat) (hi : i < E) (hE : E ≤ (wordsL l).length) : showsL ks (cutW (wordsL l) i E) ≤ showsL ks (wordsL (cutL l (fromOf (wordsL l) i, toOf (wordsL l) (E - 1)))) := by
  rw [sub_words l i E hi hE]
  exact shows_mono ks _ _ fun x hx => ⟨_, List.mem_map_of_mem hx, rfl⟩
theorem cutW_shows (ks : List (List UInt8)) (l : List Wd3) (i j j' : Nat) (h : j ≤ j') (hj : j' ≤ l.length) : showsL ks (cutW l i j) ≤ showsL ks (cutW l i j') :=
  shows_mono ks _ _ fun x hx => by
    obtain ⟨k, h1, h2, h3⟩ := (cutW_mem l i j x (by omega)).1 hx
    exact ⟨x, (cutW_mem l i j' x hj).2 ⟨k, h1, by omega, h3⟩, rfl⟩
/-- The snippet holds at least as many distinct terms as a range of words that fits. -/
theorem snip_best (ks : List (List UInt8)) (l : List UInt8) (width : Int) (i j : Nat) (hij : i < j) (hj : j ≤ (wordsL l).length) (hw : ((toOf (wordsL l) (j - 1) : Nat) : Int) - ((fromOf (wordsL l) i : Nat) : Int) ≤ width) :
    showsL ks (cutW (wordsL l) i j) ≤ showsL ks (wordsL (snipL ks l width).1) ∧ (snipL ks l width).1 ≠ [] := by
  have hord := words_order l
  have hf := fits_to hord hij hj hw
  have hge := winE_ge (wordsL l) width i _ j rfl (by omega) hj hf
  unfold snipL
  cases hb : bestN ks (wordsL l) width (wordsL l).length with
  | none => exact (bestN_spec.bestN_none ks (wordsL l) width _ hb i (by omega) (by omega)).elim
  | some f =>
    obtain ⟨h1, h2, h3⟩ := bestN_spec ks (wordsL l) width _ f hb
    have hE := (winE_le (wordsL l) width f (by omega)).2
    have hEi := (winE_le (wordsL l) width i (by omega)).2
    dsimp only
    refine ⟨?_, fun e => ?_⟩
    · refine Nat.le_trans ?_ (sub_shows ks l f _ h2 hE)
      refine Nat.le_trans (cutW_shows ks (wordsL l) i j _ hge hEi) ?_
      exact h3 i (by omega) (by omega)
    · have hl := congrArg List.length e
      have e1 := (hord.each f h1).1
      have e2 := (hord.each (winE (wordsL l) width f - 1) (by omega)).2
      have e3 := hord.to_mono (show f ≤ winE (wordsL l) width f - 1 by omega) (by omega)
      rw [cut_len l _ _ e2, List.length_nil] at hl
      omega
end Go.Cs
namespace Go.Cs
theorem snip_len (ks : List (List UInt8)) (l : List UInt8) (width : Int) : (snipL ks l width).1.length ≤ l.length := by
  unfold snipL
  split
  · dsimp only; rw [List.length_take]; omega
  · dsimp only; unfold cutL; rw [List.length_drop, List.length_take]; omega
theorem sought_len : ∀ (ws : List (List UInt8)) (B : Nat), (∀ x ∈ ws, x.length ≤ B) → (soughtL ws).length ≤ ws.length * (2 * B + 1)
  | [], B, _ => by simp [soughtL]
  | y :: r, B, h => by
    have h1 := sought_len r B fun x hx => h x (by simp [hx])
    have h2 : (wordsL y).length ≤ 2 * y.length + 1 := wordsL_len' y
    have h3 := h y (by simp)
    unfold soughtL at h1 ⊢
    rw [List.flatMap_cons, List.length_append, List.length_map, List.length_cons, Nat.add_mul]
    omega
where
  wordsL_len' (l : List UInt8) : (wordsL l).length ≤ 2 * l.length + 1 := by
    have ho := words_order l
    have key : ∀ i, i < (wordsL l).length → i ≤ fromOf (wordsL l) i := by
      intro i
      induction i with
      | zero => intro _; exact Nat.zero_le _
      | succ i ih =>
        intro hi
        have h1 := ih (by omega)
        have h2 := (ho.each i (by omega)).1
        have h3 := ho.next i (i + 1) (by omega) hi
        omega
    rcases Nat.eq_zero_or_pos (wordsL l).length with h | h
    · omega
    · have h1 := key ((wordsL l).length - 1) (by omega)
      have h2 := ho.each ((wordsL l).length - 1) (by omega)
      omega
end Go.Cs
