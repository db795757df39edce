/- Helper text of this claim: Ml2, Ml3, Ml4, Ml5, Mh9: lemmas and contracts that the proved statement rests on; no conditions of its own. -/
import Derived.Test.YtcdpocffoapbeaaGreatDoorGMk2
import Derived.Test.YtcdpocffoapbeaaGreatDoorGMapR
import Derived.Test.YtcdpocffoapbeaaGreatDoorGCt2
import Derived.Shelf.SlLaysF0
-- alias Tryz
namespace Go.Proofs.YtcdpocffoapbeaaGreatDoor
set_option linter.unusedVariables false
open Go.Shelf Go.RowKit Go.Pw Go.Vc Go.Cs Go.Lib Go.Cd Go.Mg
set_option linter.unusedVariables false
/-! What segment.Build builds (plain). -/
abbrev Ky := Int × List UInt8
def hadE (es : List Ent) (e : Ent) : Bool := es.any fun x => decide (x.doc = e.doc) && decide (x.field = e.field)
def stepE (es : List Ent) (e : Ent) : List Ent := if countsE e = true ∧ hadE es e = false then es ++ [e] else es
def keptE (l : List Ent) : List Ent := l.foldl stepE []
theorem keptE_snoc (l : List Ent) (e : Ent) : keptE (l ++ [e]) = stepE (keptE l) e := by unfold keptE; rw [List.foldl_append]; rfl
theorem hadE_iff {es : List Ent} {e : Ent} : hadE es e = true ↔ ∃ x ∈ es, x.doc = e.doc ∧ x.field = e.field := by
  unfold hadE; simp [List.any_eq_true]
/-- Entries that count, no spot twice. -/
structure Kept (es : List Ent) : Prop where
  ok : ∀ e ∈ es, countsE e = true
  sp : es.Pairwise fun a b => ¬ (a.doc = b.doc ∧ a.field = b.field)
theorem Kept.nil : Kept [] := ⟨(fun _ h => by cases h), List.Pairwise.nil⟩
theorem Kept.step {es : List Ent} (h : Kept es) (e : Ent) : Kept (stepE es e) := by
  unfold stepE
  split
  · rename_i hc
    refine ⟨fun x hx => ?_, List.pairwise_append.2 ⟨h.sp, List.pairwise_singleton _ _, fun a ha b hb hab => ?_⟩⟩
    · rcases List.mem_append.1 hx with hx | hx
      · exact h.ok x hx
      · rw [List.mem_singleton.1 hx]; exact hc.1
    · rw [List.mem_singleton.1 hb] at hab
      have := hadE_iff.2 ⟨a, ha, hab⟩
      rw [hc.2] at this; cases this
  · exact h
theorem kept_fold (l : List Ent) : ∀ es, Kept es → Kept (l.foldl stepE es) := by
  induction l with
  | nil => exact fun es h => h
  | cons e l ih => exact fun es h => ih _ (h.step e)
theorem kept_kept (l : List Ent) : Kept (keptE l) := kept_fold l [] Kept.nil
theorem stepE_sub {es : List Ent} {e x : Ent} (h : x ∈ stepE es e) : x ∈ es ∨ x = e := by
  unfold stepE at h
  split at h
  · rcases List.mem_append.1 h with h | h
    · exact .inl h
    · exact .inr (List.mem_singleton.1 h)
  · exact .inl h
theorem kept_sub (l : List Ent) : ∀ es x, x ∈ l.foldl stepE es → x ∈ es ∨ x ∈ l := by
  induction l with
  | nil => exact fun es x h => .inl h
  | cons e l ih =>
    intro es x h
    rcases ih _ x h with h | h
    · rcases stepE_sub h with h | h
      · exact .inl h
      · exact .inr (h ▸ List.mem_cons_self)
    · exact .inr (List.mem_cons_of_mem _ h)
theorem keptE_sub {l : List Ent} {x : Ent} (h : x ∈ keptE l) : x ∈ l := by
  rcases kept_sub l [] x h with h | h
  · cases h
  · exact h
/-- Where a word stands in a list of words, from the place i on. -/
def posF (w : List UInt8) : Nat → List (List UInt8) → List Int
  | _, [] => []
  | i, x :: r => if x = w then (i : Int) :: posF w (i + 1) r else posF w (i + 1) r
theorem posF_snoc (w x : List UInt8) : ∀ (i : Nat) (l : List (List UInt8)), posF w i (l ++ [x]) = posF w i l ++ if x = w then [((i + l.length : Nat) : Int)] else []
  | i, [] => by
    show (if x = w then _ else _) = _
    split <;> simp [posF]
  | i, y :: l => by
    show (if y = w then (i : Int) :: posF w (i + 1) (l ++ [x]) else posF w (i + 1) (l ++ [x])) = (if y = w then _ else _) ++ _
    rw [posF_snoc w x (i + 1) l, List.length_cons, show i + 1 + l.length = i + (l.length + 1) by omega]
    split <;> rfl
theorem posF_ge (w : List UInt8) : ∀ (i : Nat) (l : List (List UInt8)), ∀ n ∈ posF w i l, (i : Int) ≤ n ∧ n < ((i + l.length : Nat) : Int)
  | i, [], n, h => by cases h
  | i, y :: l, n, h => by
    unfold posF at h
    rw [List.length_cons]
    split at h
    · rcases List.mem_cons.1 h with rfl | h
      · omega
      · have := posF_ge w (i + 1) l n h; omega
    · have := posF_ge w (i + 1) l n h; omega
theorem posF_asc (w : List UInt8) : ∀ (i : Nat) (l : List (List UInt8)), AscB ltI (posF w i l)
  | i, [] => .nil
  | i, y :: l => by
    unfold posF
    split
    · exact List.Pairwise.cons (fun n hn => decide_eq_true (by have := posF_ge w (i + 1) l n hn; omega)) (posF_asc w (i + 1) l)
    · exact posF_asc w (i + 1) l
theorem posF_len (w : List UInt8) : ∀ (i : Nat) (l : List (List UInt8)), (posF w i l).length ≤ l.length
  | i, [] => Nat.le_refl _
  | i, y :: l => by
    unfold posF
    have := posF_len w (i + 1) l
    split <;> simp <;> omega
theorem posF_mem (w : List UInt8) : ∀ (i : Nat) (l : List (List UInt8)), posF w i l ≠ [] → w ∈ l
  | i, [], h => absurd rfl h
  | i, y :: l, h => by
    unfold posF at h
    split at h
    · rename_i e; rw [e]; exact List.mem_cons_self
    · exact List.mem_cons_of_mem _ (posF_mem w (i + 1) l h)
def partE (ws : List (List UInt8)) (d f : Int) (k : Ky) (d' : Int) : List Int := if d' = d ∧ k.1 = f then posF k.2 0 ws else []
def placesE (es : List Ent) (k : Ky) (d : Int) : List Int := es.flatMap fun e => partE (wordsOf e.text) e.doc e.field k d
theorem placesE_snoc (es : List Ent) (e : Ent) (k : Ky) (d : Int) : placesE (es ++ [e]) k d = placesE es k d ++ partE (wordsOf e.text) e.doc e.field k d := by
  unfold placesE; rw [List.flatMap_append]; simp
theorem partE_nil (d f : Int) (k : Ky) (d' : Int) : partE [] d f k d' = [] := by unfold partE; split <;> rfl
/-- A place put in. -/
def updF (f : Ky → Int → List Int) (k : Ky) (d : Int) (x : Int) : Ky → Int → List Int := fun k' d' => if k' = k ∧ d' = d then f k d ++ [x] else f k' d'
theorem part_step (g : Ky → Int → List Int) (ws : List (List UInt8)) (i : Nat) (hi : i < ws.length) (d f : Int) :
    updF (fun k d' => g k d' ++ partE (ws.take i) d f k d') (f, ws[i]) d (i : Nat) = fun k d' => g k d' ++ partE (ws.take (i + 1)) d f k d' := by
  funext k d'
  obtain ⟨k1, k2⟩ := k
  unfold updF partE
  dsimp only
  rw [List.take_succ_eq_append_getElem hi, posF_snoc, List.length_take, Nat.min_eq_left (by omega), Nat.zero_add]
  by_cases h1 : d' = d ∧ k1 = f
  · obtain ⟨rfl, rfl⟩ := h1
    by_cases h2 : k2 = ws[i]
    · subst h2; simp
    · have e1 : ¬ ((k1, k2) = (k1, ws[i]) ∧ d' = d') := fun h => h2 (by injection h.1)
      have e2 : ¬ ws[i] = k2 := fun h => h2 h.symm
      simp [e2]
      exact fun h => absurd h h2
  · have e1 : ¬ ((k1, k2) = (f, ws[i]) ∧ d' = d) := fun h => h1 ⟨h.2, by injection h.1⟩
    rw [if_neg e1, if_neg h1, if_neg h1]
theorem places_one {es : List Ent} (h : Kept es) (k : Ky) (d : Int) (hne : placesE es k d ≠ []) : ∃ e ∈ es, e.doc = d ∧ e.field = k.1 ∧ placesE es k d = posF k.2 0 (wordsOf e.text) ∧ k.2 ∈ wordsOf e.text := by
  induction es with
  | nil => exact absurd rfl hne
  | cons e es ih =>
    obtain ⟨h1, h2⟩ := List.pairwise_cons.1 h.sp
    have hk : Kept es := ⟨fun x hx => h.ok x (List.mem_cons_of_mem _ hx), h2⟩
    have hc : placesE (e :: es) k d = partE (wordsOf e.text) e.doc e.field k d ++ placesE es k d := by unfold placesE; rw [List.flatMap_cons]
    rw [hc] at hne ⊢
    by_cases hp : d = e.doc ∧ k.1 = e.field
    · have h0 : placesE es k d = [] := by
        by_cases hz : placesE es k d = []
        · exact hz
        · obtain ⟨x, hx, hd, hf, _⟩ := ih hk hz
          exact absurd ⟨by omega, by rw [← hp.2, hf]⟩ (h1 x hx)
      rw [h0, List.append_nil] at hne ⊢
      have e1 : partE (wordsOf e.text) e.doc e.field k d = posF k.2 0 (wordsOf e.text) := if_pos hp
      rw [e1] at hne ⊢
      exact ⟨e, List.mem_cons_self, hp.1.symm, hp.2.symm, rfl, posF_mem _ _ _ hne⟩
    · have e1 : partE (wordsOf e.text) e.doc e.field k d = [] := if_neg hp
      rw [e1, List.nil_append] at hne ⊢
      obtain ⟨x, hx, r⟩ := ih hk hne
      exact ⟨x, List.mem_cons_of_mem _ hx, r⟩
/-- A segment that is built from these entries. -/
structure Built (s : Sgm) (es : List Ent) : Prop where
  right : rightS s = true
  docs : ∀ d, d ∈ s.docs ↔ ∃ e ∈ es, e.doc = d
  posts : ∀ k d, atD (postsT s.terms k) d = placesE es k d
theorem Built.uniq {s t : Sgm} {es : List Ent} (hs : Built s es) (ht : Built t es) : s = t :=
  seg_ext hs.right ht.right (asc_uniq stoI _ _ (rightS_iff.1 hs.right).1.1 (rightS_iff.1 ht.right).1.1 fun z => (hs.docs z).trans (ht.docs z).symm)
    fun k => right_ext (right_posts _ _) (right_posts _ _) fun d => (hs.posts k d).trans (ht.posts k d).symm
end Go.Proofs.YtcdpocffoapbeaaGreatDoor

-- alias Tryz
namespace Go.Proofs.YtcdpocffoapbeaaGreatDoor
set_option linter.unusedVariables false
open Go.Shelf Go.RowKit Go.Pw Go.Vc Go.Cs Go.Lib Go.Cd Go.Mg
set_option linter.unusedVariables false
/-! From what Build's walk leaves to the built segment (plain). -/
abbrev sortL (l : List Int) : List Int := l.mergeSort fun x y => decide (x ≤ y)
theorem sortL_le (l : List Int) : (sortL l).Pairwise (· ≤ ·) := by
  refine (List.pairwise_mergeSort (le := fun x y : Int => decide (x ≤ y)) (fun a b c h1 h2 => ?_) (fun a b => ?_) l).imp fun h => of_decide_eq_true h
  · have := of_decide_eq_true h1; have := of_decide_eq_true h2; exact decide_eq_true (by omega)
  · rcases Int.le_total a b with h | h <;> simp [h]
theorem sortL_lt {l : List Int} (h : l.Nodup) : (sortL l).Pairwise (· < ·) := by
  have h1 := sortL_le l
  have h2 : (sortL l).Nodup := (List.mergeSort_perm l _).nodup_iff.2 h
  exact (h1.and h2).imp fun h => by have := h.1; have := h.2; omega
theorem sortL_mem {l : List Int} {x : Int} : x ∈ sortL l ↔ x ∈ l := List.mem_mergeSort
def postG (g : Ky → Int → List Int) (p : Ky × List Int) : List Pst := (sortL p.2).map fun d => ⟨d, g p.1 d⟩
def tmOf (g : Ky → Int → List Int) (p : Ky × List Int) : Trm := ⟨p.1.1, p.1.2, encP (postG g p)⟩
theorem atD_map (f : Int → List Int) (d : Int) : ∀ l : List Int, atD (l.map fun d => (⟨d, f d⟩ : Pst)) d = if d ∈ l then f d else []
  | [] => rfl
  | x :: l => by
    rw [List.map_cons, atD_cons, atD_map f d l]
    by_cases h : x = d
    · subst h; simp
    · have h2 : ¬ d = x := fun e => h e.symm
      simp [h, h2]
theorem built_of {es : List Ent} (hk : Kept es) (htx : ∀ e ∈ es, e.text.length ≤ 1000000000) (kl : List (Ky × List Int)) (hnd : (kl.map (·.1)).Nodup)
    (hno : ∀ k, k ∉ kl.map (·.1) → ∀ d, placesE es k d = []) (hin : ∀ p ∈ kl, p.2.Nodup ∧ p.2 ≠ [] ∧ ∀ d, d ∈ p.2 ↔ placesE es p.1 d ≠ [])
    {ts : List Trm} (hp : ts.Perm (kl.map (tmOf (placesE es)))) (hs : ts.Pairwise fun a b => ltK b.key a.key = false)
    {dl : List Int} (hdn : dl.Nodup) (hd : ∀ d, d ∈ dl ↔ ∃ e ∈ es, e.doc = d) : Built ⟨ts, sortL dl⟩ es := by
  have hcount : ∀ e ∈ es, 1 ≤ e.doc ∧ e.doc ≤ 1099511627776 ∧ 1 ≤ e.field ∧ e.field ≤ 5 := fun e he => by
    have := hk.ok e he
    unfold countsE at this
    simp only [Bool.and_eq_true, decide_eq_true_eq] at this
    omega
  have hpl : ∀ k d, placesE es k d ≠ [] → (1 ≤ d ∧ d ≤ 1099511627776) ∧ (1 ≤ k.1 ∧ k.1 ≤ 5) ∧ wordsOf k.2 = [k.2] ∧ AscB ltI (placesE es k d) ∧ (∀ n ∈ placesE es k d, 0 ≤ n ∧ n ≤ 1099511627776) ∧ d ∈ sortL dl := fun k d hne => by
    obtain ⟨e, he, h1, h2, h3, h4⟩ := places_one hk k d hne
    have hc := hcount e he
    have hw : (wordsOf e.text).length ≤ 2 * e.text.length + 1 := by unfold wordsOf; rw [List.length_map]; exact wordsL_len _
    have ht := htx e he
    refine ⟨by omega, by omega, ?_, h3 ▸ posF_asc _ _ _, fun n hn => ?_, sortL_mem.2 ((hd d).2 ⟨e, he, h1⟩)⟩
    · obtain ⟨x, hx, e1⟩ := List.mem_map.1 h4
      have := good_words (word_good _ x hx)
      rw [e1] at this
      unfold wordsOf; rw [this]; rfl
    · rw [h3] at hn
      have := posF_ge _ _ _ n hn; omega
  have hP : ∀ p ∈ kl, rightP (postG (placesE es) p) = true := fun p hp => by
    obtain ⟨i1, i2, i3⟩ := hin p hp
    refine right_iff2.2 ⟨?_, fun x hx => ?_⟩
    · unfold postG AscP
      rw [List.pairwise_map]
      exact sortL_lt i1
    · obtain ⟨d, hd2, rfl⟩ := List.mem_map.1 hx
      have hne := (i3 d).1 (sortL_mem.1 hd2)
      obtain ⟨j1, j2, j3, j4, j5, j6⟩ := hpl _ _ hne
      exact ⟨j1.1, j1.2, hne, j4, j5⟩
  have hPne : ∀ p ∈ kl, postG (placesE es) p ≠ [] := fun p hp e => by
    obtain ⟨i1, i2, i3⟩ := hin p hp
    have : sortL p.2 = [] := List.map_eq_nil_iff.1 e
    obtain ⟨d, hd⟩ := List.exists_mem_of_ne_nil _ i2
    have h := sortL_mem.2 hd
    rw [this] at h; cases h
  have hkey : (ts.map Trm.key).Perm (kl.map (·.1)) := by
    have := hp.map Trm.key
    rw [List.map_map] at this
    exact this
  have hasc : AscK ts := by
    have h2 : (ts.map Trm.key).Nodup := hkey.nodup_iff.2 hnd
    have h2 : ts.Pairwise fun a b => a.key ≠ b.key := List.pairwise_map.1 h2
    refine (hs.and h2).imp fun {a b} h => ?_
    cases hq : ltK a.key b.key with
    | true => rfl
    | false => exact absurd (stoK.tri _ _ hq h.1) h.2
  have hmem : ∀ t, t ∈ ts ↔ ∃ p ∈ kl, tmOf (placesE es) p = t := fun t => by rw [hp.mem_iff, List.mem_map]
  have hposts : ∀ k d, atD (postsT ts k) d = placesE es k d := fun k d => by
    by_cases hkk : k ∈ kl.map (·.1)
    · obtain ⟨p, hp, rfl⟩ := List.mem_map.1 hkk
      have hm := (hmem _).2 ⟨p, hp, rfl⟩
      have e1 := posts_mem ts hasc _ hm
      rw [show (tmOf (placesE es) p).key = p.1 from rfl] at e1
      rw [e1, show plT (tmOf (placesE es) p) = postG (placesE es) p from plT_encR (hP p hp)]
      unfold postG
      rw [atD_map (fun d => placesE es p.1 d) d]
      split
      · rfl
      · rename_i h
        by_cases hz : placesE es p.1 d = []
        · exact hz.symm
        · exact absurd (sortL_mem.2 (((hin p hp).2.2 d).2 hz)) h
    · rw [hno k hkk d]
      by_cases hz : postsT ts k = []
      · rw [hz]; rfl
      · obtain ⟨t, ht, e, _⟩ := posts_ne hz
        obtain ⟨p, hp, rfl⟩ := (hmem t).1 ht
        exact absurd (List.mem_map.2 ⟨p, hp, e⟩) hkk
  refine ⟨rightS_iff.2 ⟨⟨?_, fun n hn => ?_⟩, fun t ht => ?_, hasc⟩, fun d => sortL_mem.trans (hd d), hposts⟩
  · exact (sortL_lt hdn).imp fun h => decide_eq_true h
  · obtain ⟨e, he, rfl⟩ := (hd n).1 (sortL_mem.1 hn)
    have := hcount e he; omega
  · obtain ⟨p, hp, rfl⟩ := (hmem t).1 ht
    obtain ⟨i1, i2, i3⟩ := hin p hp
    obtain ⟨d, hd2⟩ := List.exists_mem_of_ne_nil _ i2
    obtain ⟨j1, j2, j3, j4, j5, j6⟩ := hpl _ _ ((i3 d).1 hd2)
    unfold okTerm
    rw [Bool.and_eq_true, Bool.and_eq_true]
    refine ⟨⟨decide_eq_true j2, decide_eq_true j3⟩, ?_⟩
    unfold okList
    rw [show decP (tmOf (placesE es) p).list = some (postG (placesE es) p) from decP_enc (hP p hp)]
    dsimp only
    rw [Bool.and_eq_true, List.all_eq_true]
    refine ⟨by cases hl : postG (placesE es) p with | nil => exact absurd hl (hPne p hp) | cons => rfl, fun x hx => decide_eq_true ?_⟩
    obtain ⟨d', hd', rfl⟩ := List.mem_map.1 hx
    exact (hpl _ _ ((i3 d').1 (sortL_mem.1 hd'))).2.2.2.2.2
end Go.Proofs.YtcdpocffoapbeaaGreatDoor

-- alias Tryz
namespace Go.Proofs.YtcdpocffoapbeaaGreatDoor
set_option linter.unusedVariables false
open Go.Shelf Go.RowKit Go.Pw Go.Vc Go.Cs Go.Lib Go.Cd Go.Mg
set_option linter.unusedVariables false
/-! The laws of merging, in plain Lean: rows, looks, built. -/
/-- A segment's documents and places, an invalid one's none. -/
def dS (s : Sgm) (d : Int) : Prop := d ∈ (validS s).docs
def pS (s : Sgm) (k : Ky) (d : Int) : List Int := atD (postsT (validS s).terms k) d
theorem pS_asc (s : Sgm) (k : Ky) (d : Int) : AscB ltI (pS s k d) := (atD_pl (right_posts _ _) d).1
theorem sem_ext {a b : Sgm} (ha : rightS a = true) (hb : rightS b = true) (hd : ∀ d, dS a d ↔ dS b d) (hp : ∀ k d, pS a k d = pS b k d) : a = b := by
  unfold dS at hd; unfold pS at hp
  rw [valid_of ha, valid_of hb] at hd hp
  exact seg_ext ha hb (asc_uniq stoI _ _ (rightS_iff.1 ha).1.1 (rightS_iff.1 hb).1.1 hd) fun k => right_ext (right_posts _ _) (right_posts _ _) (hp k)
theorem dS_two (a b : Sgm) (dead : List Int) (d : Int) : dS (twoS a b dead) d ↔ (dS a d ∨ dS b d) ∧ d ∉ dead := by
  unfold dS; rw [valid_of (right_two a b dead)]; exact mem_two a b dead d
theorem pS_two (a b : Sgm) (dead : List Int) (k : Ky) (d : Int) : pS (twoS a b dead) k d = if d ∈ dead then [] else unI (pS a k d) (pS b k d) := by
  unfold pS
  rw [valid_of (right_two a b dead), posts_two, atD_live, atD_orP (right_posts _ _) (right_posts _ _)]
theorem right_nil : rightS ⟨[], []⟩ = true := by rfl
theorem dS_nil (d : Int) : ¬ dS ⟨[], []⟩ d := by unfold dS; rw [valid_of right_nil]; exact fun h => by cases h
theorem pS_nil (k : Ky) (d : Int) : pS ⟨[], []⟩ k d = [] := by unfold pS; rw [valid_of right_nil]; rfl
theorem rows_one (a b c : Sgm) (dead : List Int) : allS [a, b, c] dead = twoS a (twoS b c []) dead := by
  refine sem_ext (right_two _ _ _) (right_two _ _ _) (fun d => ?_) (fun k d => ?_)
  · show dS (twoS (twoS (twoS ⟨[], []⟩ a dead) b dead) c dead) d ↔ _
    simp only [dS_two, iff_false_intro (dS_nil d), false_or, List.not_mem_nil, not_false_eq_true, and_true]
    by_cases h : d ∈ dead <;> simp [h, or_assoc]
  · show pS (twoS (twoS (twoS ⟨[], []⟩ a dead) b dead) c dead) k d = _
    simp only [pS_two, pS_nil, nil_unI, List.not_mem_nil, if_false]
    by_cases h : d ∈ dead
    · rw [if_pos h, if_pos h]
    · simp only [h, if_false]
      exact unI_assoc (pS_asc _ _ _) (pS_asc _ _ _) (pS_asc _ _ _)
theorem rows_three (a b c : Sgm) (dead : List Int) : allS [a, b, c] dead = twoS (twoS b a dead) c dead := by
  refine sem_ext (right_two _ _ _) (right_two _ _ _) (fun d => ?_) (fun k d => ?_)
  · show dS (twoS (twoS (twoS ⟨[], []⟩ a dead) b dead) c dead) d ↔ _
    simp only [dS_two, iff_false_intro (dS_nil d), false_or]
    by_cases h : d ∈ dead <;> simp [h, or_comm]
  · show pS (twoS (twoS (twoS ⟨[], []⟩ a dead) b dead) c dead) k d = _
    simp only [pS_two, pS_nil, nil_unI]
    by_cases h : d ∈ dead
    · rw [if_pos h, if_pos h]
    · simp only [h, if_false]
      rw [unI_comm (pS_asc a _ _) (pS_asc b _ _)]
theorem rows_two (a b c : Sgm) (dead : List Int) : allS [a, b, c] dead = allS [c, a, b] dead := by
  refine sem_ext (right_two _ _ _) (right_two _ _ _) (fun d => ?_) (fun k d => ?_)
  · show dS (twoS (twoS (twoS ⟨[], []⟩ a dead) b dead) c dead) d ↔ dS (twoS (twoS (twoS ⟨[], []⟩ c dead) a dead) b dead) d
    simp only [dS_two, iff_false_intro (dS_nil d), false_or]
    by_cases h : d ∈ dead
    · simp [h]
    · simp only [h, not_false_eq_true, and_true]
      constructor
      · rintro ((h1 | h1) | h1)
        · exact .inl (.inr h1)
        · exact .inr h1
        · exact .inl (.inl h1)
      · rintro ((h1 | h1) | h1)
        · exact .inr h1
        · exact .inl (.inl h1)
        · exact .inl (.inr h1)
  · show pS (twoS (twoS (twoS ⟨[], []⟩ a dead) b dead) c dead) k d = pS (twoS (twoS (twoS ⟨[], []⟩ c dead) a dead) b dead) k d
    simp only [pS_two, pS_nil, nil_unI]
    by_cases h : d ∈ dead
    · rw [if_pos h, if_pos h]
    · simp only [h, if_false]
      rw [unI_comm (unI_asc (pS_asc a _ _) (pS_asc b _ _)) (pS_asc c _ _), unI_assoc (pS_asc c _ _) (pS_asc a _ _) (pS_asc b _ _)]
theorem rows_none (a b c : Sgm) (dead : List Int) : allS [a, b, c] dead = twoS (allS [a, b, c] dead) ⟨[], []⟩ dead := by
  refine sem_ext (right_two _ _ _) (right_two _ _ _) (fun d => ?_) (fun k d => ?_)
  · rw [dS_two (allS [a, b, c] dead)]
    show dS (twoS (twoS (twoS ⟨[], []⟩ a dead) b dead) c dead) d ↔ (dS (twoS (twoS (twoS ⟨[], []⟩ a dead) b dead) c dead) d ∨ _) ∧ _
    simp only [dS_two, iff_false_intro (dS_nil d), false_or, or_false]
    by_cases h : d ∈ dead <;> simp [h]
  · rw [pS_two (allS [a, b, c] dead)]
    show pS (twoS (twoS (twoS ⟨[], []⟩ a dead) b dead) c dead) k d = if d ∈ dead then [] else unI (pS (twoS (twoS (twoS ⟨[], []⟩ a dead) b dead) c dead) k d) _
    simp only [pS_two, pS_nil, nil_unI, unI_nil]
    by_cases h : d ∈ dead
    · rw [if_pos h, if_pos h]
    · simp only [h, if_false]
/-! ### Looking up -/
def okK (field : Int) (p : List UInt8 → Bool) (k : Ky) : Bool := (decide (field = 0) || decide (field = k.1)) && p k.2
theorem fold_look : ∀ (l : List Trm) (o : List Pst), rightP o = true → rightP (l.foldl (fun o t => orP o (plT t)) o) = true ∧ ∀ d z, z ∈ atD (l.foldl (fun o t => orP o (plT t)) o) d ↔ z ∈ atD o d ∨ ∃ t ∈ l, z ∈ atD (plT t) d
  | [], o, h => ⟨h, fun d z => by simp⟩
  | t :: l, o, h => by
    obtain ⟨h1, h2⟩ := fold_look l (orP o (plT t)) (right_orP h (right_plT t))
    refine ⟨h1, fun d z => ?_⟩
    rw [List.foldl_cons, h2 d z, atD_orP h (right_plT t), mem_unI (atD_pl h d).1 (atD_pl (right_plT t) d).1]
    constructor
    · rintro ((h | h) | ⟨x, hx, h⟩)
      · exact .inl h
      · exact .inr ⟨t, List.mem_cons_self, h⟩
      · exact .inr ⟨x, List.mem_cons_of_mem _ hx, h⟩
    · rintro (h | ⟨x, hx, h⟩)
      · exact .inl (.inl h)
      · rcases List.mem_cons.1 hx with rfl | hx
        · exact .inl (.inr h)
        · exact .inr ⟨x, hx, h⟩
theorem look_spec (s : Sgm) (field : Int) (p : List UInt8 → Bool) : rightP (lookS s field p) = true ∧ ∀ d z, z ∈ atD (lookS s field p) d ↔ ∃ k, okK field p k = true ∧ z ∈ pS s k d := by
  unfold lookS
  by_cases hr : rightS s = true
  · rw [if_pos hr]
    have hasc := (rightS_iff.1 hr).2.2
    obtain ⟨h1, h2⟩ := fold_look (s.terms.filter fun t => (decide (field = 0) || decide (field = t.field)) && p t.word) [] rfl
    refine ⟨h1, fun d z => (h2 d z).trans ?_⟩
    unfold pS
    rw [valid_of hr]
    constructor
    · rintro (h | ⟨t, ht, h⟩)
      · cases h
      · obtain ⟨ht, hc⟩ := List.mem_filter.1 ht
        exact ⟨t.key, hc, by rw [posts_mem _ hasc t ht]; exact h⟩
    · rintro ⟨k, hk, h⟩
      have hne : postsT s.terms k ≠ [] := fun e => by rw [e] at h; cases h
      obtain ⟨t, ht, rfl, e⟩ := posts_ne hne
      exact .inr ⟨t, List.mem_filter.2 ⟨ht, hk⟩, by rw [e]; exact h⟩
  · rw [if_neg hr]
    refine ⟨rfl, fun d z => ⟨fun h => ?_, fun h => ?_⟩⟩
    · cases h
    · obtain ⟨k, hk, h⟩ := h
      unfold pS validS at h
      rw [if_neg hr] at h; cases h
theorem looks_law (a b : Sgm) (dead : List Int) (field : Int) (p : List UInt8 → Bool) : lookS (twoS a b dead) field p = liveP dead (orP (lookS a field p) (lookS b field p)) := by
  obtain ⟨r1, s1⟩ := look_spec a field p
  obtain ⟨r2, s2⟩ := look_spec b field p
  obtain ⟨r3, s3⟩ := look_spec (twoS a b dead) field p
  have r4 := right_live dead (right_orP r1 r2)
  refine right_ext r3 r4 fun d => asc_uniq stoI _ _ (atD_pl r3 d).1 (atD_pl r4 d).1 fun z => ?_
  rw [s3, atD_live, atD_orP r1 r2]
  by_cases hd : d ∈ dead
  · rw [if_pos hd]
    refine ⟨fun ⟨k, hk, h⟩ => ?_, fun h => by cases h⟩
    rw [pS_two, if_pos hd] at h; cases h
  · rw [if_neg hd, mem_unI (atD_pl r1 d).1 (atD_pl r2 d).1, s1, s2]
    constructor
    · rintro ⟨k, hk, h⟩
      rw [pS_two, if_neg hd, mem_unI (pS_asc _ _ _) (pS_asc _ _ _)] at h
      rcases h with h | h
      · exact .inl ⟨k, hk, h⟩
      · exact .inr ⟨k, hk, h⟩
    · rintro (⟨k, hk, h⟩ | ⟨k, hk, h⟩)
      · exact ⟨k, hk, by rw [pS_two, if_neg hd, mem_unI (pS_asc _ _ _) (pS_asc _ _ _)]; exact .inl h⟩
      · exact ⟨k, hk, by rw [pS_two, if_neg hd, mem_unI (pS_asc _ _ _) (pS_asc _ _ _)]; exact .inr h⟩
/-! ### Built -/
def sharedE (a b : List Ent) : Bool := a.any fun x => b.any fun y => decide (x.doc = y.doc) && decide (x.field = y.field)
theorem hadE_append (a b : List Ent) (e : Ent) : hadE (a ++ b) e = (hadE a e || hadE b e) := by unfold hadE; rw [List.any_append]
def liveE (dead : List Int) (l : List Ent) : List Ent := l.filter fun e => !decide (e.doc ∈ dead)
theorem hadE_live (dead : List Int) (l : List Ent) (e : Ent) (h : e.doc ∉ dead) : hadE (liveE dead l) e = hadE l e := by
  unfold hadE liveE
  rw [List.any_filter]
  congr 1
  funext x
  by_cases hx : x.doc = e.doc
  · rw [hx]; simp [h]
  · simp [hx]
theorem kept_live (dead : List Int) (l : List Ent) : ∀ es, (liveE dead l).foldl stepE (liveE dead es) = liveE dead (l.foldl stepE es) := by
  induction l with
  | nil => exact fun es => rfl
  | cons e l ih =>
    intro es
    rw [List.foldl_cons, ← ih]
    have : stepE (liveE dead es) e = if e.doc ∈ dead then stepE (liveE dead es) e else liveE dead (stepE es e) := by
      split
      · rfl
      · rename_i h
        unfold stepE
        rw [hadE_live dead es e h]
        split
        · unfold liveE; rw [List.filter_append]; simp [h]
        · rfl
    by_cases h : e.doc ∈ dead
    · have h1 : liveE dead (e :: l) = liveE dead l := by unfold liveE; rw [List.filter_cons]; simp [h]
      have h2 : liveE dead (stepE es e) = liveE dead es := by
        unfold stepE
        split
        · unfold liveE; rw [List.filter_append]; simp [h]
        · rfl
      rw [h1, h2]
    · have h1 : liveE dead (e :: l) = e :: liveE dead l := by unfold liveE; rw [List.filter_cons]; simp [h]
      rw [h1, List.foldl_cons, this, if_neg h]
theorem kept_apart (b : List Ent) : ∀ (a es : List Ent), (∀ x ∈ a, ∀ y ∈ b, ¬ (x.doc = y.doc ∧ x.field = y.field)) → b.foldl stepE (a ++ es) = a ++ b.foldl stepE es := by
  induction b with
  | nil => exact fun a es h => rfl
  | cons e b ih =>
    intro a es h
    rw [List.foldl_cons, List.foldl_cons]
    have hn : hadE a e = false := by
      cases hq : hadE a e with
      | false => rfl
      | true =>
        obtain ⟨x, hx, h2⟩ := hadE_iff.1 hq
        exact absurd h2 (h x hx e List.mem_cons_self)
    have : stepE (a ++ es) e = a ++ stepE es e := by
      unfold stepE
      rw [hadE_append, hn, Bool.false_or]
      split
      · rw [List.append_assoc]
      · rfl
    rw [this]
    exact ih a _ fun x hx y hy => h x hx y (List.mem_cons_of_mem _ hy)
theorem keptE_two {a b : List Ent} (h : sharedE a b = false) : keptE (a ++ b) = keptE a ++ keptE b := by
  unfold keptE
  rw [List.foldl_append]
  have := kept_apart b (a.foldl stepE []) [] fun x hx y hy hxy => by
    have hx := keptE_sub hx
    unfold sharedE at h
    rw [List.any_eq_false] at h
    have h2 := h x hx
    rw [Bool.not_eq_true, List.any_eq_false] at h2
    exact h2 y hy (by simp [hxy])
  rw [List.append_nil] at this
  exact this
theorem keptE_live (dead : List Int) (l : List Ent) : keptE (liveE dead l) = liveE dead (keptE l) := kept_live dead l []
theorem places_append (a b : List Ent) (k : Ky) (d : Int) : placesE (a ++ b) k d = placesE a k d ++ placesE b k d := by unfold placesE; rw [List.flatMap_append]
theorem places_live (dead : List Int) (es : List Ent) (k : Ky) (d : Int) : placesE (liveE dead es) k d = if d ∈ dead then [] else placesE es k d := by
  induction es with
  | nil => simp [placesE, liveE]
  | cons e es ih =>
    have hc : ∀ l, placesE (e :: l) k d = partE (wordsOf e.text) e.doc e.field k d ++ placesE l k d := fun l => by unfold placesE; rw [List.flatMap_cons]
    by_cases he : e.doc ∈ dead
    · have h1 : liveE dead (e :: es) = liveE dead es := by unfold liveE; rw [List.filter_cons]; simp [he]
      rw [h1, ih, hc]
      split
      · rfl
      · rename_i h
        have : partE (wordsOf e.text) e.doc e.field k d = [] := by
          unfold partE
          exact if_neg (fun hh : d = e.doc ∧ k.1 = e.field => h (hh.1 ▸ he))
        rw [this]; rfl
    · have h1 : liveE dead (e :: es) = e :: liveE dead es := by unfold liveE; rw [List.filter_cons]; simp [he]
      rw [h1, hc, ih, hc]
      split
      · rename_i h
        have : partE (wordsOf e.text) e.doc e.field k d = [] := by
          unfold partE
          exact if_neg (fun hh : d = e.doc ∧ k.1 = e.field => he (hh.1 ▸ h))
        rw [this]; rfl
      · rfl
theorem built_law {a b : List Ent} {dead : List Int} {sa sb s : Sgm} (h : sharedE a b = false) (ha : Built sa (keptE a)) (hb : Built sb (keptE b)) (hs : Built s (keptE (liveE dead (a ++ b)))) : twoS sa sb dead = s := by
  rw [keptE_live, keptE_two h] at hs
  refine sem_ext (right_two _ _ _) hs.right (fun d => ?_) (fun k d => ?_)
  · rw [dS_two]
    unfold dS
    rw [valid_of ha.right, valid_of hb.right, valid_of hs.right, ha.docs, hb.docs, hs.docs]
    constructor
    · rintro ⟨⟨e, he, rfl⟩ | ⟨e, he, rfl⟩, hd⟩
      · exact ⟨e, List.mem_filter.2 ⟨List.mem_append_left _ he, by simpa using hd⟩, rfl⟩
      · exact ⟨e, List.mem_filter.2 ⟨List.mem_append_right _ he, by simpa using hd⟩, rfl⟩
    · rintro ⟨e, he, rfl⟩
      obtain ⟨he, hd⟩ := List.mem_filter.1 he
      refine ⟨?_, by simpa using hd⟩
      rcases List.mem_append.1 he with he | he
      · exact .inl ⟨e, he, rfl⟩
      · exact .inr ⟨e, he, rfl⟩
  · rw [pS_two]
    unfold pS
    rw [valid_of ha.right, valid_of hb.right, valid_of hs.right, ha.posts, hb.posts, hs.posts, places_live, places_append]
    split
    · rfl
    · by_cases h1 : placesE (keptE a) k d = []
      · rw [h1, nil_unI, List.nil_append]
      · by_cases h2 : placesE (keptE b) k d = []
        · rw [h2, unI_nil, List.append_nil]
        · obtain ⟨x, hx, x1, x2, _⟩ := places_one (kept_kept a) k d h1
          obtain ⟨y, hy, y1, y2, _⟩ := places_one (kept_kept b) k d h2
          exfalso
          unfold sharedE at h
          rw [List.any_eq_false] at h
          have h3 := h x (keptE_sub hx)
          rw [Bool.not_eq_true, List.any_eq_false] at h3
          exact h3 y (keptE_sub hy) (by simp [x1, x2, y1, y2])
end Go.Proofs.YtcdpocffoapbeaaGreatDoor

-- alias Tryz
namespace Go.Proofs.YtcdpocffoapbeaaGreatDoor
set_option linter.unusedVariables false
open Go.Shelf Go.RowKit Go.Pw Go.Vc Go.Cs Go.Lib Go.Cd Go.Mg
set_option linter.unusedVariables false
/-! Bounds of a built segment; picking (plain). -/
theorem nodup_len {α : Type} [DecidableEq α] : ∀ (l m : List α), l.Nodup → (∀ x ∈ l, x ∈ m) → l.length ≤ m.length
  | [], m, _, _ => Nat.zero_le _
  | x :: l, m, h, hs => by
    obtain ⟨h1, h2⟩ := List.nodup_cons.1 h
    have hx := hs x List.mem_cons_self
    have ih := nodup_len l (m.erase x) h2 fun y hy => (List.mem_erase_of_ne (fun e : y = x => h1 (e ▸ hy))).2 (hs y (List.mem_cons_of_mem _ hy))
    rw [List.length_erase_of_mem hx] at ih
    have := List.length_pos_of_mem hx
    rw [List.length_cons]; omega
theorem flat_len {α β : Type} (f : α → List β) (n : Nat) : ∀ l : List α, (∀ x ∈ l, (f x).length ≤ n) → (l.flatMap f).length ≤ l.length * n
  | [], _ => by simp
  | x :: l, h => by
    rw [List.flatMap_cons, List.length_append, List.length_cons, Nat.succ_mul]
    have := h x List.mem_cons_self
    have := flat_len f n l fun y hy => h y (List.mem_cons_of_mem _ hy)
    omega
theorem cnt_le (m : Nat) : ∀ l : List Pst, (∀ p ∈ l, p.places.length ≤ m) → cntP l ≤ l.length * (m + 2)
  | [], _ => by simp [cntP, encN]
  | p :: l, h => by
    rw [cnt_cons, List.length_cons, Nat.succ_mul]
    have := h p List.mem_cons_self
    have := cnt_le m l fun y hy => h y (List.mem_cons_of_mem _ hy)
    omega
theorem words_len (t : List UInt8) : (wordsOf t).length ≤ 2 * t.length + 1 := by unfold wordsOf; rw [List.length_map]; exact wordsL_len _
theorem bd_built {s : Sgm} {es : List Ent} (h : Built s es) (hk : Kept es) {n m : Nat} (hn : es.length ≤ n) (hm : ∀ e ∈ es, 2 * e.text.length + 1 ≤ m) : Bd s n (n * m) (n * (m + 2)) := by
  obtain ⟨r1, r2, r3⟩ := rightS_iff.1 h.right
  have hdn : ∀ l : List Int, AscB ltI l → l.Nodup := fun l hl => by
    unfold AscB at hl
    exact hl.imp fun h => by have := of_decide_eq_true h; omega
  have hkn : (s.terms.map Trm.key).Nodup := List.pairwise_map.2 (r3.imp fun h => ltK_ne h)
  have hkey : ∀ t ∈ s.terms, ∃ e ∈ es, e.field = t.key.1 ∧ t.key.2 ∈ wordsOf e.text := fun t ht => by
    have hp := posts_mem s.terms r3 t ht
    obtain ⟨ne, _⟩ := okTerm_pl (r2 t ht)
    obtain ⟨p, hp2⟩ := List.exists_mem_of_ne_nil _ ne
    have hr := right_plT t
    have h1 := atD_mem (right_asc hr) hp2
    have h2 := (right_iff2.1 hr).2 p hp2
    have h3 : placesE es t.key p.doc ≠ [] := by rw [← h.posts, hp, h1]; exact h2.2.2.1
    obtain ⟨e, he, _, e2, _, e4⟩ := places_one hk _ _ h3
    exact ⟨e, he, e2, e4⟩
  refine ⟨?_, ?_, fun z hz => ?_⟩
  · have := nodup_len s.docs (es.map (·.doc)) (hdn _ r1.1) fun d hd => by
      obtain ⟨e, he, hd⟩ := (h.docs d).1 hd
      exact List.mem_map.2 ⟨e, he, hd⟩
    rw [List.length_map] at this; omega
  · have h1 := nodup_len (s.terms.map Trm.key) (es.flatMap fun e => (wordsOf e.text).map fun w => (e.field, w)) hkn fun k hk2 => by
      obtain ⟨t, ht, rfl⟩ := List.mem_map.1 hk2
      obtain ⟨e, he, e2, e4⟩ := hkey t ht
      exact List.mem_flatMap.2 ⟨e, he, List.mem_map.2 ⟨_, e4, by rw [e2]⟩⟩
    have h2 := flat_len (fun e : Ent => (wordsOf e.text).map fun w => (e.field, w)) m es fun e he => by
      rw [List.length_map]; exact Nat.le_trans (words_len _) (hm e he)
    rw [List.length_map] at h1
    exact Nat.le_trans h1 (Nat.le_trans h2 (Nat.mul_le_mul_right _ hn))
  · have hr := right_plT z
    have hp := posts_mem s.terms r3 z hz
    have hc : cntP (plT z) ≤ n * (m + 2) := by
      have h1 := cnt_le m (plT z) fun p hp2 => by
        have h1 := atD_mem (right_asc hr) hp2
        have h2 := (right_iff2.1 hr).2 p hp2
        have h3 : placesE es z.key p.doc = p.places := by rw [← h.posts, hp, h1]
        obtain ⟨e, he, _, _, e3, _⟩ := places_one hk _ _ (by rw [h3]; exact h2.2.2.1)
        rw [← h3, e3]
        exact Nat.le_trans (posF_len _ _ _) (Nat.le_trans (words_len _) (hm e he))
      have h4 : (plT z).length ≤ n := by
        have h2 := nodup_len ((plT z).map (·.doc)) (es.map (·.doc)) (hdn _ (ascP_map.1 (right_asc hr))) fun d hd => by
          obtain ⟨p, hp2, rfl⟩ := List.mem_map.1 hd
          have h1 := atD_mem (right_asc hr) hp2
          have h2 := (right_iff2.1 hr).2 p hp2
          have h3 : placesE es z.key p.doc = p.places := by rw [← h.posts, hp, h1]
          obtain ⟨e, he, e1, _⟩ := places_one hk _ _ (by rw [h3]; exact h2.2.2.1)
          exact List.mem_map.2 ⟨e, he, e1⟩
        rw [List.length_map, List.length_map] at h2; omega
      exact Nat.le_trans h1 (Nat.mul_le_mul_right _ h4)
    obtain ⟨e, he, e2, e4⟩ := hkey z hz
    refine ⟨?_, ?_, hc⟩
    · obtain ⟨x, hx, e1⟩ := List.mem_map.1 e4
      have := good_len (word_good _ x hx)
      rw [e1] at this
      have : z.word.length ≤ 40 := this
      omega
    · rw [(okTerm_pl (r2 z hz)).2]
      have := enc_len (plT z)
      unfold cntP at hc
      omega
/-! ### Picking -/
theorem fold_pick (l : List Int) : ∀ n, (List.range n).foldl (stepPick l) none = none → ∀ i, i < n → l.length ≤ 8 ∧ szI (l.getD i 0) > 2 * szI (l.getD (i + 1) 0)
  | 0, _, i, hi => by omega
  | n + 1, h, i, hi => by
    rw [List.range_succ, List.foldl_append] at h
    have ih := fold_pick l n
    generalize (List.range n).foldl (stepPick l) none = o at *
    have h : stepPick l o n = none := h
    unfold stepPick at h
    split at h
    · rename_i hc
      subst h
      rcases Nat.lt_or_ge i n with h2 | h2
      · exact ih rfl i h2
      · obtain rfl : i = n := by omega
        exact hc
    · split at h
      · cases h
      · split at h <;> cases h
theorem pick_none {l : List Int} (h : pickL l = none) : l.length ≤ 8 ∧ ∀ i, i + 1 < l.length → szI (l.getD i 0) > 2 * szI (l.getD (i + 1) 0) := by
  refine ⟨?_, fun i hi => (fold_pick l _ h i (by omega)).2⟩
  rcases Nat.lt_or_ge 1 l.length with h1 | h1
  · exact (fold_pick l _ h 0 (by omega)).1
  · omega
theorem pick_some {l : List Int} {i : Nat} (h : pickL l = some i) : i + 1 < l.length := by
  have := pick_le l _ i h; omega
theorem getD_at (l : List Int) (i : Nat) (h : i < l.length) : l.getD i 0 = l[i] := by simp [List.getD, List.getElem?_eq_getElem h]
def mergeAt (l : List Int) (i : Nat) : List Int := l.take i ++ (l.getD i 0 + l.getD (i + 1) 0) :: l.drop (i + 2)
def sumI (l : List Int) : Int := l.foldr (· + ·) 0
theorem sumI_app (a b : List Int) : sumI (a ++ b) = sumI a + sumI b := by
  unfold sumI
  induction a with
  | nil => simp
  | cons x a ih => rw [List.cons_append, List.foldr_cons, List.foldr_cons, ih]; omega
theorem split2 (l : List Int) (i : Nat) (h : i + 1 < l.length) : l = l.take i ++ l.getD i 0 :: l.getD (i + 1) 0 :: l.drop (i + 2) := by
  rw [getD_at _ _ (by omega), getD_at _ _ h]
  conv => lhs; rw [← List.take_append_drop i l, List.drop_eq_getElem_cons (by omega), List.drop_eq_getElem_cons h]
theorem mergeAt_len {l : List Int} {i : Nat} (h : i + 1 < l.length) : (mergeAt l i).length + 1 = l.length := by
  unfold mergeAt
  rw [List.length_append, List.length_take, List.length_cons, List.length_drop]; omega
theorem mergeAt_sum {l : List Int} {i : Nat} (h : i + 1 < l.length) : sumI (mergeAt l i) = sumI l := by
  conv => rhs; rw [split2 l i h]
  unfold mergeAt
  rw [sumI_app, sumI_app]
  show _ + (_ + sumI _) = _ + (_ + (_ + sumI _))
  omega
theorem mergeAt_nn {l : List Int} {i : Nat} (h : i + 1 < l.length) (hn : ∀ x ∈ l, 0 ≤ x) : ∀ x ∈ mergeAt l i, 0 ≤ x := fun x hx => by
  have h1 : 0 ≤ l.getD i 0 := by rw [getD_at _ _ (by omega)]; exact hn _ (List.getElem_mem _)
  have h2 : 0 ≤ l.getD (i + 1) 0 := by rw [getD_at _ _ h]; exact hn _ (List.getElem_mem _)
  unfold mergeAt at hx
  rcases List.mem_append.1 hx with hx | hx
  · exact hn x (List.mem_of_mem_take hx)
  · rcases List.mem_cons.1 hx with rfl | hx
    · omega
    · exact hn x (List.mem_of_mem_drop hx)
theorem sum_nn {l : List Int} (h : ∀ x ∈ l, 0 ≤ x) : 0 ≤ sumI l ∧ ∀ x ∈ l, x ≤ sumI l := by
  induction l with
  | nil => exact ⟨Int.le_refl _, fun x h => by cases h⟩
  | cons a l ih =>
    obtain ⟨h1, h2⟩ := ih fun x hx => h x (List.mem_cons_of_mem _ hx)
    have ha := h a List.mem_cons_self
    have e : sumI (a :: l) = a + sumI l := rfl
    refine ⟨by omega, fun x hx => ?_⟩
    rcases List.mem_cons.1 hx with rfl | hx
    · omega
    · have := h2 x hx; omega
theorem szI_id {n : Int} (h0 : 0 ≤ n) (h1 : n ≤ 1099511627776) : szI n = n := by unfold szI; omega
theorem pick_fin {l : List Int} (h : pickL l = none) (hn : ∀ x ∈ l, 0 ≤ x) (hs : sumI l ≤ 1099511627776) : l.length ≤ 8 ∧ ∀ i, i + 1 < l.length → l.getD i 0 > 2 * l.getD (i + 1) 0 := by
  obtain ⟨h1, h2⟩ := pick_none h
  refine ⟨h1, fun i hi => ?_⟩
  have h3 := h2 i hi
  have a1 := hn _ (List.getElem_mem (show i < l.length by omega))
  have a2 := hn _ (List.getElem_mem hi)
  have b1 := (sum_nn hn).2 _ (List.getElem_mem (show i < l.length by omega))
  have b2 := (sum_nn hn).2 _ (List.getElem_mem hi)
  rw [getD_at l i (by omega), getD_at l (i + 1) hi] at h3 ⊢
  rw [szI_id a1 (by omega), szI_id a2 (by omega)] at h3
  exact h3
end Go.Proofs.YtcdpocffoapbeaaGreatDoor

-- alias Tryz
namespace Go.Proofs.YtcdpocffoapbeaaGreatDoor
set_option linter.unusedVariables false
open Go.Shelf Go.RowKit Go.Pw Go.Vc Go.Cs Go.Lib Go.Cd Go.Mg
set_option linter.unusedVariables false
set_option maxRecDepth 100000
/-! ### slices.SortFunc at terms -/
def renTm : Go.Shelf.Ren := ⟨fun | 6 => 50 | 14 => 90 | 15 => 66 | 20 => 129 | 21 => 130 | 22 => 131 | 23 => 132 | 24 => 133 | 25 => 134 | 26 => 135 | 27 => 136 | 28 => 112 | 29 => 113 | 46 => 160 | 47 => 146 | 48 => 147 | 49 => 161 | 50 => 162 | 57 => 173 | n => n, fun | 0 => 0 | 3 => 3 | 4 => 4 | 5 => 5 | 9 => 9 | 22 => 29 | 24 => 56 | 25 => 87 | 39 => 103 | 45 => 142 | 46 => 143 | 50 => 134 | 53 => 150 | 55 => 152 | 66 => 168 | 70 => 139 | 76 => 189 | 77 => 190 | n => n, fun | n => n⟩
theorem laysTm : Go.Proofs.SlLaysF0.n6 Tryz.prog renTm := {
  mixed := by kernel_rfl
  f6 := ⟨Tryz.f50.name, by decide, Tryz.func50.trans (congrArg some (by kernel_rfl))⟩
  f14 := ⟨Tryz.f90.name, by decide, Tryz.func90.trans (congrArg some (by kernel_rfl))⟩
  f15 := Tryz.func66.trans (congrArg some (by kernel_rfl))
  f20 := ⟨Tryz.f129.name, by decide, Tryz.func129.trans (congrArg some (by kernel_rfl))⟩
  f21 := ⟨Tryz.f130.name, by decide, Tryz.func130.trans (congrArg some (by kernel_rfl))⟩
  f22 := ⟨Tryz.f131.name, by decide, Tryz.func131.trans (congrArg some (by kernel_rfl))⟩
  f23 := ⟨Tryz.f132.name, by decide, Tryz.func132.trans (congrArg some (by kernel_rfl))⟩
  f24 := ⟨Tryz.f133.name, by decide, Tryz.func133.trans (congrArg some (by kernel_rfl))⟩
  f25 := ⟨Tryz.f134.name, by decide, Tryz.func134.trans (congrArg some (by kernel_rfl))⟩
  f26 := ⟨Tryz.f135.name, by decide, Tryz.func135.trans (congrArg some (by kernel_rfl))⟩
  f27 := ⟨Tryz.f136.name, by decide, Tryz.func136.trans (congrArg some (by kernel_rfl))⟩
  f28 := Tryz.func112.trans (congrArg some (by kernel_rfl))
  f29 := Tryz.func113.trans (congrArg some (by kernel_rfl))
  f46 := ⟨Tryz.f160.name, by decide, Tryz.func160.trans (congrArg some (by kernel_rfl))⟩
  f47 := Tryz.func146.trans (congrArg some (by kernel_rfl))
  f48 := Tryz.func147.trans (congrArg some (by kernel_rfl))
  f49 := ⟨Tryz.f161.name, by decide, Tryz.func161.trans (congrArg some (by kernel_rfl))⟩
  f50 := ⟨Tryz.f162.name, by decide, Tryz.func162.trans (congrArg some (by kernel_rfl))⟩
  f57 := ⟨Tryz.f173.name, by decide, Tryz.func173.trans (congrArg some (by kernel_rfl))⟩
  t0 := Tryz.underlying0
  a0 := Tryz.isAgg0
  z0 := Tryz.sizeOf0
  v0 := Tryz.zeroValue0
  t3 := Tryz.underlying3
  a3 := Tryz.isAgg3
  z3 := Tryz.sizeOf3
  v3 := Tryz.zeroValue3
  t4 := Tryz.underlying4
  a4 := Tryz.isAgg4
  z4 := Tryz.sizeOf4
  v4 := Tryz.zeroValue4
  t5 := Tryz.underlying5
  a5 := Tryz.isAgg5
  z5 := Tryz.sizeOf5
  v5 := Tryz.zeroValue5
  t9 := Tryz.underlying9
  a9 := Tryz.isAgg9
  z9 := Tryz.sizeOf9
  v9 := Tryz.zeroValue9
  t22 := Tryz.underlying29
  a22 := Tryz.isAgg29
  z22 := Tryz.sizeOf29
  v22 := Tryz.zeroValue29
  t25 := Tryz.underlying87
  a25 := Tryz.isAgg87
  z25 := Tryz.sizeOf87
  v25 := Tryz.zeroValue87
  t39 := Tryz.underlying103
  a39 := Tryz.isAgg103
  z39 := Tryz.sizeOf103
  v39 := Tryz.zeroValue103
  t45 := Tryz.underlying142
  a45 := Tryz.isAgg142
  z45 := Tryz.sizeOf142
  v45 := Tryz.zeroValue142
  t46 := Tryz.underlying143
  a46 := Tryz.isAgg143
  z46 := Tryz.sizeOf143
  v46 := Tryz.zeroValue143
  t50 := Tryz.underlying134
  a50 := Tryz.isAgg134
  z50 := Tryz.sizeOf134
  v50 := Tryz.zeroValue134
  t53 := Tryz.underlying150
  a53 := Tryz.isAgg150
  z53 := Tryz.sizeOf150
  v53 := Tryz.zeroValue150
  t55 := Tryz.underlying152
  a55 := Tryz.isAgg152
  z55 := Tryz.sizeOf152
  v55 := Tryz.zeroValue152
  t66 := Tryz.underlying168
  a66 := Tryz.isAgg168
  z66 := Tryz.sizeOf168
  v66 := Tryz.zeroValue168
  t70 := Tryz.underlying139
  a70 := Tryz.isAgg139
  z70 := Tryz.sizeOf139
  v70 := Tryz.zeroValue139
  t76 := Tryz.underlying189
  a76 := Tryz.isAgg189
  z76 := Tryz.sizeOf189
  v76 := Tryz.zeroValue189
  t77 := Tryz.underlying190
  a77 := Tryz.isAgg190
  z77 := Tryz.sizeOf190
  v77 := Tryz.zeroValue190 }
end Go.Proofs.YtcdpocffoapbeaaGreatDoor
