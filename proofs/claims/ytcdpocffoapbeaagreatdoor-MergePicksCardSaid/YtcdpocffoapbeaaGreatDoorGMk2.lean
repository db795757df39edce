/- Helper text of this claim: Mk2, Mk3, Mk4, Mk5, Mk6, Mk7, Mk8, Mk9, Ml0, Ml1, WcN: lemmas and contracts that the proved statement rests on; no conditions of its own. -/
import Derived.Test.YtcdpocffoapbeaaGreatDoorGMh4
import Derived.Test.YtcdpocffoapbeaaGreatDoorGAx6
-- alias Tryz
namespace Go.Proofs.YtcdpocffoapbeaaGreatDoor
set_option linter.unusedVariables false
open Go.Shelf Go.RowKit Go.Pw Go.Vc Go.Cs Go.Lib Go.Cd Go.Mg
set_option linter.unusedVariables false
/-! The postings of a name in the two lists of terms (plain). -/
def postsT (l : List Trm) (k : Int × List UInt8) : List Pst := match l.find? (fun t => decide (t.key = k)) with | some t => plT t | none => []
theorem posts_cons (x : Trm) (l : List Trm) (k : Int × List UInt8) : postsT (x :: l) k = if x.key = k then plT x else postsT l k := by
  unfold postsT
  rw [List.find?_cons]
  by_cases h : x.key = k
  · rw [if_pos h, decide_eq_true h]
  · rw [if_neg h, decide_eq_false h]
theorem posts_none {l : List Trm} {k : Int × List UInt8} (h : ∀ t ∈ l, ltK k t.key = true) : postsT l k = [] := by
  unfold postsT
  rw [List.find?_eq_none.2 fun t ht => ?_]
  have := h t ht
  simp only [decide_eq_true_eq]
  intro e
  rw [e, stoK.irr] at this; cases this
def AscK (l : List Trm) : Prop := l.Pairwise fun a b => ltK a.key b.key = true
theorem merge_mem : ∀ (n : Nat) (a b : List Trm), a.length + b.length ≤ n → ∀ z ∈ mergeT a b, (∃ t ∈ a, t.key = z.1.key) ∨ ∃ t ∈ b, t.key = z.1.key := by
  intro n a b _ z hz
  obtain ⟨⟨o1, o2⟩, hm, rfl⟩ := List.mem_map.1 hz
  obtain ⟨h1, h2, h3⟩ := (bothL_spec cmpT a b).1 _ hm
  dsimp only at h1 h2 h3
  cases o2 with
  | some t => exact .inr ⟨t, h3 t rfl, by cases o1 <;> rfl⟩
  | none =>
    cases o1 with
    | none => simp at h1
    | some s => exact .inl ⟨s, h2 s rfl, rfl⟩
theorem merge_posts : ∀ (n : Nat) (a b : List Trm), a.length + b.length ≤ n → AscK a → AscK b → ∀ z ∈ mergeT a b, z.2 = orP (postsT a z.1.key) (postsT b z.1.key)
  | _, [], [], _, _, _, z, hz => by rw [mergeT_nil] at hz; cases hz
  | 0, x :: a, b, h, _, _, _, _ => by simp at h
  | 0, [], y :: b, h, _, _, _, _ => by simp at h
  | n + 1, x :: a, [], h, ha, hb, z, hz => by
    have hc := List.pairwise_cons.1 ha
    rw [mergeT_left] at hz
    rcases List.mem_cons.1 hz with rfl | hz
    · rw [posts_cons, if_pos rfl]; rfl
    · have hl : a.length + ([] : List Trm).length ≤ n := by simp at h ⊢; omega
      have ih := merge_posts n a [] hl hc.2 hb z hz
      rw [posts_cons, if_neg, ih]
      intro e
      rcases merge_mem n a [] hl z hz with ⟨t, ht, e2⟩ | ⟨t, ht, _⟩
      · have := hc.1 t ht
        rw [e2, e, stoK.irr] at this; cases this
      · cases ht
  | n + 1, [], y :: b, h, ha, hb, z, hz => by
    have hc := List.pairwise_cons.1 hb
    rw [nil_mergeT] at hz
    rcases List.mem_cons.1 hz with rfl | hz
    · rw [posts_cons, if_pos rfl]; rfl
    · have hl : ([] : List Trm).length + b.length ≤ n := by simp at h ⊢; omega
      have ih := merge_posts n [] b hl ha hc.2 z hz
      rw [posts_cons, if_neg, ih]
      intro e
      rcases merge_mem n [] b hl z hz with ⟨t, ht, _⟩ | ⟨t, ht, e2⟩
      · cases ht
      · have := hc.1 t ht
        rw [e2, e, stoK.irr] at this; cases this
  | n + 1, x :: a, y :: b, h, ha, hb, z, hz => by
    have hca := List.pairwise_cons.1 ha
    have hcb := List.pairwise_cons.1 hb
    have l1 := cmpT_lt x y
    have l2 := cmpT_eq x y
    simp only [List.length_cons] at h
    rw [mergeT_cons] at hz
    by_cases h1 : cmpT x y < 0
    · rw [if_pos h1] at hz
      have hxy := l1.1 h1
      have hyb : ∀ t ∈ y :: b, ltK x.key t.key = true := fun t ht => by
        rcases List.mem_cons.1 ht with rfl | ht
        · exact hxy
        · exact stoK.tr _ _ _ hxy (hcb.1 t ht)
      rcases List.mem_cons.1 hz with rfl | hz
      · rw [posts_none hyb, posts_cons, if_pos rfl]
      · have hl : a.length + (y :: b).length ≤ n := by rw [List.length_cons]; omega
        have ih := merge_posts n a (y :: b) hl hca.2 hb z hz
        rw [posts_cons x, if_neg, ih]
        intro e
        rcases merge_mem n a (y :: b) hl z hz with ⟨t, ht, e2⟩ | ⟨t, ht, e2⟩
        · have := hca.1 t ht
          rw [e2, e, stoK.irr] at this; cases this
        · have := hyb t ht
          rw [e2, e, stoK.irr] at this; cases this
    · rw [if_neg h1] at hz
      by_cases h2 : cmpT x y = 0
      · rw [if_pos h2] at hz
        have he := l2.1 h2
        rcases List.mem_cons.1 hz with rfl | hz
        · rw [posts_cons, if_pos he, posts_cons, if_pos rfl]
        · have hl : a.length + b.length ≤ n := by omega
          have ih := merge_posts n a b hl hca.2 hcb.2 z hz
          have hne : ¬ y.key = z.1.key := fun e => by
            rcases merge_mem n a b hl z hz with ⟨t, ht, e2⟩ | ⟨t, ht, e2⟩
            · have := hca.1 t ht
              rw [e2, he, e, stoK.irr] at this; cases this
            · have := hcb.1 t ht
              rw [e2, e, stoK.irr] at this; cases this
          rw [posts_cons x, if_neg (by rw [he]; exact hne), posts_cons y, if_neg hne, ih]
      · rw [if_neg h2] at hz
        have hyx : ltK y.key x.key = true := by
          cases hk : ltK y.key x.key with
          | true => rfl
          | false => exact absurd (l2.2 (stoK.tri _ _ (by cases hq : ltK x.key y.key with | false => rfl | true => exact absurd (l1.2 hq) h1) hk)) h2
        have hxa : ∀ t ∈ x :: a, ltK y.key t.key = true := fun t ht => by
          rcases List.mem_cons.1 ht with rfl | ht
          · exact hyx
          · exact stoK.tr _ _ _ hyx (hca.1 t ht)
        rcases List.mem_cons.1 hz with rfl | hz
        · rw [posts_none hxa, posts_cons, if_pos rfl]
        · have hl : (x :: a).length + b.length ≤ n := by rw [List.length_cons]; omega
          have ih := merge_posts n (x :: a) b hl ha hcb.2 z hz
          rw [posts_cons y, if_neg, ih]
          intro e
          rcases merge_mem n (x :: a) b hl z hz with ⟨t, ht, e2⟩ | ⟨t, ht, e2⟩
          · have := hxa t ht
            rw [e2, e, stoK.irr] at this; cases this
          · have := hcb.1 t ht
            rw [e2, e, stoK.irr] at this; cases this
end Go.Proofs.YtcdpocffoapbeaaGreatDoor

-- alias Tryz
namespace Go.Proofs.YtcdpocffoapbeaaGreatDoor
set_option linter.unusedVariables false
open Go.Shelf Go.RowKit Go.Pw Go.Vc Go.Cs Go.Lib Go.Cd Go.Mg
set_option linter.unusedVariables false
theorem right_plT (t : Trm) : rightP (plT t) = true := by
  unfold plT
  cases h : decP t.list with
  | none => rfl
  | some l => exact (decP_some.1 h).1
theorem right_posts (l : List Trm) (k : Int × List UInt8) : rightP (postsT l k) = true := by
  unfold postsT
  cases l.find? fun t => decide (t.key = k) with
  | none => rfl
  | some t => exact right_plT t
theorem valid_right (s : Sgm) : rightS (validS s) = true := by
  unfold validS
  cases h : rightS s with
  | true => rw [if_pos rfl]; exact h
  | false => rw [if_neg (by decide)]; rfl
end Go.Proofs.YtcdpocffoapbeaaGreatDoor

-- alias Tryz
namespace Go.Proofs.YtcdpocffoapbeaaGreatDoor
set_option linter.unusedVariables false
open Go.Shelf Go.RowKit Go.Pw Go.Vc Go.Cs Go.Lib Go.Cd Go.Mg
set_option linter.unusedVariables false
/-! Or commutes and is associative (plain). -/
theorem unI_asc {x y : List Int} (hx : AscB ltI x) (hy : AscB ltI y) : AscB ltI (unI x y) := (unI_spec _ x y (Nat.le_refl _) hx hy).1
theorem unI_comm {x y : List Int} (hx : AscB ltI x) (hy : AscB ltI y) : unI x y = unI y x :=
  asc_uniq stoI _ _ (unI_asc hx hy) (unI_asc hy hx) fun z => by rw [mem_unI hx hy, mem_unI hy hx, or_comm]
theorem unI_assoc {x y z : List Int} (hx : AscB ltI x) (hy : AscB ltI y) (hz : AscB ltI z) : unI (unI x y) z = unI x (unI y z) :=
  asc_uniq stoI _ _ (unI_asc (unI_asc hx hy) hz) (unI_asc hx (unI_asc hy hz)) fun w => by
    rw [mem_unI (unI_asc hx hy) hz, mem_unI hx hy, mem_unI hx (unI_asc hy hz), mem_unI hy hz, or_assoc]
/-- A term of a right segment is its key and its postings. -/
theorem okTerm_pl {docs : List Int} {t : Trm} (h : okTerm docs t = true) : plT t ≠ [] ∧ t.list = encP (plT t) := by
  unfold okTerm at h
  rw [Bool.and_eq_true] at h
  have h := h.2
  unfold okList at h
  unfold plT
  cases hd : decP t.list with
  | none => rw [hd] at h; cases h
  | some l =>
    rw [hd] at h
    refine ⟨fun e => ?_, (decP_some.1 hd).2.symm⟩
    have e : l = [] := e
    rw [e] at h
    simp at h
end Go.Proofs.YtcdpocffoapbeaaGreatDoor

-- alias Tryz
namespace Go.Proofs.YtcdpocffoapbeaaGreatDoor
set_option linter.unusedVariables false
open Go.Shelf Go.RowKit Go.Pw Go.Vc Go.Cs Go.Lib Go.Cd Go.Mg
set_option linter.unusedVariables false
/-! A right segment is its documents and its postings (plain). -/
theorem ltK_ne {x y : Int × List UInt8} (h : ltK x y = true) : x ≠ y := fun e => by
  rw [e, stoK.irr] at h; cases h
theorem ascK_uniq : ∀ a b : List Trm, AscK a → AscK b → (∀ t, t ∈ a ↔ t ∈ b) → a = b
  | [], [], _, _, _ => rfl
  | [], y :: b, _, _, h => by have := (h y).2 List.mem_cons_self; cases this
  | x :: a, [], _, _, h => by have := (h x).1 List.mem_cons_self; cases this
  | x :: a, y :: b, ha, hb, h => by
    have hca := List.pairwise_cons.1 ha
    have hcb := List.pairwise_cons.1 hb
    have e : x = y := by
      rcases List.mem_cons.1 ((h x).1 List.mem_cons_self) with e | h1
      · exact e
      · rcases List.mem_cons.1 ((h y).2 List.mem_cons_self) with e | h2
        · exact e.symm
        · exact absurd rfl (ltK_ne (stoK.tr _ _ _ (hca.1 y h2) (hcb.1 x h1)))
    subst e
    rw [ascK_uniq a b hca.2 hcb.2 fun t => ⟨fun ht => ?_, fun ht => ?_⟩]
    · rcases List.mem_cons.1 ((h t).1 (List.mem_cons_of_mem _ ht)) with e | h1
      · rw [e] at ht; exact absurd rfl (ltK_ne (hca.1 x ht))
      · exact h1
    · rcases List.mem_cons.1 ((h t).2 (List.mem_cons_of_mem _ ht)) with e | h1
      · rw [e] at ht; exact absurd rfl (ltK_ne (hcb.1 x ht))
      · exact h1
theorem posts_mem : ∀ (l : List Trm), AscK l → ∀ t ∈ l, postsT l t.key = plT t
  | x :: l, h, t, ht => by
    have hc := List.pairwise_cons.1 h
    rw [posts_cons]
    rcases List.mem_cons.1 ht with rfl | ht
    · rw [if_pos rfl]
    · rw [if_neg (ltK_ne (hc.1 t ht)), posts_mem l hc.2 t ht]
theorem posts_ne {l : List Trm} {k : Int × List UInt8} (h : postsT l k ≠ []) : ∃ t ∈ l, t.key = k ∧ plT t = postsT l k := by
  unfold postsT at h ⊢
  cases hf : l.find? fun t => decide (t.key = k) with
  | none => rw [hf] at h; exact absurd rfl h
  | some t => exact ⟨t, List.mem_of_find?_eq_some hf, of_decide_eq_true (List.find?_some (p := fun t => decide (Trm.key t = k)) hf), rfl⟩
theorem seg_sub {a b : Sgm} (ha : rightS a = true) (hb : rightS b = true) (h : ∀ k, postsT a.terms k = postsT b.terms k) : ∀ t ∈ a.terms, t ∈ b.terms := fun t ht => by
  have ha := rightS_iff.1 ha
  have hb := rightS_iff.1 hb
  have h1 := okTerm_pl (ha.2.1 t ht)
  have h2 := posts_mem _ ha.2.2 t ht
  obtain ⟨u, hu, e1, e2⟩ := posts_ne (l := b.terms) (k := t.key) (by rw [← h, h2]; exact h1.1)
  have h3 := okTerm_pl (hb.2.1 u hu)
  have e3 : plT u = plT t := by rw [e2, ← h, h2]
  have e4 : u.list = t.list := by rw [h3.2, h1.2, e3]
  have e5 : u = t := by
    obtain ⟨f, wd, ls⟩ := u
    obtain ⟨f2, wd2, ls2⟩ := t
    unfold Trm.key at e1
    injection e1 with e6 e7
    dsimp only at e4 e6 e7
    rw [e4, e6, e7]
  exact e5 ▸ hu
theorem seg_ext {a b : Sgm} (ha : rightS a = true) (hb : rightS b = true) (hd : a.docs = b.docs) (h : ∀ k, postsT a.terms k = postsT b.terms k) : a = b := by
  have ht := ascK_uniq a.terms b.terms (rightS_iff.1 ha).2.2 (rightS_iff.1 hb).2.2 fun t => ⟨seg_sub ha hb h t, seg_sub hb ha (fun k => (h k).symm) t⟩
  cases a
  cases b
  dsimp only at ht hd
  rw [ht, hd]
end Go.Proofs.YtcdpocffoapbeaaGreatDoor

-- alias Tryz
namespace Go.Proofs.YtcdpocffoapbeaaGreatDoor
set_option linter.unusedVariables false
open Go.Shelf Go.RowKit Go.Pw Go.Vc Go.Cs Go.Lib Go.Cd Go.Mg
set_option linter.unusedVariables false
/-! The postings of a merged segment (plain). -/
theorem right_live {l : List Pst} (dead : List Int) (h : rightP l = true) : rightP (liveP dead l) = true := by
  have h := right_iff2.1 h
  exact right_iff2.2 ⟨List.Pairwise.filter _ h.1, fun p hp => h.2 p (List.mem_filter.1 hp).1⟩
theorem plT_encR {f : Int} {wd : List UInt8} {l : List Pst} (h : rightP l = true) : plT ⟨f, wd, encP l⟩ = l := by
  unfold plT
  dsimp only
  rw [decP_enc h]; rfl
theorem posts_fm (dead : List Int) : ∀ (L : List (Trm × List Pst)), (∀ z ∈ L, rightP z.2 = true) → L.Pairwise (fun y z => ltK y.1.key z.1.key = true) → ∀ k,
    postsT (L.filterMap (termOf dead)) k = match L.find? (fun z => decide (z.1.key = k)) with | some z => liveP dead z.2 | none => []
  | [], _, _, k => rfl
  | z :: L, hr, hp, k => by
    have hc := List.pairwise_cons.1 hp
    have ih := posts_fm dead L (fun y hy => hr y (List.mem_cons_of_mem _ hy)) hc.2 k
    rw [List.filterMap_cons, List.find?_cons]
    by_cases hk : z.1.key = k
    · rw [decide_eq_true hk]
      by_cases hn : liveP dead z.2 = []
      · have hno : L.find? (fun y => decide (y.1.key = k)) = none := List.find?_eq_none.2 fun y hy => by
          simp only [decide_eq_true_eq]
          intro e
          exact ltK_ne (hc.1 y hy) (by rw [hk, e])
        unfold termOf
        rw [if_pos hn]
        dsimp only
        unfold termOf at ih
        rw [ih, hno, hn]
      · have ht : termOf dead z = some ⟨z.1.field, z.1.word, encP (liveP dead z.2)⟩ := if_neg hn
        rw [ht]
        dsimp only
        rw [posts_cons, if_pos hk, plT_encR (right_live dead (hr z List.mem_cons_self))]
    · rw [decide_eq_false hk]
      by_cases hn : liveP dead z.2 = []
      · have ht : termOf dead z = none := if_pos hn
        rw [ht]
        exact ih
      · have ht : termOf dead z = some ⟨z.1.field, z.1.word, encP (liveP dead z.2)⟩ := if_neg hn
        rw [ht]
        dsimp only
        rw [posts_cons, if_neg hk]
        exact ih
end Go.Proofs.YtcdpocffoapbeaaGreatDoor

-- alias Tryz
namespace Go.Proofs.YtcdpocffoapbeaaGreatDoor
set_option linter.unusedVariables false
open Go.Shelf Go.RowKit Go.Pw Go.Vc Go.Cs Go.Lib Go.Cd Go.Mg
set_option linter.unusedVariables false
/-! The postings of merge.Two (plain). -/
theorem merge_asc : ∀ (n : Nat) (a b : List Trm), a.length + b.length ≤ n → AscK a → AscK b → (mergeT a b).Pairwise fun y z => ltK y.1.key z.1.key = true
  | _, [], [], _, _, _ => by rw [mergeT_nil]; exact .nil
  | 0, x :: a, b, h, _, _ => by simp at h
  | 0, [], y :: b, h, _, _ => by simp at h
  | n + 1, x :: a, [], h, ha, hb => by
    have hc := List.pairwise_cons.1 ha
    have hl : a.length + ([] : List Trm).length ≤ n := by simp at h ⊢; omega
    rw [mergeT_left, List.pairwise_cons]
    refine ⟨fun z hz => ?_, merge_asc n a [] hl hc.2 hb⟩
    rcases merge_mem n a [] hl z hz with ⟨t, ht, e⟩ | ⟨t, ht, _⟩
    · rw [← e]; exact hc.1 t ht
    · cases ht
  | n + 1, [], y :: b, h, ha, hb => by
    have hc := List.pairwise_cons.1 hb
    have hl : ([] : List Trm).length + b.length ≤ n := by simp at h ⊢; omega
    rw [nil_mergeT, List.pairwise_cons]
    refine ⟨fun z hz => ?_, merge_asc n [] b hl ha hc.2⟩
    rcases merge_mem n [] b hl z hz with ⟨t, ht, _⟩ | ⟨t, ht, e⟩
    · cases ht
    · rw [← e]; exact hc.1 t ht
  | n + 1, x :: a, y :: b, h, ha, hb => by
    have hca := List.pairwise_cons.1 ha
    have hcb := List.pairwise_cons.1 hb
    have l1 := cmpT_lt x y
    have l2 := cmpT_eq x y
    simp only [List.length_cons] at h
    rw [mergeT_cons]
    by_cases h1 : cmpT x y < 0
    · have hxy := l1.1 h1
      have hl : a.length + (y :: b).length ≤ n := by rw [List.length_cons]; omega
      rw [if_pos h1, List.pairwise_cons]
      refine ⟨fun z hz => ?_, merge_asc n a (y :: b) hl hca.2 hb⟩
      rcases merge_mem n a (y :: b) hl z hz with ⟨t, ht, e⟩ | ⟨t, ht, e⟩
      · rw [← e]; exact hca.1 t ht
      · rw [← e]
        rcases List.mem_cons.1 ht with rfl | ht
        · exact hxy
        · exact stoK.tr _ _ _ hxy (hcb.1 t ht)
    · by_cases h2 : cmpT x y = 0
      · have he := l2.1 h2
        have hl : a.length + b.length ≤ n := by omega
        rw [if_neg h1, if_pos h2, List.pairwise_cons]
        refine ⟨fun z hz => ?_, merge_asc n a b hl hca.2 hcb.2⟩
        rcases merge_mem n a b hl z hz with ⟨t, ht, e⟩ | ⟨t, ht, e⟩
        · rw [← e, ← he]; exact hca.1 t ht
        · rw [← e]; exact hcb.1 t ht
      · have hyx : ltK y.key x.key = true := by
          cases hk : ltK y.key x.key with
          | true => rfl
          | false => exact absurd (l2.2 (stoK.tri _ _ (by cases hq : ltK x.key y.key with | false => rfl | true => exact absurd (l1.2 hq) h1) hk)) h2
        have hl : (x :: a).length + b.length ≤ n := by rw [List.length_cons]; omega
        rw [if_neg h1, if_neg h2, List.pairwise_cons]
        refine ⟨fun z hz => ?_, merge_asc n (x :: a) b hl ha hcb.2⟩
        rcases merge_mem n (x :: a) b hl z hz with ⟨t, ht, e⟩ | ⟨t, ht, e⟩
        · rw [← e]
          rcases List.mem_cons.1 ht with rfl | ht
          · exact hyx
          · exact stoK.tr _ _ _ hyx (hca.1 t ht)
        · rw [← e]; exact hcb.1 t ht
end Go.Proofs.YtcdpocffoapbeaaGreatDoor

-- alias Tryz
namespace Go.Proofs.YtcdpocffoapbeaaGreatDoor
set_option linter.unusedVariables false
open Go.Shelf Go.RowKit Go.Pw Go.Vc Go.Cs Go.Lib Go.Cd Go.Mg
set_option linter.unusedVariables false
/-! The postings of merge.Two (plain), on. -/
theorem merge_all : ∀ (n : Nat) (a b : List Trm), a.length + b.length ≤ n → ∀ t, t ∈ a ∨ t ∈ b → ∃ z ∈ mergeT a b, z.1.key = t.key
  | _, [], [], _, t, ht => by rcases ht with h | h <;> cases h
  | 0, x :: a, b, h, _, _ => by simp at h
  | 0, [], y :: b, h, _, _ => by simp at h
  | n + 1, x :: a, [], h, t, ht => by
    have hl : a.length + ([] : List Trm).length ≤ n := by simp at h ⊢; omega
    rw [mergeT_left]
    rcases ht with ht | ht
    · rcases List.mem_cons.1 ht with rfl | ht
      · exact ⟨_, List.mem_cons_self, rfl⟩
      · obtain ⟨z, hz, e⟩ := merge_all n a [] hl t (.inl ht)
        exact ⟨z, List.mem_cons_of_mem _ hz, e⟩
    · cases ht
  | n + 1, [], y :: b, h, t, ht => by
    have hl : ([] : List Trm).length + b.length ≤ n := by simp at h ⊢; omega
    rw [nil_mergeT]
    rcases ht with ht | ht
    · cases ht
    · rcases List.mem_cons.1 ht with rfl | ht
      · exact ⟨_, List.mem_cons_self, rfl⟩
      · obtain ⟨z, hz, e⟩ := merge_all n [] b hl t (.inr ht)
        exact ⟨z, List.mem_cons_of_mem _ hz, e⟩
  | n + 1, x :: a, y :: b, h, t, ht => by
    simp only [List.length_cons] at h
    have l2 := cmpT_eq x y
    have up : ∀ {a' b' : List Trm} {q : Trm × List Pst}, a'.length + b'.length ≤ n → t ∈ a' ∨ t ∈ b' → ∃ z ∈ q :: mergeT a' b', z.1.key = t.key := fun hl hm => by
      obtain ⟨z, hz, e⟩ := merge_all n _ _ hl t hm
      exact ⟨z, List.mem_cons_of_mem _ hz, e⟩
    rw [mergeT_cons]
    by_cases h1 : cmpT x y < 0
    · rw [if_pos h1]
      rcases ht with ht | ht
      · rcases List.mem_cons.1 ht with rfl | ht
        · exact ⟨_, List.mem_cons_self, rfl⟩
        · exact up (by rw [List.length_cons]; omega) (.inl ht)
      · exact up (by rw [List.length_cons]; omega) (.inr ht)
    · by_cases h2 : cmpT x y = 0
      · rw [if_neg h1, if_pos h2]
        rcases ht with ht | ht <;> rcases List.mem_cons.1 ht with rfl | ht
        · exact ⟨_, List.mem_cons_self, (l2.1 h2).symm⟩
        · exact up (by omega) (.inl ht)
        · exact ⟨_, List.mem_cons_self, rfl⟩
        · exact up (by omega) (.inr ht)
      · rw [if_neg h1, if_neg h2]
        rcases ht with ht | ht
        · exact up (by rw [List.length_cons]; omega) (.inl ht)
        · rcases List.mem_cons.1 ht with rfl | ht
          · exact ⟨_, List.mem_cons_self, rfl⟩
          · exact up (by rw [List.length_cons]; omega) (.inr ht)
theorem posts_two (a b : Sgm) (dead : List Int) (k : Int × List UInt8) : postsT (twoS a b dead).terms k = liveP dead (orP (postsT (validS a).terms k) (postsT (validS b).terms k)) := by
  have ha := (rightS_iff.1 (valid_right a)).2.2
  have hb := (rightS_iff.1 (valid_right b)).2.2
  generalize hA : (validS a).terms = A at *
  generalize hB : (validS b).terms = B at *
  have hm := merge_posts _ A B (Nat.le_refl _) ha hb
  have hf := posts_fm dead (mergeT A B) (fun z hz => by rw [hm z hz]; exact right_orP (right_posts _ _) (right_posts _ _)) (merge_asc _ A B (Nat.le_refl _) ha hb) k
  unfold twoS
  rw [hA, hB]
  dsimp only
  rw [hf]
  cases hq : (mergeT A B).find? fun z => decide (z.1.key = k) with
  | some z =>
    have e : z.1.key = k := of_decide_eq_true (List.find?_some (p := fun z : Trm × List Pst => decide (z.1.key = k)) hq)
    dsimp only
    rw [hm z (List.mem_of_find?_eq_some hq), e]
  | none =>
    have hno : ∀ t, t ∈ A ∨ t ∈ B → ¬ t.key = k := fun t ht e => by
      obtain ⟨z, hz, e2⟩ := merge_all _ A B (Nat.le_refl _) t ht
      have := List.find?_eq_none.1 hq z hz
      exact this (decide_eq_true (e2.trans e))
    have hn : ∀ {l : List Trm}, (∀ t ∈ l, ¬ t.key = k) → postsT l k = [] := fun {l} h => by
      unfold postsT
      rw [List.find?_eq_none.2 fun t ht => by simpa using h t ht]
    rw [hn fun t ht => hno t (.inl ht), hn fun t ht => hno t (.inr ht)]
    rfl
end Go.Proofs.YtcdpocffoapbeaaGreatDoor

-- alias Tryz
namespace Go.Proofs.YtcdpocffoapbeaaGreatDoor
set_option linter.unusedVariables false
open Go.Shelf Go.RowKit Go.Pw Go.Vc Go.Cs Go.Lib Go.Cd Go.Mg
set_option linter.unusedVariables false
/-! A merged segment is right (plain). -/
theorem okTerm_docs {docs : List Int} {t : Trm} (h : okTerm docs t = true) : ∀ p ∈ plT t, p.doc ∈ docs := by
  unfold okTerm at h
  rw [Bool.and_eq_true] at h
  have h := h.2
  unfold okList at h
  unfold plT
  cases hd : decP t.list with
  | none => rw [hd] at h; cases h
  | some l =>
    rw [hd] at h
    dsimp only at h
    rw [Bool.and_eq_true, List.all_eq_true] at h
    intro p hp
    exact of_decide_eq_true (h.2 p hp)
theorem posts_docs {docs : List Int} {l : List Trm} (h : ∀ t ∈ l, okTerm docs t = true) {k : Int × List UInt8} {d : Int} (hd : atD (postsT l k) d ≠ []) : d ∈ docs := by
  have hm := (mem_docs (right_posts l k) d).2 hd
  obtain ⟨p, hp, rfl⟩ := List.mem_map.1 hm
  obtain ⟨t, ht, _, e⟩ := posts_ne (l := l) (k := k) (fun e => by rw [e] at hp; cases hp)
  exact okTerm_docs (h t ht) p (by rw [e]; exact hp)
theorem right_two (a b : Sgm) (dead : List Int) : rightS (twoS a b dead) = true := by
  have ha := rightS_iff.1 (valid_right a)
  have hb := rightS_iff.1 (valid_right b)
  have hm := merge_posts _ (validS a).terms (validS b).terms (Nat.le_refl _) ha.2.2 hb.2.2
  have hp := merge_asc _ (validS a).terms (validS b).terms (Nat.le_refl _) ha.2.2 hb.2.2
  unfold twoS
  generalize validS a = A at *
  generalize validS b = B at *
  refine rightS_iff.2 ⟨⟨asc_sortD stoI _, fun n hn => ?_⟩, fun t ht => ?_, ?_⟩
  · have hn := (mem_sortD stoI _ _).1 hn
    rcases List.mem_append.1 (List.mem_filter.1 hn).1 with h | h
    · exact ha.1.2 n h
    · exact hb.1.2 n h
  · obtain ⟨z, hz, he⟩ := List.mem_filterMap.1 ht
    have hne : liveP dead z.2 ≠ [] := fun e => by unfold termOf at he; rw [if_pos e] at he; cases he
    have hte : t = ⟨z.1.field, z.1.word, encP (liveP dead z.2)⟩ := by unfold termOf at he; rw [if_neg hne] at he; injection he with he; exact he.symm
    have hzr : rightP z.2 = true := by rw [hm z hz]; exact right_orP (right_posts _ _) (right_posts _ _)
    have hfw : decide (1 ≤ z.1.field ∧ z.1.field ≤ 5) = true ∧ decide (wordsOf z.1.word = [z.1.word]) = true := by
      rcases merge_mem _ A.terms B.terms (Nat.le_refl _) z hz with ⟨u, hu, e⟩ | ⟨u, hu, e⟩
      · have h := ha.2.1 u hu
        unfold okTerm at h
        rw [Bool.and_eq_true, Bool.and_eq_true] at h
        unfold Trm.key at e
        injection e with e1 e2
        rw [← e1, ← e2]; exact h.1
      · have h := hb.2.1 u hu
        unfold okTerm at h
        rw [Bool.and_eq_true, Bool.and_eq_true] at h
        unfold Trm.key at e
        injection e with e1 e2
        rw [← e1, ← e2]; exact h.1
    rw [hte]
    unfold okTerm
    rw [Bool.and_eq_true, Bool.and_eq_true]
    refine ⟨hfw, ?_⟩
    unfold okList
    dsimp only
    rw [decP_enc (right_live dead hzr)]
    dsimp only
    rw [Bool.and_eq_true, List.all_eq_true]
    refine ⟨by cases hl : liveP dead z.2 with | nil => exact absurd hl hne | cons => rfl, fun x hx => decide_eq_true ?_⟩
    obtain ⟨hx1, hx2⟩ := List.mem_filter.1 hx
    refine (mem_sortD stoI _ _).2 (List.mem_filter.2 ⟨?_, hx2⟩)
    have h1 := (mem_docs hzr x.doc).1 (List.mem_map_of_mem hx1)
    rw [hm z hz, atD_orP (right_posts _ _) (right_posts _ _)] at h1
    rw [List.mem_append]
    by_cases h2 : atD (postsT A.terms z.1.key) x.doc = []
    · right
      refine posts_docs hb.2.1 (k := z.1.key) fun h3 => h1 ?_
      rw [unI_eq_nil]; exact ⟨h2, h3⟩
    · exact .inl (posts_docs ha.2.1 h2)
  · refine List.Pairwise.filterMap (termOf dead) (fun y z h b1 h1 b2 h2 => ?_) hp
    have key : ∀ {q : Trm × List Pst} {t : Trm}, termOf dead q = some t → t.key = q.1.key := fun {q t} e => by
      unfold termOf at e
      split at e
      · cases e
      · injection e with e; rw [← e]
    rw [key h1, key h2]; exact h
end Go.Proofs.YtcdpocffoapbeaaGreatDoor

-- alias Tryz
namespace Go.Proofs.YtcdpocffoapbeaaGreatDoor
set_option linter.unusedVariables false
open Go.Shelf Go.RowKit Go.Pw Go.Vc Go.Cs Go.Lib Go.Cd Go.Mg
set_option linter.unusedVariables false
/-! merge.Two commutes (plain). -/
theorem mem_two (a b : Sgm) (dead : List Int) (d : Int) : d ∈ (twoS a b dead).docs ↔ (d ∈ (validS a).docs ∨ d ∈ (validS b).docs) ∧ d ∉ dead := by
  unfold twoS
  dsimp only
  unfold sortI
  rw [mem_sortD stoI, List.mem_filter, List.mem_append]
  simp
theorem valid_of {s : Sgm} (h : rightS s = true) : validS s = s := if_pos h
end Go.Proofs.YtcdpocffoapbeaaGreatDoor

-- alias Tryz
namespace Go.Proofs.YtcdpocffoapbeaaGreatDoor
set_option linter.unusedVariables false
open Go.Shelf Go.RowKit Go.Pw Go.Vc Go.Cs Go.Lib Go.Cd Go.Mg
set_option linter.unusedVariables false
/-! Live documents over Or; the law of rows (plain). -/
theorem atD_live (dead : List Int) : ∀ (l : List Pst) (d : Int), atD (liveP dead l) d = if d ∈ dead then [] else atD l d
  | [], d => by simp [liveP, atD]
  | p :: l, d => by
    have ih := atD_live dead l d
    unfold liveP at ih ⊢
    rw [List.filter_cons]
    by_cases hp : p.doc ∈ dead
    · rw [if_neg (by simp [hp]), ih, atD_cons]
      by_cases hd : d ∈ dead
      · rw [if_pos hd, if_pos hd]
      · rw [if_neg hd, if_neg hd, if_neg (fun e : p.doc = d => hd (e ▸ hp))]
    · rw [if_pos (by simp [hp]), atD_cons, ih, atD_cons]
      by_cases he : p.doc = d
      · rw [if_pos he, if_pos he, if_neg (he ▸ hp)]
      · rw [if_neg he, if_neg he]
end Go.Proofs.YtcdpocffoapbeaaGreatDoor

/-! A range over a function whose iterator has blocks of its own that it makes while it runs. -/
namespace Go.Vc
set_option linter.unusedVariables false
open Go Go.Pw Go.RowKit
set_option linter.unusedVariables false
section
variable {P : Program} {n : Nat} {K : Exit → Fr → World → Prop} {ps : Array Tmp} {assign body : Code} {t : List It} {g : Operand} {fg : Nat → Value} {dl : DL} {w : World} {gf : Nat} {lb : Array Value} {α : Type}
/-- As Range.introW; the iterator may turn blocks that it makes itself, and knows where they will lie. A RANGE OVER A FUNCTION whose iterator turns blocks of its own between rounds, and whose items may lie in memory. cI: the blocks that the iterator may turn; I: what holds between two rounds; Ix: where a round has left by a jump; iter: the iterator's contract, at whatever invariant that implies I. -/
theorem Range.introN (enc : α → List Value) (hg : ev ⟨fg, dl⟩ g = .func (.func gf) #[] lb) (hgf : ∀ args w, (callFunc gf args).run P w = .ok (.enter gf args) w)
    (hpa : plainC assign = true) (hpb : plainC body = true) (hps : (ps.toList.all fun p => Nat.ble (p + 1) n) = true) (hen : ∀ x, (enc x).length = ps.size)
    (cI : Nat → Prop) (hcI : ∀ b, cI b → b ≠ w.heap.size ∧ b ≠ w.heap.size + 1) (I : List α → World → Prop) (Ix : Code → List α → World → Prop) (S : List α → Prop) (Nx : List α → α → World → Prop)
    (hI : ∀ pre W W', I pre W → w.heap.size + 2 ≤ W.heap.size → Keeps W W' (fun b => cI b ∨ b = w.heap.size + 1) → I pre W')
    (hIx : ∀ c pre W W', Ix c pre W → w.heap.size + 2 ≤ W.heap.size → Keeps W W' (fun b => cI b ∨ b = w.heap.size + 1) → Ix c pre W')
    (h0 : ∀ W, Keeps w W none_ → W.heap.size = w.heap.size + 2 → I [] W)
    (iter : ∀ J Jx : List α → World → Prop, (∀ pre W, J pre W → I pre W ∧ w.heap.size + 2 ≤ W.heap.size) → (∀ pre W W', J pre W → Keeps W W' cI → J pre W') → (∀ pre W W', Jx pre W → Keeps W W' cI → Jx pre W') →
      (∀ pre x W, J pre W → Nx pre x W → YieldS P (w.heap.size + 1) (enc x) W fun v W' => (v = .bool true ∧ J (pre ++ [x]) W' ∧ SameB cI W W') ∨ (v = .bool false ∧ Jx (pre ++ [x]) W')) →
      ∀ W, Keeps w W none_ → W.heap.size = w.heap.size + 2 → J [] W → Calls P gf (#[.func (.yield (w.heap.size + 1)) #[] #[]] ++ lb) W fun e W' => (∃ v, e = .returned v) ∧ ((∃ xs, S xs ∧ J xs W') ∨ ∃ pre, Jx pre W'))
    (round : ∀ pre x W, I pre W → Nx pre x W → w.heap.size + 2 ≤ W.heap.size → Sat P n (asgK P n w.heap.size (fun p W' => I p W' ∧ SameB cI W W') Ix (pre ++ [x]) W body) .normal [.code assign] (putPs ps.toList (enc x) ⟨fg, .nil⟩) W)
    (done : ∀ xs W, S xs → I xs W → w.heap.size + 2 ≤ W.heap.size → W.heap[w.heap.size]? = some (.deferred (some [])) → Sat P n K .normal t ⟨fg, .of (w.heap.size :: dl.toL)⟩ W)
    (stop : ∀ c pre W, Ix c pre W → w.heap.size + 2 ≤ W.heap.size → W.heap[w.heap.size]? = some (.deferred (some [])) → Sat P n K .normal (.code c :: t) ⟨fg, .of (w.heap.size :: dl.toL)⟩ W) :
    Range P n K g ps assign body t ⟨fg, dl⟩ w := by
  refine ⟨fun hf r hr => ?_⟩
  obtain rfl : r = none := by
    rcases hr with h | h
    · exact h
    · cases h
  refine wpIn_rangeFunc ?_
  intro fn _
  generalize hD : w.heap.size = D at *
  obtain ⟨rec, hrec⟩ : ∃ rec : Go.Loop, rec = { state := .ready, pending := none, fn := fn, tmps := frArr n ⟨fg, dl⟩, params := ps, assign := assign, body := body, defers := D } := ⟨_, rfl⟩
  obtain ⟨W1, hW1⟩ : ∃ W1, (w.alloc (.deferred (some []))).alloc (.loop rec) = W1 := ⟨_, rfl⟩
  have hs1 : W1.heap.size = D + 2 := by rw [← hW1]; simp [hD]
  have hk1 : Keeps w W1 none_ := by rw [← hW1]; exact ((Keeps.refl w none_).alloc _).alloc _
  have hL1 : W1.heap[D + 1]? = some (.loop rec) := by
    rw [← hW1, ← hD]; have := World.alloc_heap_new (w.alloc (.deferred (some []))) (.loop rec); rwa [World.size_alloc] at this
  have hD1 : W1.heap[D]? = some (.deferred (some [])) := by
    rw [← hW1, ← hD]; exact (Below.heap_alloc _ _ _ (by simp)).trans (World.alloc_heap_new w _)
  refine ⟨D + 1, [{ target := .collected D, args := #[] }], W1, { target := .fn (.func gf) lb, args := #[.func (.yield (D + 1)) #[] #[]] }, W1, gf,
    #[.func (.yield (D + 1)) #[] #[]] ++ lb, W1, ?_, ?_, fun _ _ => trivial, ?_, fun h => by simp [RW, Fence.wide] at h, ?_⟩
  · have := run_enterLoop_outer (P := P) (w := w) fn (frArr n ⟨fg, dl⟩) ps assign body
    rw [hD, ← hrec, hW1] at this
    exact this
  · have he : (act n ⟨fg, dl⟩).eval g = .func (.func gf) #[] lb := by rw [eval_act hf]; exact hg
    simp only [resolve, he]
    simp [go_sem]
  · simp [invoke, go_sem, hgf]
  · refine calls_rw ?_
    have keepL : ∀ {W W' : World} {k : Nat} {o : Obj}, Keeps W W' cI → W.heap[k]? = some o → k = D ∨ k = D + 1 → W'.heap[k]? = some o := fun {W W' k o} hk ho hle =>
      (hk.block k (Array.getElem?_eq_some_iff.1 ho).1 (fun h => by have := hcI _ h; omega)).trans ho
    have hlt : ∀ {W : World} {k : Nat} {o : Obj}, W.heap[k]? = some o → k < W.heap.size := fun ho => (Array.getElem?_eq_some_iff.1 ho).1
    refine (iter (fun pre W => I pre W ∧ W.heap[D + 1]? = some (.loop rec) ∧ W.heap[D]? = some (.deferred (some [])))
      (fun pre W => ∃ c, Ix c pre W ∧ W.heap[D + 1]? = some (.loop { rec with state := .done, pending := some c }) ∧ W.heap[D]? = some (.deferred (some [])))
      (fun pre W h => ⟨h.1, by have := hlt h.2.1; omega⟩)
      (fun pre W W' h k => ⟨hI pre W W' h.1 (by have := hlt h.2.1; omega) (k.mono fun _ _ h => .inl h), keepL k h.2.1 (.inr rfl), keepL k h.2.2 (.inl rfl)⟩)
      (fun pre W W' h k => by
        obtain ⟨c, h1, h2, h3⟩ := h
        exact ⟨c, hIx c pre W W' h1 (by have := hlt h2; omega) (k.mono fun _ _ h => .inl h), keepL k h2 (.inr rfl), keepL k h3 (.inl rfl)⟩)
      ?_ W1 hk1 hs1 ⟨h0 W1 hk1 hs1, hL1, hD1⟩).mono ?_
    · rintro pre x W ⟨hi, hl, hd⟩ hnx
      have hsz : D + 2 ≤ W.heap.size := by have := hlt hl; omega
      refine yield_of hf hrec hl (hen x) hps hpa hpb (round pre x W hi hnx hsz) ?_ ?_
      · rintro W3 W4 h3 h4 h5 rfl
        have hs3 := hlt h3
        refine .inl ⟨rfl, ⟨hI _ _ _ h5.1 (by omega) ((keeps_putObj _ _ _).mono fun b _ h => .inr h), World.putObj_heap_same hs3, (World.putObj_heap_other (by omega)).trans (h4.trans hd)⟩, fun b hb => ?_⟩
        have := hcI b hb
        exact (World.putObj_heap_other (by omega)).trans (h5.2 b hb)
      · rintro c W3 W4 h3 h4 h5 rfl
        have hs3 := hlt h3
        refine .inr ⟨rfl, c, hIx _ _ _ _ h5 (by omega) ((keeps_putObj _ _ _).mono fun b _ h => .inr h), World.putObj_heap_same hs3, ?_⟩
        exact (World.putObj_heap_other (by omega)).trans (h4.trans hd)
    · rintro e W2 ⟨⟨v, rfl⟩, (⟨xs, hS, hi, hl, hd⟩ | ⟨pre, c, hi, hl, hd⟩)⟩
      · have hsz := hlt hl
        refine ⟨none, _, by have := run_endLoop (P := P) hl (by rw [hrec]; simp); rw [show rec.pending = none from by rw [hrec]] at this; exact this, ?_⟩
        have h1 := done xs (W2.putObj (D + 1) (.loop { rec with state := .exhausted, pending := none })) hS (hI _ _ _ hi (by omega) ((keeps_putObj _ _ _).mono fun b _ h => .inr h)) (by rw [size_putObj]; omega) ((World.putObj_heap_other (by omega)).trans hd)
        exact ⟨⟨fg, .of (D :: dl.toL)⟩, hf, rfl, h1.h hf⟩
      · have hsz := hlt hl
        refine ⟨some c, _, run_endLoop (P := P) hl (by simp), ?_⟩
        have h1 := stop c pre (W2.putObj (D + 1) (.loop { rec with state := .exhausted, pending := some c })) (hIx _ _ _ _ hi (by omega) ((keeps_putObj _ _ _).mono fun b _ h => .inr h)) (by rw [size_putObj]; omega) ((World.putObj_heap_other (by omega)).trans hd)
        exact (h1.h hf : c.wpX P (LiftE n (after P n t K)) (act n ⟨fg, .of (D :: dl.toL)⟩) _) none (.inl rfl)
end
end Go.Vc
