/- Helper lemmas that the proved statement rests on; no conditions of their own. -/
import Derived.Test.YtennokckmjcefaaGreatDoorGWcN
set_option linter.unusedVariables false
namespace Go.Proofs.YtennokckmjcefaaGreatDoor
open Go.Shelf Go.RowKit Go.Pw Go.Vc Go.Cs Go.Lib Go.Cd Go.Mg
abbrev Ky := Int × List UInt8
def hadE (es : List Ent) (e : Ent) : Bool := es.any fun x => decide (x.doc = e.doc) && decide (x.field = e.field)
def stepE (es : List Ent) (e : Ent) : List Ent := if countsE e = true ∧ hadE es e = false then es ++ [e] else es
def keptE (l : List Ent) : List Ent := l.foldl stepE []
theorem zkD (l : List Ent) (e : Ent) : keptE (l ++ [e]) = stepE (keptE l) e := by unfold keptE; rw [List.foldl_append]; rfl
theorem zgt {es : List Ent} {e : Ent} : hadE es e = true ↔ ∃ x ∈ es, x.doc = e.doc ∧ x.field = e.field := by
 unfold hadE; simp [List.any_eq_true]
structure Kept (es : List Ent) : Prop where
 ok : ∀ e ∈ es, countsE e = true
 sp : es.Pairwise fun a b => ¬ (a.doc = b.doc ∧ a.field = b.field)
theorem Kept.nil : Kept [] := ⟨(fun _ h => by cases h), List.Pairwise.nil⟩
theorem Kept.step {es : List Ent} (h : Kept es) (e : Ent) : Kept (stepE es e) := by
 unfold stepE
 split
 ·rename_i hc
  refine ⟨fun x hx => ?_, List.pairwise_append.2 ⟨h.sp, List.pairwise_singleton _ _, fun a ha b hb hab => ?_⟩⟩
  ·rcases List.mem_append.1 hx with hx | hx
   ·exact h.ok x hx
   ·rw [List.mem_singleton.1 hx]; exact hc.1
  ·rw [List.mem_singleton.1 hb] at hab
   have := zgt.2 ⟨a, ha, hab⟩
   rw [hc.2] at this; cases this
 ·exact h
theorem zlT (l : List Ent) : ∀ es, Kept es → Kept (l.foldl stepE es) := by
 induction l with
 | nil => exact fun es h => h
 | cons e l ih => exact fun es h => ih _ (h.step e)
theorem zid (l : List Ent) : Kept (keptE l) := zlT l [] Kept.nil
theorem stepE_sub {es : List Ent} {e x : Ent} (h : x ∈ stepE es e) : x ∈ es ∨ x = e := by
 unfold stepE at h
 split at h
 ·rcases List.mem_append.1 h with h | h
  ·exact .inl h
  ·exact .inr (List.mem_singleton.1 h)
 ·exact .inl h
theorem kept_sub (l : List Ent) : ∀ es x, x ∈ l.foldl stepE es → x ∈ es ∨ x ∈ l := by
 induction l with
 | nil => exact fun es x h => .inl h
 | cons e l ih =>
  intro es x h
  rcases ih _ x h with h | h
  ·rcases stepE_sub h with h | h
   ·exact .inl h
   ·exact .inr (h ▸ List.mem_cons_self)
  ·exact .inr (List.mem_cons_of_mem _ h)
theorem zmk {l : List Ent} {x : Ent} (h : x ∈ keptE l) : x ∈ l := by
 rcases kept_sub l [] x h with h | h
 ·cases h
 ·exact h
def posF (w : List UInt8) : Nat → List (List UInt8) → List Int
 | _, [] => []
 | i, x :: r => if x = w then (i : Int) :: posF w (i + 1) r else posF w (i + 1) r
theorem zij (w x : List UInt8) : ∀ (i : Nat) (l : List (List UInt8)), posF w i (l ++ [x]) = posF w i l ++ if x = w then [((i + l.length : Nat) : Int)] else []
 | i, [] => by
  show (if x = w then _ else _) = _
  split <;> simp [posF]
 | i, y :: l => by
  show (if y = w then (i : Int) :: posF w (i + 1) (l ++ [x]) else posF w (i + 1) (l ++ [x])) = (if y = w then _ else _) ++ _
  rw [zij w x (i + 1) l, List.length_cons, show i + 1 + l.length = i + (l.length + 1) by omega]
  split <;> rfl
theorem zfA (w : List UInt8) : ∀ (i : Nat) (l : List (List UInt8)), ∀ n ∈ posF w i l, (i : Int) ≤ n ∧ n < ((i + l.length : Nat) : Int)
 | i, [], n, h => by cases h
 | i, y :: l, n, h => by
  unfold posF at h
  rw [List.length_cons]
  split at h
  ·rcases List.mem_cons.1 h with rfl | h
   ·omega
   ·have := zfA w (i + 1) l n h; omega
  ·have := zfA w (i + 1) l n h; omega
theorem zeE (w : List UInt8) : ∀ (i : Nat) (l : List (List UInt8)), AscB ltI (posF w i l)
 | i, [] => .nil
 | i, y :: l => by
  unfold posF
  split
  ·exact List.Pairwise.cons (fun n hn => decide_eq_true (by have := zfA w (i + 1) l n hn; omega)) (zeE w (i + 1) l)
  ·exact zeE w (i + 1) l
theorem zgF (w : List UInt8) : ∀ (i : Nat) (l : List (List UInt8)), (posF w i l).length ≤ l.length
 | i, [] => Nat.le_refl _
 | i, y :: l => by
  unfold posF
  have := zgF w (i + 1) l
  split <;> simp <;> omega
theorem zjA (w : List UInt8) : ∀ (i : Nat) (l : List (List UInt8)), posF w i l ≠ [] → w ∈ l
 | i, [], h => absurd rfl h
 | i, y :: l, h => by
  unfold posF at h
  split at h
  ·rename_i e; rw [e]; exact List.mem_cons_self
  ·exact List.mem_cons_of_mem _ (zjA w (i + 1) l h)
def partE (ws : List (List UInt8)) (d f : Int) (k : Ky) (d' : Int) : List Int := if d' = d ∧ k.1 = f then posF k.2 0 ws else []
def placesE (es : List Ent) (k : Ky) (d : Int) : List Int := es.flatMap fun e => partE (wordsOf e.text) e.doc e.field k d
theorem zib (es : List Ent) (e : Ent) (k : Ky) (d : Int) : placesE (es ++ [e]) k d = placesE es k d ++ partE (wordsOf e.text) e.doc e.field k d := by
 unfold placesE; rw [List.flatMap_append]; simp
theorem zmt (d f : Int) (k : Ky) (d' : Int) : partE [] d f k d' = [] := by unfold partE; split <;> rfl
def updF (f : Ky → Int → List Int) (k : Ky) (d : Int) (x : Int) : Ky → Int → List Int := fun k' d' => if k' = k ∧ d' = d then f k d ++ [x] else f k' d'
theorem zly (g : Ky → Int → List Int) (ws : List (List UInt8)) (i : Nat) (hi : i < ws.length) (d f : Int) :
  updF (fun k d' => g k d' ++ partE (ws.take i) d f k d') (f, ws[i]) d (i : Nat) = fun k d' => g k d' ++ partE (ws.take (i + 1)) d f k d' := by
 funext k d'
 obtain ⟨k1, k2⟩ := k
 unfold updF partE
 dsimp only
 rw [List.take_succ_eq_append_getElem hi, zij, List.length_take, Nat.min_eq_left (by omega), Nat.zero_add]
 by_cases h1 : d' = d ∧ k1 = f
 ·obtain ⟨rfl, rfl⟩ := h1
  by_cases h2 : k2 = ws[i]
  ·subst h2; simp
  ·have e1 : ¬ ((k1, k2) = (k1, ws[i]) ∧ d' = d') := fun h => h2 (by injection h.1)
   have e2 : ¬ ws[i] = k2 := fun h => h2 h.symm
   simp [e2]
   exact fun h => absurd h h2
 ·have e1 : ¬ ((k1, k2) = (f, ws[i]) ∧ d' = d) := fun h => h1 ⟨h.2, by injection h.1⟩
  rw [if_neg e1, if_neg h1, if_neg h1]
theorem zbk {es : List Ent} (h : Kept es) (k : Ky) (d : Int) (hne : placesE es k d ≠ []) : ∃ e ∈ es, e.doc = d ∧ e.field = k.1 ∧ placesE es k d = posF k.2 0 (wordsOf e.text) ∧ k.2 ∈ wordsOf e.text := by
 induction es with
 | nil => exact absurd rfl hne
 | cons e es ih =>
  obtain ⟨h1, h2⟩ := List.pairwise_cons.1 h.sp
  have hk : Kept es := ⟨fun x hx => h.ok x (List.mem_cons_of_mem _ hx), h2⟩
  have hc : placesE (e :: es) k d = partE (wordsOf e.text) e.doc e.field k d ++ placesE es k d := by unfold placesE; rw [List.flatMap_cons]
  rw [hc] at hne ⊢
  by_cases hp : d = e.doc ∧ k.1 = e.field
  ·have h0 : placesE es k d = [] := by
    by_cases hz : placesE es k d = []
    ·exact hz
    ·obtain ⟨x, hx, hd, hf, _⟩ := ih hk hz
     exact absurd ⟨by omega, by rw [← hp.2, hf]⟩ (h1 x hx)
   rw [h0, List.append_nil] at hne ⊢
   have e1 : partE (wordsOf e.text) e.doc e.field k d = posF k.2 0 (wordsOf e.text) := if_pos hp
   rw [e1] at hne ⊢
   exact ⟨e, List.mem_cons_self, hp.1.symm, hp.2.symm, rfl, zjA _ _ _ hne⟩
  ·have e1 : partE (wordsOf e.text) e.doc e.field k d = [] := if_neg hp
   rw [e1, List.nil_append] at hne ⊢
   obtain ⟨x, hx, r⟩ := ih hk hne
   exact ⟨x, List.mem_cons_of_mem _ hx, r⟩
structure Built (s : Sgm) (es : List Ent) : Prop where
 right : rightS s = true
 docs : ∀ d, d ∈ s.docs ↔ ∃ e ∈ es, e.doc = d
 posts : ∀ k d, atD (postsT s.terms k) d = placesE es k d
theorem Built.uniq {s t : Sgm} {es : List Ent} (hs : Built s es) (ht : Built t es) : s = t :=
 zpS hs.right ht.right (zdb stoI _ _ (zao.1 hs.right).1.1 (zao.1 ht.right).1.1 fun z => (hs.docs z).trans (ht.docs z).symm)
  fun k => zhl (zaH _ _) (zaH _ _) fun d => (hs.posts k d).trans (ht.posts k d).symm
abbrev sortL (l : List Int) : List Int := l.mergeSort fun x y => decide (x ≤ y)
theorem zoZ (l : List Int) : (sortL l).Pairwise (· ≤ ·) := by
 refine (List.pairwise_mergeSort (le := fun x y : Int => decide (x ≤ y)) (fun a b c h1 h2 => ?_) (fun a b => ?_) l).imp fun h => of_decide_eq_true h
 ·have := of_decide_eq_true h1; have := of_decide_eq_true h2; exact decide_eq_true (by omega)
 ·rcases Int.le_total a b with h | h <;> simp [h]
theorem zkc {l : List Int} (h : l.Nodup) : (sortL l).Pairwise (· < ·) := by
 have h1 := zoZ l
 have h2 : (sortL l).Nodup := (List.mergeSort_perm l _).nodup_iff.2 h
 exact (h1.and h2).imp fun h => by have := h.1; have := h.2; omega
theorem zbE {l : List Int} {x : Int} : x ∈ sortL l ↔ x ∈ l := List.mem_mergeSort
def postG (g : Ky → Int → List Int) (p : Ky × List Int) : List Pst := (sortL p.2).map fun d => ⟨d, g p.1 d⟩
def tmOf (g : Ky → Int → List Int) (p : Ky × List Int) : Trm := ⟨p.1.1, p.1.2, encP (postG g p)⟩
theorem zmE (f : Int → List Int) (d : Int) : ∀ l : List Int, atD (l.map fun d => (⟨d, f d⟩ : Pst)) d = if d ∈ l then f d else []
 | [] => rfl
 | x :: l => by
  rw [List.map_cons, zaJ, zmE f d l]
  by_cases h : x = d
  ·subst h; simp
  ·have h2 : ¬ d = x := fun e => h e.symm
   simp [h, h2]
theorem zkl {es : List Ent} (hk : Kept es) (htx : ∀ e ∈ es, e.text.length ≤ 1000000000) (kl : List (Ky × List Int)) (hnd : (kl.map (·.1)).Nodup)
  (hno : ∀ k, k ∉ kl.map (·.1) → ∀ d, placesE es k d = []) (hin : ∀ p ∈ kl, p.2.Nodup ∧ p.2 ≠ [] ∧ ∀ d, d ∈ p.2 ↔ placesE es p.1 d ≠ [])
  {ts : List Trm} (hp : ts.Perm (kl.map (tmOf (placesE es)))) (hs : ts.Pairwise fun a b => ltK b.key a.key = false)
  {dl : List Int} (hdn : dl.Nodup) (hd : ∀ d, d ∈ dl ↔ ∃ e ∈ es, e.doc = d) : Built ⟨ts, sortL dl⟩ es := by
 have hcount : ∀ e ∈ es, 1 ≤ e.doc ∧ e.doc ≤ 1099511627776 ∧ 1 ≤ e.field ∧ e.field ≤ 5 := fun e he => by
  have := hk.ok e he
  unfold countsE at this
  simp only [Bool.and_eq_true, decide_eq_true_eq] at this
  omega
 have hpl : ∀ k d, placesE es k d ≠ [] → (1 ≤ d ∧ d ≤ 1099511627776) ∧ (1 ≤ k.1 ∧ k.1 ≤ 5) ∧ wordsOf k.2 = [k.2] ∧ AscB ltI (placesE es k d) ∧ (∀ n ∈ placesE es k d, 0 ≤ n ∧ n ≤ 1099511627776) ∧ d ∈ sortL dl := fun k d hne => by
  obtain ⟨e, he, h1, h2, h3, h4⟩ := zbk hk k d hne
  have hc := hcount e he
  have hw : (wordsOf e.text).length ≤ 2 * e.text.length + 1 := by unfold wordsOf; rw [List.length_map]; exact zcq _
  have ht := htx e he
  refine ⟨by omega, by omega, ?_, h3 ▸ zeE _ _ _, fun n hn => ?_, zbE.2 ((hd d).2 ⟨e, he, h1⟩)⟩
  ·obtain ⟨x, hx, e1⟩ := List.mem_map.1 h4
   have := zkv (zeT _ x hx)
   rw [e1] at this
   unfold wordsOf; rw [this]; rfl
  ·rw [h3] at hn
   have := zfA _ _ _ n hn; omega
 have hP : ∀ p ∈ kl, rightP (postG (placesE es) p) = true := fun p hp => by
  obtain ⟨i1, i2, i3⟩ := hin p hp
  refine zas.2 ⟨?_, fun x hx => ?_⟩
  ·unfold postG AscP
   rw [List.pairwise_map]
   exact zkc i1
  ·obtain ⟨d, hd2, rfl⟩ := List.mem_map.1 hx
   have hne := (i3 d).1 (zbE.1 hd2)
   obtain ⟨j1, j2, j3, j4, j5, j6⟩ := hpl _ _ hne
   exact ⟨j1.1, j1.2, hne, j4, j5⟩
 have hPne : ∀ p ∈ kl, postG (placesE es) p ≠ [] := fun p hp e => by
  obtain ⟨i1, i2, i3⟩ := hin p hp
  have : sortL p.2 = [] := List.map_eq_nil_iff.1 e
  obtain ⟨d, hd⟩ := List.exists_mem_of_ne_nil _ i2
  have h := zbE.2 hd
  rw [this] at h; cases h
 have hkey : (ts.map Trm.key).Perm (kl.map (·.1)) := by
  have := hp.map Trm.key
  rw [List.map_map] at this
  exact this
 have hasc : AscK ts := by
  have h2 : (ts.map Trm.key).Nodup := hkey.nodup_iff.2 hnd
  have h2 : ts.Pairwise fun a b => a.key ≠ b.key := List.pairwise_map.1 h2
  refine (hs.and h2).imp fun {a b} h => ?_
  cases hq : ltK a.key b.key with
  | true => rfl
  | false => exact absurd (stoK.tri _ _ hq h.1) h.2
 have hmem : ∀ t, t ∈ ts ↔ ∃ p ∈ kl, tmOf (placesE es) p = t := fun t => by rw [hp.mem_iff, List.mem_map]
 have hposts : ∀ k d, atD (postsT ts k) d = placesE es k d := fun k d => by
  by_cases hkk : k ∈ kl.map (·.1)
  ·obtain ⟨p, hp, rfl⟩ := List.mem_map.1 hkk
   have hm := (hmem _).2 ⟨p, hp, rfl⟩
   have e1 := zcv ts hasc _ hm
   rw [show (tmOf (placesE es) p).key = p.1 from rfl] at e1
   rw [e1, show plT (tmOf (placesE es) p) = postG (placesE es) p from zkj (hP p hp)]
   unfold postG
   rw [zmE (fun d => placesE es p.1 d) d]
   split
   ·rfl
   ·rename_i h
    by_cases hz : placesE es p.1 d = []
    ·exact hz.symm
    ·exact absurd (zbE.2 (((hin p hp).2.2 d).2 hz)) h
  ·rw [hno k hkk d]
   by_cases hz : postsT ts k = []
   ·rw [hz]; rfl
   ·obtain ⟨t, ht, e, _⟩ := zes hz
    obtain ⟨p, hp, rfl⟩ := (hmem t).1 ht
    exact absurd (List.mem_map.2 ⟨p, hp, e⟩) hkk
 refine ⟨zao.2 ⟨⟨?_, fun n hn => ?_⟩, fun t ht => ?_, hasc⟩, fun d => zbE.trans (hd d), hposts⟩
 ·exact (zkc hdn).imp fun h => decide_eq_true h
 ·obtain ⟨e, he, rfl⟩ := (hd n).1 (zbE.1 hn)
  have := hcount e he; omega
 ·obtain ⟨p, hp, rfl⟩ := (hmem t).1 ht
  obtain ⟨i1, i2, i3⟩ := hin p hp
  obtain ⟨d, hd2⟩ := List.exists_mem_of_ne_nil _ i2
  obtain ⟨j1, j2, j3, j4, j5, j6⟩ := hpl _ _ ((i3 d).1 hd2)
  unfold okTerm
  rw [Bool.and_eq_true, Bool.and_eq_true]
  refine ⟨⟨decide_eq_true j2, decide_eq_true j3⟩, ?_⟩
  unfold okList
  rw [show decP (tmOf (placesE es) p).list = some (postG (placesE es) p) from zdS (hP p hp)]
  dsimp only
  rw [Bool.and_eq_true, List.all_eq_true]
  refine ⟨by cases hl : postG (placesE es) p with | nil => exact absurd hl (hPne p hp) | cons => rfl, fun x hx => decide_eq_true ?_⟩
  obtain ⟨d', hd', rfl⟩ := List.mem_map.1 hx
  exact (hpl _ _ ((i3 d').1 (zbE.1 hd'))).2.2.2.2.2
def pS (s : Sgm) (k : Ky) (d : Int) : List Int := atD (postsT (validS s).terms k) d
theorem zfV (s : Sgm) (k : Ky) (d : Int) : AscB ltI (pS s k d) := (zdT (zaH _ _) d).1
theorem zlP (a b : Sgm) (dead : List Int) (k : Ky) (d : Int) : pS (twoS a b dead) k d = if d ∈ dead then [] else unI (pS a k d) (pS b k d) := by
 unfold pS
 rw [zbz (zdL a b dead), znA, zha, zgQ (zaH _ _) (zaH _ _)]
theorem zeP : rightS ⟨[], []⟩ = true := by rfl
theorem zpB (k : Ky) (d : Int) : pS ⟨[], []⟩ k d = [] := by unfold pS; rw [zbz zeP]; rfl
def okK (field : Int) (p : List UInt8 → Bool) (k : Ky) : Bool := (decide (field = 0) || decide (field = k.1)) && p k.2
theorem zhU : ∀ (l : List Trm) (o : List Pst), rightP o = true → rightP (l.foldl (fun o t => orP o (plT t)) o) = true ∧ ∀ d z, z ∈ atD (l.foldl (fun o t => orP o (plT t)) o) d ↔ z ∈ atD o d ∨ ∃ t ∈ l, z ∈ atD (plT t) d
 | [], o, h => ⟨h, fun d z => by simp⟩
 | t :: l, o, h => by
  obtain ⟨h1, h2⟩ := zhU l (orP o (plT t)) (zdy h (zch t))
  refine ⟨h1, fun d z => ?_⟩
  rw [List.foldl_cons, h2 d z, zgQ h (zch t), zce (zdT h d).1 (zdT (zch t) d).1]
  constructor
  ·rintro ((h | h) | ⟨x, hx, h⟩)
   ·exact .inl h
   ·exact .inr ⟨t, List.mem_cons_self, h⟩
   ·exact .inr ⟨x, List.mem_cons_of_mem _ hx, h⟩
  ·rintro (h | ⟨x, hx, h⟩)
   ·exact .inl (.inl h)
   ·rcases List.mem_cons.1 hx with rfl | hx
    ·exact .inl (.inr h)
    ·exact .inr ⟨x, hx, h⟩
theorem zhB (s : Sgm) (field : Int) (p : List UInt8 → Bool) : rightP (lookS s field p) = true ∧ ∀ d z, z ∈ atD (lookS s field p) d ↔ ∃ k, okK field p k = true ∧ z ∈ pS s k d := by
 unfold lookS
 by_cases hr : rightS s = true
 ·rw [if_pos hr]
  have hasc := (zao.1 hr).2.2
  obtain ⟨h1, h2⟩ := zhU (s.terms.filter fun t => (decide (field = 0) || decide (field = t.field)) && p t.word) [] rfl
  refine ⟨h1, fun d z => (h2 d z).trans ?_⟩
  unfold pS
  rw [zbz hr]
  constructor
  ·rintro (h | ⟨t, ht, h⟩)
   ·cases h
   ·obtain ⟨ht, hc⟩ := List.mem_filter.1 ht
    exact ⟨t.key, hc, by rw [zcv _ hasc t ht]; exact h⟩
  ·rintro ⟨k, hk, h⟩
   have hne : postsT s.terms k ≠ [] := fun e => by rw [e] at h; cases h
   obtain ⟨t, ht, rfl, e⟩ := zes hne
   exact .inr ⟨t, List.mem_filter.2 ⟨ht, hk⟩, by rw [e]; exact h⟩
 ·rw [if_neg hr]
  refine ⟨rfl, fun d z => ⟨fun h => ?_, fun h => ?_⟩⟩
  ·cases h
  ·obtain ⟨k, hk, h⟩ := h
   unfold pS validS at h
   rw [if_neg hr] at h; cases h
theorem ziz (a b : List Ent) (e : Ent) : hadE (a ++ b) e = (hadE a e || hadE b e) := by unfold hadE; rw [List.any_append]
theorem zdF (a b : List Ent) (k : Ky) (d : Int) : placesE (a ++ b) k d = placesE a k d ++ placesE b k d := by unfold placesE; rw [List.flatMap_append]
theorem zaI {α : Type} [DecidableEq α] : ∀ (l m : List α), l.Nodup → (∀ x ∈ l, x ∈ m) → l.length ≤ m.length
 | [], m, _, _ => Nat.zero_le _
 | x :: l, m, h, hs => by
  obtain ⟨h1, h2⟩ := List.nodup_cons.1 h
  have hx := hs x List.mem_cons_self
  have ih := zaI l (m.erase x) h2 fun y hy => (List.mem_erase_of_ne (fun e : y = x => h1 (e ▸ hy))).2 (hs y (List.mem_cons_of_mem _ hy))
  rw [List.length_erase_of_mem hx] at ih
  have := List.length_pos_of_mem hx
  rw [List.length_cons]; omega
theorem zjK {α β : Type} (f : α → List β) (n : Nat) : ∀ l : List α, (∀ x ∈ l, (f x).length ≤ n) → (l.flatMap f).length ≤ l.length * n
 | [], _ => by simp
 | x :: l, h => by
  rw [List.flatMap_cons, List.length_append, List.length_cons, Nat.succ_mul]
  have := h x List.mem_cons_self
  have := zjK f n l fun y hy => h y (List.mem_cons_of_mem _ hy)
  omega
theorem zmb (m : Nat) : ∀ l : List Pst, (∀ p ∈ l, p.places.length ≤ m) → cntP l ≤ l.length * (m + 2)
 | [], _ => by simp [cntP, encN]
 | p :: l, h => by
  rw [cnt_cons, List.length_cons, Nat.succ_mul]
  have := h p List.mem_cons_self
  have := zmb m l fun y hy => h y (List.mem_cons_of_mem _ hy)
  omega
theorem zbb (t : List UInt8) : (wordsOf t).length ≤ 2 * t.length + 1 := by unfold wordsOf; rw [List.length_map]; exact zcq _
theorem zoe {s : Sgm} {es : List Ent} (h : Built s es) (hk : Kept es) {n m : Nat} (hn : es.length ≤ n) (hm : ∀ e ∈ es, 2 * e.text.length + 1 ≤ m) : Bd s n (n * m) (n * (m + 2)) := by
 obtain ⟨r1, r2, r3⟩ := zao.1 h.right
 have hdn : ∀ l : List Int, AscB ltI l → l.Nodup := fun l hl => by
  unfold AscB at hl
  exact hl.imp fun h => by have := of_decide_eq_true h; omega
 have hkn : (s.terms.map Trm.key).Nodup := List.pairwise_map.2 (r3.imp fun h => zdx h)
 have hkey : ∀ t ∈ s.terms, ∃ e ∈ es, e.field = t.key.1 ∧ t.key.2 ∈ wordsOf e.text := fun t ht => by
  have hp := zcv s.terms r3 t ht
  obtain ⟨ne, _⟩ := zcN (r2 t ht)
  obtain ⟨p, hp2⟩ := List.exists_mem_of_ne_nil _ ne
  have hr := zch t
  have h1 := zcB (zbh hr) hp2
  have h2 := (zas.1 hr).2 p hp2
  have h3 : placesE es t.key p.doc ≠ [] := by rw [← h.posts, hp, h1]; exact h2.2.2.1
  obtain ⟨e, he, _, e2, _, e4⟩ := zbk hk _ _ h3
  exact ⟨e, he, e2, e4⟩
 refine ⟨?_, ?_, fun z hz => ?_⟩
 ·have := zaI s.docs (es.map (·.doc)) (hdn _ r1.1) fun d hd => by
   obtain ⟨e, he, hd⟩ := (h.docs d).1 hd
   exact List.mem_map.2 ⟨e, he, hd⟩
  rw [List.length_map] at this; omega
 ·have h1 := zaI (s.terms.map Trm.key) (es.flatMap fun e => (wordsOf e.text).map fun w => (e.field, w)) hkn fun k hk2 => by
   obtain ⟨t, ht, rfl⟩ := List.mem_map.1 hk2
   obtain ⟨e, he, e2, e4⟩ := hkey t ht
   exact List.mem_flatMap.2 ⟨e, he, List.mem_map.2 ⟨_, e4, by rw [e2]⟩⟩
  have h2 := zjK (fun e : Ent => (wordsOf e.text).map fun w => (e.field, w)) m es fun e he => by
   rw [List.length_map]; exact Nat.le_trans (zbb _) (hm e he)
  rw [List.length_map] at h1
  exact Nat.le_trans h1 (Nat.le_trans h2 (Nat.mul_le_mul_right _ hn))
 ·have hr := zch z
  have hp := zcv s.terms r3 z hz
  have hc : cntP (plT z) ≤ n * (m + 2) := by
   have h1 := zmb m (plT z) fun p hp2 => by
    have h1 := zcB (zbh hr) hp2
    have h2 := (zas.1 hr).2 p hp2
    have h3 : placesE es z.key p.doc = p.places := by rw [← h.posts, hp, h1]
    obtain ⟨e, he, _, _, e3, _⟩ := zbk hk _ _ (by rw [h3]; exact h2.2.2.1)
    rw [← h3, e3]
    exact Nat.le_trans (zgF _ _ _) (Nat.le_trans (zbb _) (hm e he))
   have h4 : (plT z).length ≤ n := by
    have h2 := zaI ((plT z).map (·.doc)) (es.map (·.doc)) (hdn _ (zeC.1 (zbh hr))) fun d hd => by
     obtain ⟨p, hp2, rfl⟩ := List.mem_map.1 hd
     have h1 := zcB (zbh hr) hp2
     have h2 := (zas.1 hr).2 p hp2
     have h3 : placesE es z.key p.doc = p.places := by rw [← h.posts, hp, h1]
     obtain ⟨e, he, e1, _⟩ := zbk hk _ _ (by rw [h3]; exact h2.2.2.1)
     exact List.mem_map.2 ⟨e, he, e1⟩
    rw [List.length_map, List.length_map] at h2; omega
   exact Nat.le_trans h1 (Nat.mul_le_mul_right _ h4)
  obtain ⟨e, he, e2, e4⟩ := hkey z hz
  refine ⟨?_, ?_, hc⟩
  ·obtain ⟨x, hx, e1⟩ := List.mem_map.1 e4
   have := zjb (zeT _ x hx)
   rw [e1] at this
   have : z.word.length ≤ 40 := this
   omega
  ·rw [(zcN (r2 z hz)).2]
   have := zdk (plT z)
   unfold cntP at hc
   omega
theorem zeK {l : List Int} {i : Nat} (h : pickL l = some i) : i + 1 < l.length := by
 have := zlH l _ i h; omega
structure Ix where
 segs : List Sgm
 dead : List Int
deriving DecidableEq, Inhabited
structure IxOk (x : Ix) : Prop where
 rt : ∀ s ∈ x.segs, rightS s = true
 ne : ∀ s ∈ x.segs, s.docs ≠ []
 dj : x.segs.Pairwise fun s t => ∀ d, d ∈ s.docs → d ∉ t.docs
 da : AscB ltI x.dead
 di : ∀ d ∈ x.dead, ∃ s ∈ x.segs, d ∈ s.docs
def inX (l : List Sgm) (d : Int) : Prop := ∃ s ∈ l, d ∈ s.docs
def liveX (x : Ix) (d : Int) : Prop := inX x.segs d ∧ d ∉ x.dead
def pL : List Sgm → Ky → Int → List Int
 | [], _, _ => []
 | s :: l, k, d => unI (pS s k d) (pL l k d)
def pX (x : Ix) (k : Ky) (d : Int) : List Int := if d ∈ x.dead then [] else pL x.segs k d
theorem zjj (l : List Sgm) (k : Ky) (d : Int) : AscB ltI (pL l k d) := by
 induction l with
 | nil => exact .nil
 | cons s l ih => exact zdi (zfV s k d) ih
theorem zgT {s : Sgm} (h : rightS s = true) {k : Ky} {d : Int} (hd : d ∉ s.docs) : pS s k d = [] := by
 unfold pS
 rw [zbz h]
 by_cases hz : atD (postsT s.terms k) d = []
 ·exact hz
 ·exact absurd (zeh (zao.1 h).2.1 hz) hd
theorem zjr {l : List Sgm} (hr : ∀ s ∈ l, rightS s = true) {k : Ky} {d : Int} (hd : ¬ inX l d) : pL l k d = [] := by
 induction l with
 | nil => rfl
 | cons s l ih =>
  show unI _ _ = []
  rw [zgT (hr s List.mem_cons_self) (fun h => hd ⟨s, List.mem_cons_self, h⟩), ih (fun t ht => hr t (List.mem_cons_of_mem _ ht)) (fun ⟨t, ht, h⟩ => hd ⟨t, List.mem_cons_of_mem _ ht, h⟩)]
  rfl
theorem zjC (a b : List Sgm) (k : Ky) (d : Int) : pL (a ++ b) k d = unI (pL a k d) (pL b k d) := by
 induction a with
 | nil => show pL b k d = unI [] _; rw [zdm]
 | cons s a ih =>
  show unI _ (pL (a ++ b) k d) = unI (unI _ _) _
  rw [ih, zlm (zfV _ _ _) (zjj _ _ _) (zjj _ _ _)]
theorem zft (a b : List Sgm) (d : Int) : inX (a ++ b) d ↔ inX a d ∨ inX b d := by
 unfold inX
 constructor
 ·rintro ⟨s, hs, h⟩
  rcases List.mem_append.1 hs with hs | hs
  ·exact .inl ⟨s, hs, h⟩
  ·exact .inr ⟨s, hs, h⟩
 ·rintro (⟨s, hs, h⟩ | ⟨s, hs, h⟩)
  ·exact ⟨s, List.mem_append_left _ hs, h⟩
  ·exact ⟨s, List.mem_append_right _ hs, h⟩
def lookX (x : Ix) (f : Int) (p : List UInt8 → Bool) : List Pst := liveP x.dead (x.segs.foldl (fun o s => orP o (lookS s f p)) [])
theorem zfU (f : Int) (p : List UInt8 → Bool) : ∀ (l : List Sgm) (o : List Pst), rightP o = true → rightP (l.foldl (fun o s => orP o (lookS s f p)) o) = true ∧ ∀ d z, z ∈ atD (l.foldl (fun o s => orP o (lookS s f p)) o) d ↔ z ∈ atD o d ∨ ∃ k, okK f p k = true ∧ z ∈ pL l k d
 | [], o, h => ⟨h, fun d z => ⟨fun h => .inl h, fun h => by
   rcases h with h | ⟨k, _, h⟩
   ·exact h
   ·cases h⟩⟩
 | s :: l, o, h => by
  obtain ⟨r1, s1⟩ := zhB s f p
  obtain ⟨h1, h2⟩ := zfU f p l (orP o (lookS s f p)) (zdy h r1)
  refine ⟨h1, fun d z => ?_⟩
  rw [List.foldl_cons, h2 d z, zgQ h r1, zce (zdT h d).1 (zdT r1 d).1, s1]
  have hm : ∀ k, z ∈ pL (s :: l) k d ↔ z ∈ pS s k d ∨ z ∈ pL l k d := fun k => zce (zfV _ _ _) (zjj _ _ _) z
  constructor
  ·rintro ((h | ⟨k, hk, h⟩) | ⟨k, hk, h⟩)
   ·exact .inl h
   ·exact .inr ⟨k, hk, (hm k).2 (.inl h)⟩
   ·exact .inr ⟨k, hk, (hm k).2 (.inr h)⟩
  ·rintro (h | ⟨k, hk, h⟩)
   ·exact .inl (.inl h)
   ·rcases (hm k).1 h with h | h
    ·exact .inl (.inr ⟨k, hk, h⟩)
    ·exact .inr ⟨k, hk, h⟩
theorem zbl (x : Ix) (f : Int) (p : List UInt8 → Bool) : rightP (lookX x f p) = true ∧ ∀ d z, z ∈ atD (lookX x f p) d ↔ ∃ k, okK f p k = true ∧ z ∈ pX x k d := by
 obtain ⟨h1, h2⟩ := zfU f p x.segs [] rfl
 refine ⟨zel _ h1, fun d z => ?_⟩
 unfold lookX pX
 rw [zha]
 by_cases hd : d ∈ x.dead
 ·rw [if_pos hd]
  exact ⟨(fun h => by cases h), (fun ⟨k, _, h⟩ => by rw [if_pos hd] at h; cases h)⟩
 ·rw [if_neg hd, h2]
  constructor
  ·rintro (h | ⟨k, hk, h⟩)
   ·cases h
   ·exact ⟨k, hk, by rw [if_neg hd]; exact h⟩
  ·rintro ⟨k, hk, h⟩
   rw [if_neg hd] at h
   exact .inr ⟨k, hk, h⟩
def klE (es : List Ent) : List (Ky × List Int) := (sortD ltK (es.flatMap fun e => (wordsOf e.text).map fun w => (e.field, w))).map fun k => (k, (sortI (es.map (·.doc))).filter fun d => !(placesE es k d).isEmpty)
def buildE (es : List Ent) : Sgm := ⟨(klE es).map (tmOf (placesE es)), sortL (sortI (es.map (·.doc)))⟩
theorem zcp {l : List Int} (h : AscB ltI l) : l.Nodup := by
 unfold AscB at h
 exact h.imp fun h => by have := of_decide_eq_true h; omega
theorem zim {es : List Ent} (hk : Kept es) (htx : ∀ e ∈ es, e.text.length ≤ 1000000000) : Built (buildE es) es := by
 have hasc : AscB ltK (sortD ltK (es.flatMap fun e => (wordsOf e.text).map fun w => (e.field, w))) := zbB stoK _
 have hkeys : (klE es).map (·.1) = sortD ltK (es.flatMap fun e => (wordsOf e.text).map fun w => (e.field, w)) := by
  unfold klE; rw [List.map_map]; exact List.map_id _
 have hmem : ∀ k d, placesE es k d ≠ [] → k ∈ sortD ltK (es.flatMap fun e => (wordsOf e.text).map fun w => (e.field, w)) ∧ d ∈ sortI (es.map (·.doc)) := fun k d h => by
  obtain ⟨e, he, h1, h2, _, h4⟩ := zbk hk k d h
  exact ⟨(zaZ stoK _ _).2 (List.mem_flatMap.2 ⟨e, he, List.mem_map.2 ⟨k.2, h4, by rw [h2]⟩⟩), (zaZ stoI _ _).2 (List.mem_map.2 ⟨e, he, h1⟩)⟩
 refine zkl hk htx (klE es) ?_ (fun k hkk d => ?_) (fun p hp => ?_) (List.Perm.refl _) ?_ (zcp (zbB stoI _)) (fun d => (zaZ stoI _ _).trans List.mem_map)
 ·rw [hkeys]
  unfold AscB at hasc
  exact hasc.imp fun h => zdx h
 ·rw [hkeys] at hkk
  by_cases hz : placesE es k d = []
  ·exact hz
  ·exact absurd (hmem k d hz).1 hkk
 ·unfold klE at hp
  obtain ⟨k, hk2, rfl⟩ := List.mem_map.1 hp
  dsimp only
  have hin : ∀ d, d ∈ (sortI (es.map (·.doc))).filter (fun d => !(placesE es k d).isEmpty) ↔ placesE es k d ≠ [] := fun d => by
   rw [List.mem_filter]
   constructor
   ·rintro ⟨_, h⟩ e
    rw [e] at h; simp at h
   ·intro h
    exact ⟨(hmem k d h).2, by cases hq : placesE es k d with | nil => exact absurd hq h | cons => rfl⟩
  refine ⟨(zcp (zbB stoI _)).sublist List.filter_sublist, fun e => ?_, hin⟩
  obtain ⟨e2, he2, h2⟩ := List.mem_flatMap.1 ((zaZ stoK _ _).1 hk2)
  obtain ⟨w, hw, rfl⟩ := List.mem_map.1 h2
  have hne : placesE es (e2.field, w) e2.doc ≠ [] := by
   intro hz
   have h3 : partE (wordsOf e2.text) e2.doc e2.field (e2.field, w) e2.doc = [] := by
    unfold placesE at hz
    exact List.flatMap_eq_nil_iff.1 hz e2 he2
   unfold partE at h3
   rw [if_pos ⟨rfl, rfl⟩] at h3
   dsimp only at h3
   have : ∀ (i : Nat) (l : List (List UInt8)), w ∈ l → posF w i l ≠ [] := by
    intro i l
    induction l generalizing i with
    | nil => intro h; cases h
    | cons y l ih =>
     intro h
     unfold posF
     split
     ·intro h2; cases h2
     ·rcases List.mem_cons.1 h with h | h
      ·rename_i hne; exact absurd h.symm hne
      ·exact ih (i + 1) h
   exact this 0 _ hw h3
  have := (hin e2.doc).2 hne
  rw [e] at this; cases this
 ·rw [List.pairwise_map]
  refine List.pairwise_map.1 (?_ : ((klE es).map (·.1)).Pairwise fun a b => ltK b a = false)
  rw [hkeys]
  unfold AscB at hasc
  refine hasc.imp fun {a b} h => ?_
  cases hq : ltK b a with
  | false => rfl
  | true => exact absurd rfl (zdx (stoK.tr _ _ _ h hq))
def memB (l : List Sgm) (d : Int) : Bool := l.any fun s => decide (d ∈ s.docs)
theorem zeu {l : List Sgm} {d : Int} : memB l d = true ↔ inX l d := by
 unfold memB inX
 rw [List.any_eq_true]
 exact ⟨fun ⟨s, h1, h2⟩ => ⟨s, h1, of_decide_eq_true h2⟩, fun ⟨s, h1, h2⟩ => ⟨s, h1, decide_eq_true h2⟩⟩
def fullL (l : List Sgm) : List Sgm := l.filter fun s => !s.docs.isEmpty
def cleanX (x : Ix) : Ix := ⟨fullL x.segs, x.dead.filter fun d => memB (fullL x.segs) d⟩
def replX (x : Ix) (i n : Nat) (s : Sgm) : Ix := cleanX ⟨x.segs.take i ++ s :: x.segs.drop (i + n), x.dead⟩
theorem zez (l : List Sgm) (d : Int) : inX (fullL l) d ↔ inX l d := by
 unfold inX fullL
 constructor
 ·rintro ⟨s, hs, h⟩
  exact ⟨s, (List.mem_filter.1 hs).1, h⟩
 ·rintro ⟨s, hs, h⟩
  exact ⟨s, List.mem_filter.2 ⟨hs, by cases hq : s.docs with | nil => rw [hq] at h; cases h | cons => rfl⟩, h⟩
theorem zqH {l : List Sgm} (hr : ∀ s ∈ l, rightS s = true) (k : Ky) (d : Int) : pL (fullL l) k d = pL l k d := by
 induction l with
 | nil => rfl
 | cons s l ih =>
  have ih := ih fun t ht => hr t (List.mem_cons_of_mem _ ht)
  unfold fullL at ih ⊢
  rw [List.filter_cons]
  split
  ·show unI _ _ = unI _ _
   rw [ih]
  ·rename_i h
   show _ = unI _ _
   have : pS s k d = [] := zgT (hr s List.mem_cons_self) fun hd => h (by cases hq : s.docs with | nil => rw [hq] at hd; cases hd | cons => rfl)
   rw [this, zdm, ih]
theorem zgz (s : Sgm) (l : List Sgm) (d : Int) : inX (s :: l) d ↔ d ∈ s.docs ∨ inX l d := by
 unfold inX
 constructor
 ·rintro ⟨t, ht, h⟩
  rcases List.mem_cons.1 ht with rfl | ht
  ·exact .inl h
  ·exact .inr ⟨t, ht, h⟩
 ·rintro (h | ⟨t, ht, h⟩)
  ·exact ⟨s, List.mem_cons_self, h⟩
  ·exact ⟨t, List.mem_cons_of_mem _ ht, h⟩
theorem zmS {x : Ix} (hx : IxOk x) {pre mid post : List Sgm} (hs : x.segs = pre ++ (mid ++ post)) {s : Sgm} (hr : rightS s = true) {dl : List Int} (hdl : ∀ d ∈ dl, d ∈ x.dead)
  (hd : ∀ d, d ∈ s.docs ↔ inX mid d ∧ d ∉ dl) (hp : ∀ k d, pS s k d = if d ∈ dl then [] else pL mid k d) :
  IxOk (cleanX ⟨pre ++ s :: post, x.dead⟩) ∧ (∀ d, liveX (cleanX ⟨pre ++ s :: post, x.dead⟩) d ↔ liveX x d) ∧ ∀ k d, pX (cleanX ⟨pre ++ s :: post, x.dead⟩) k d = pX x k d := by
 have hrt : ∀ t ∈ pre ++ s :: post, rightS t = true := fun t ht => by
  rcases List.mem_append.1 ht with ht | ht
  ·exact hx.rt t (by rw [hs]; exact List.mem_append_left _ ht)
  ·rcases List.mem_cons.1 ht with rfl | ht
   ·exact hr
   ·exact hx.rt t (by rw [hs]; exact List.mem_append_right _ (List.mem_append_right _ ht))
 have hin : ∀ d, inX (pre ++ s :: post) d ↔ inX pre d ∨ (inX mid d ∧ d ∉ dl) ∨ inX post d := fun d => by
  rw [zft, zgz, hd]
 have hin0 : ∀ d, inX x.segs d ↔ inX pre d ∨ inX mid d ∨ inX post d := fun d => by rw [hs, zft, zft]
 have hdj := hx.dj
 rw [hs] at hdj
 obtain ⟨d1, d2, d3⟩ := List.pairwise_append.1 hdj
 obtain ⟨d4, d5, d6⟩ := List.pairwise_append.1 d2
 have hpl : ∀ k d, d ∉ dl → pL (pre ++ s :: post) k d = pL x.segs k d := fun k d hdd => by
  rw [hs, zjC, zjC, zjC]
  show unI _ (unI (pS s k d) _) = _
  rw [hp, if_neg hdd]
 refine ⟨⟨fun t ht => hrt t (List.mem_filter.1 ht).1, fun t ht => ?_, ?_, ?_, fun d hd2 => ?_⟩, fun d => ?_, fun k d => ?_⟩
 ·have h := (List.mem_filter.1 ht).2
  intro e
  rw [e] at h; cases h
 ·refine List.Pairwise.sublist List.filter_sublist (List.pairwise_append.2 ⟨d1, List.pairwise_cons.2 ⟨fun t ht d h1 => ?_, d5⟩, fun a ha b hb d h1 => ?_⟩)
  ·obtain ⟨⟨u, hu, h2⟩, _⟩ := (hd d).1 h1
   exact d6 u hu t ht d h2
  ·rcases List.mem_cons.1 hb with rfl | hb
   ·intro h2
    obtain ⟨⟨u, hu, h3⟩, _⟩ := (hd d).1 h2
    exact d3 a ha u (List.mem_append_left _ hu) d h1 h3
   ·exact d3 a ha b (List.mem_append_right _ hb) d h1
 ·have := hx.da
  unfold AscB at this ⊢
  exact this.sublist List.filter_sublist
 ·exact zeu.1 (List.mem_filter.1 hd2).2
 ·unfold liveX cleanX
  dsimp only
  rw [zez, List.mem_filter, zeu, zez, hin, hin0]
  constructor
  ·rintro ⟨h1, h2⟩
   have hnd : d ∉ x.dead := fun h => h2 ⟨h, h1⟩
   rcases h1 with h1 | h1 | h1
   ·exact ⟨.inl h1, hnd⟩
   ·exact ⟨.inr (.inl h1.1), hnd⟩
   ·exact ⟨.inr (.inr h1), hnd⟩
  ·rintro ⟨h1, h2⟩
   have hndl : d ∉ dl := fun h => h2 (hdl d h)
   refine ⟨?_, fun h => h2 h.1⟩
   rcases h1 with h1 | h1 | h1
   ·exact .inl h1
   ·exact .inr (.inl ⟨h1, hndl⟩)
   ·exact .inr (.inr h1)
 ·unfold pX cleanX
  dsimp only
  rw [zqH hrt]
  by_cases hdd : d ∈ x.dead
  ·rw [if_pos hdd]
   split
   ·rfl
   ·rename_i h
    refine zjr hrt fun hi => h (List.mem_filter.2 ⟨hdd, zeu.2 ((zez _ _).2 hi)⟩)
  ·rw [if_neg hdd, if_neg fun h => hdd (List.mem_filter.1 h).1]
   exact hpl k d fun h => hdd (hdl d h)
end Go.Proofs.YtennokckmjcefaaGreatDoor
