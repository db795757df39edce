/- Helper lemmas; no conditions of their own. -/
import Derived.Test.YtennokckmjcefaaGreatDoorGMapR
set_option linter.unusedVariables false
namespace Go.Proofs.YtennokckmjcefaaGreatDoor
open Go.Shelf Go.RowKit Go.Pw Go.Vc Go.Cs Go.Lib Go.Cd Go.Mg
abbrev sortL (l : List Int) : List Int := l.mergeSort fun x y => decide (x ≤ y)
theorem zrk (l : List Int) : (sortL l).Pairwise (· ≤ ·) := by
 refine (ybL (le := fun x y : Int => decide (x ≤ y)) (fun a b c h1 h2 => ?_) (fun a b => ?_) l).imp fun h => of_decide_eq_true h
 ·have := of_decide_eq_true h1; have := of_decide_eq_true h2; exact decide_eq_true OM
 rcases Int.le_total a b with h | h <;> simp [h]
theorem zlI {l : List Int} (h : l.Nodup) : (sortL l).Pairwise (· < ·) := by
 have h1 := zrk l
 have h2 : (sortL l).Nodup := (List.mergeSort_perm l _).nodup_iff.2 h
 exact (h1.and h2).imp fun h => by have := h.1; have := h.2; omega
theorem zbX {l : List Int} {x : Int} : x ∈ sortL l ↔ x ∈ l := List.mem_mergeSort
def postG (g : Ky → Int → List Int) (p : Ky × List Int) : List Pst := (sortL p.2).map fun d => ⟨d, g p.1 d⟩
def tmOf (g : Ky → Int → List Int) (p : Ky × List Int) : Trm := ⟨p.1.1, p.1.2, encP (postG g p)⟩
theorem atD_map (f : Int → List Int) (d : Int) : ∀ l : List Int, atD (l.map fun d => (⟨d, f d⟩ : Pst)) d = if d ∈ l then f d else []
 | [] => rfl
 | x :: l => by
  rw [yas, atD_cons, atD_map f d l]
  by_cases h : x = d
  ·subst h; simp
  have h2 : ¬ d = x := fun e => h e.symm
  simp [h, h2]
theorem zlX {es : List Ent} (hk : Kept es) (htx : ∀ e ∈ es, e.text.length ≤ 1000000000) (kl : List (Ky × List Int)) (hnd : (kl.map (·.1)).Nodup)
  (hno : ∀ k, k ∉ kl.map (·.1) → ∀ d, placesE es k d = []) (hin : ∀ p ∈ kl, p.2.Nodup ∧ p.2 ≠ [] ∧ ∀ d, d ∈ p.2 ↔ placesE es p.1 d ≠ [])
  {ts : List Trm} (hp : ts.Perm (kl.map (tmOf (placesE es)))) (hs : ts.Pairwise fun a b => ltK b.key a.key = false)
  {dl : List Int} (hdn : dl.Nodup) (hd : ∀ d, d ∈ dl ↔ ∃ e ∈ es, e.doc = d) : Built ⟨ts, sortL dl⟩ es := by
 have hcount : ∀ e ∈ es, 1 ≤ e.doc ∧ e.doc ≤ 1099511627776 ∧ 1 ≤ e.field ∧ e.field ≤ 5 := fun e he => by
  have := hk.ok e he
  unfold countsE at this
  simp only [yaq, decide_eq_true_eq] at this
  omega
 have hpl : ∀ k d, placesE es k d ≠ [] → (1 ≤ d ∧ d ≤ 1099511627776) ∧ (1 ≤ k.1 ∧ k.1 ≤ 5) ∧ wordsOf k.2 = [k.2] ∧ AscB ltI (placesE es k d) ∧ (∀ n ∈ placesE es k d, 0 ≤ n ∧ n ≤ 1099511627776) ∧ d ∈ sortL dl := fun k d hne => by
  obtain ⟨e, he, h1, h2, h3, h4⟩ := zbw hk k d hne
  have hc := hcount e he
  have hw : (wordsOf e.text).length ≤ 2 * e.text.length + 1 := by unfold wordsOf; rw [List.length_map]; exact zds _
  have ht := htx e he
  refine ⟨OM, OM, ?_, h3 ▸ zhW _ _ _, fun n hn => ?_, zbX.2 ((hd d).2 ⟨e, he, h1⟩)⟩
  ·obtain ⟨x, hx, e1⟩ := yay.1 h4
   have := zmg (zfx _ x hx)
   rw [e1] at this
   unfold wordsOf; rw [this]; rfl
  rw [h3] at hn
  have := zhR _ _ _ n hn; omega
 have hP : ∀ p ∈ kl, zan (postG (placesE es) p) = true := fun p hp => by
  obtain ⟨i1, i2, i3⟩ := hin p hp
  refine zaw.2 ⟨?_, fun x hx => ?_⟩
  ·unfold postG AscP
   rw [ybA]
   exact zlI i1
  obtain ⟨d, hd2, rfl⟩ := yay.1 hx
  have hne := (i3 d).1 (zbX.1 hd2)
  obtain ⟨j1, j2, j3, j4, j5, j6⟩ := hpl _ _ hne
  exact ⟨j1.1, j1.2, hne, j4, j5⟩
 have hPne : ∀ p ∈ kl, postG (placesE es) p ≠ [] := fun p hp e => by
  obtain ⟨i1, i2, i3⟩ := hin p hp
  have : sortL p.2 = [] := List.map_eq_nil_iff.1 e
  obtain ⟨d, hd⟩ := ybF _ i2
  have h := zbX.2 hd
  rw [this] at h; cases h
 have hkey : (ts.map Trm.key).Perm (kl.map (·.1)) := by
  have := hp.map Trm.key
  rw [ybe] at this
  exact this
 have hasc : AscK ts := by
  have h2 : (ts.map Trm.key).Nodup := hkey.nodup_iff.2 hnd
  have h2 : ts.Pairwise fun a b => a.key ≠ b.key := ybA.1 h2
  refine (hs.and h2).imp fun {a b} h => ?_
  cases hq : ltK a.key b.key with
  | true => rfl
  | false => exact absurd (stoK.tri _ _ hq h.1) h.2
 have hmem : ∀ t, t ∈ ts ↔ ∃ p ∈ kl, tmOf (placesE es) p = t := fun t => by rw [hp.mem_iff, yay]
 have hposts : ∀ k d, atD (postsT ts k) d = placesE es k d := fun k d => by
  by_cases hkk : k ∈ kl.map (·.1)
  ·obtain ⟨p, hp, rfl⟩ := yay.1 hkk
   have hm := (hmem _).2 ⟨p, hp, rfl⟩
   have e1 := posts_mem ts hasc _ hm
   rw [show (tmOf (placesE es) p).key = p.1 from rfl] at e1
   rw [e1, show plT (tmOf (placesE es) p) = postG (placesE es) p from zlW (hP p hp)]
   unfold postG
   rw [atD_map (fun d => placesE es p.1 d) d]
   split
   ·rfl
   rename_i h
   by_cases hz : placesE es p.1 d = []
   ·exact hz.symm
   exact absurd (zbX.2 (((hin p hp).2.2 d).2 hz)) h
  rw [hno k hkk d]
  by_cases hz : postsT ts k = []
  ·rw [hz]; rfl
  obtain ⟨t, ht, e, _⟩ := zeY hz
  obtain ⟨p, hp, rfl⟩ := (hmem t).1 ht
  exact absurd (yay.2 ⟨p, hp, e⟩) hkk
 refine ⟨zah.2 ⟨⟨?_, fun n hn => ?_⟩, fun t ht => ?_, hasc⟩, fun d => zbX.trans (hd d), hposts⟩
 ·exact (zlI hdn).imp fun h => decide_eq_true h
 ·obtain ⟨e, he, rfl⟩ := (hd n).1 (zbX.1 hn)
  have := hcount e he; omega
 obtain ⟨p, hp, rfl⟩ := (hmem t).1 ht
 obtain ⟨i1, i2, i3⟩ := hin p hp
 obtain ⟨d, hd2⟩ := ybF _ i2
 obtain ⟨j1, j2, j3, j4, j5, j6⟩ := hpl _ _ ((i3 d).1 hd2)
 unfold zax
 rw [yaq, yaq]
 refine ⟨⟨decide_eq_true j2, decide_eq_true j3⟩, ?_⟩
 unfold zbx
 rw [show decP (tmOf (placesE es) p).list = some (postG (placesE es) p) from zes (hP p hp)]
 dsimp only
 rw [yaq, yaF]
 refine ⟨by cases hl : postG (placesE es) p with | nil => exact absurd hl (hPne p hp) | cons => rfl, fun x hx => decide_eq_true ?_⟩
 obtain ⟨d', hd', rfl⟩ := yay.1 hx
 exact (hpl _ _ ((i3 d').1 (zbX.1 hd'))).2.2.2.2.2
def dS (s : Sgm) (d : Int) : Prop := d ∈ (validS s).docs
def pS (s : Sgm) (k : Ky) (d : Int) : List Int := atD (postsT (validS s).terms k) d
theorem zgH (s : Sgm) (k : Ky) (d : Int) : AscB ltI (pS s k d) := (zgg (zaH _ _) d).1
theorem zul (a b : Sgm) (dead : List Int) (d : Int) : dS (twoS a b dead) d ↔ (dS a d ∨ dS b d) ∧ d ∉ dead := by
 unfold dS; rw [zbF (zcJ a b dead)]; exact zhs a b dead d
theorem znw (a b : Sgm) (dead : List Int) (k : Ky) (d : Int) : pS (twoS a b dead) k d = if d ∈ dead then [] else unI (pS a k d) (pS b k d) := by
 unfold pS
 rw [zbF (zcJ a b dead), zpA, zif, zhP (zaH _ _) (zaH _ _)]
theorem ziv : rightS ⟨[], []⟩ = true := by rfl
theorem zrY (k : Ky) (d : Int) : pS ⟨[], []⟩ k d = [] := by unfold pS; rw [zbF ziv]; rfl
def okK (field : Int) (p : List UInt8 → Bool) (k : Ky) : Bool := (decide (field = 0) || decide (field = k.1)) && p k.2
theorem ziY : ∀ (l : List Trm) (o : List Pst), zan o = true → zan (l.foldl (fun o t => orP o (plT t)) o) = true ∧ ∀ d z, z ∈ atD (l.foldl (fun o t => orP o (plT t)) o) d ↔ z ∈ atD o d ∨ ∃ t ∈ l, z ∈ atD (plT t) d
 | [], o, h => ⟨h, fun d z => by simp⟩
 | t :: l, o, h => by
  obtain ⟨h1, h2⟩ := ziY l (orP o (plT t)) (zdV h (zcA t))
  refine ⟨h1, fun d z => ?_⟩
  rw [ybC, h2 d z, zhP h (zcA t), mem_unI (zgg h d).1 (zgg (zcA t) d).1]
  constructor
  ·rintro ((h | h) | ⟨x, hx, h⟩)
   ·exact .inl h
   ·exact .inr ⟨t, yae, h⟩
   exact .inr ⟨x, yai _ hx, h⟩
  rintro (h | ⟨x, hx, h⟩)
  ·exact .inl (.inl h)
  rcases yah.1 hx with rfl | hx
  ·exact .inl (.inr h)
  exact .inr ⟨x, hx, h⟩
theorem ziG (s : Sgm) (field : Int) (p : List UInt8 → Bool) : zan (lookS s field p) = true ∧ ∀ d z, z ∈ atD (lookS s field p) d ↔ ∃ k, okK field p k = true ∧ z ∈ pS s k d := by
 unfold lookS
 by_cases hr : rightS s = true
 ·rw [if_pos hr]
  have hasc := (zah.1 hr).2.2
  obtain ⟨h1, h2⟩ := ziY (s.terms.filter fun t => (decide (field = 0) || decide (field = t.field)) && p t.word) [] rfl
  refine ⟨h1, fun d z => (h2 d z).trans ?_⟩
  unfold pS
  rw [zbF hr]
  constructor
  ·rintro (h | ⟨t, ht, h⟩)
   ·cases h
   obtain ⟨ht, hc⟩ := yav.1 ht
   exact ⟨t.key, hc, by rw [posts_mem _ hasc t ht]; exact h⟩
  rintro ⟨k, hk, h⟩
  have hne : postsT s.terms k ≠ [] := fun e => by rw [e] at h; cases h
  obtain ⟨t, ht, rfl, e⟩ := zeY hne
  exact .inr ⟨t, yav.2 ⟨ht, hk⟩, by rw [e]; exact h⟩
 rw [if_neg hr]
 refine ⟨rfl, fun d z => ⟨fun h => ?_, fun h => ?_⟩⟩
 ·cases h
 obtain ⟨k, hk, h⟩ := h
 unfold pS validS at h
 rw [if_neg hr] at h; cases h
theorem zjF (a b : List Ent) (e : Ent) : hadE (a ++ b) e = (hadE a e || hadE b e) := by unfold hadE; rw [List.any_append]
theorem zcU (a b : List Ent) (k : Ky) (d : Int) : placesE (a ++ b) k d = placesE a k d ++ placesE b k d := by unfold placesE; rw [List.flatMap_append]
theorem zbr {α : Type} [DecidableEq α] : ∀ (l m : List α), l.Nodup → (∀ x ∈ l, x ∈ m) → l.length ≤ m.length
 | [], m, _, _ => yal _
 | x :: l, m, h, hs => by
  obtain ⟨h1, h2⟩ := ybV.1 h
  have hx := hs x yae
  have ih := zbr l (m.erase x) h2 fun y hy => (List.mem_erase_of_ne (fun e : y = x => h1 (e ▸ hy))).2 (hs y (yai _ hy))
  rw [List.length_erase_of_mem hx] at ih
  have := List.length_pos_of_mem hx
  rw [yab]; omega
theorem zlh {α β : Type} (f : α → List β) (n : Nat) : ∀ l : List α, (∀ x ∈ l, (f x).length ≤ n) → (l.flatMap f).length ≤ l.length * n
 | [], _ => by simp
 | x :: l, h => by
  rw [yao, yaa, yab, ybp]
  have := h x yae
  have := zlh f n l fun y hy => h y (yai _ hy)
  omega
theorem znM (m : Nat) : ∀ l : List Pst, (∀ p ∈ l, p.places.length ≤ m) → cntP l ≤ l.length * (m + 2)
 | [], _ => by simp [cntP, encN]
 | p :: l, h => by
  rw [cnt_cons, yab, ybp]
  have := h p yae
  have := znM m l fun y hy => h y (yai _ hy)
  omega
theorem zbn (t : List UInt8) : (wordsOf t).length ≤ 2 * t.length + 1 := by unfold wordsOf; rw [List.length_map]; exact zds _
theorem zqi {s : Sgm} {es : List Ent} (h : Built s es) (hk : Kept es) {n m : Nat} (hn : es.length ≤ n) (hm : ∀ e ∈ es, 2 * e.text.length + 1 ≤ m) : Bd s n (n * m) (n * (m + 2)) := by
 obtain ⟨r1, r2, r3⟩ := zah.1 h.right
 have hdn : ∀ l : List Int, AscB ltI l → l.Nodup := fun l hl => by
  unfold AscB at hl
  exact hl.imp fun h => by have := of_decide_eq_true h; omega
 have hkn : (s.terms.map Trm.key).Nodup := ybA.2 (r3.imp fun h => zdU h)
 have hkey : ∀ t ∈ s.terms, ∃ e ∈ es, e.field = t.key.1 ∧ t.key.2 ∈ wordsOf e.text := fun t ht => by
  have hp := posts_mem s.terms r3 t ht
  obtain ⟨ne, _⟩ := zdf (r2 t ht)
  obtain ⟨p, hp2⟩ := ybF _ ne
  have hr := zcA t
  have h1 := zcX (zbg hr) hp2
  have h2 := (zaw.1 hr).2 p hp2
  have h3 : placesE es t.key p.doc ≠ [] := by rw [← h.posts, hp, h1]; exact h2.2.2.1
  obtain ⟨e, he, _, e2, _, e4⟩ := zbw hk _ _ h3
  exact ⟨e, he, e2, e4⟩
 refine ⟨?_, ?_, fun z hz => ?_⟩
 ·have := zbr s.docs (es.map (·.doc)) (hdn _ r1.1) fun d hd => by
   obtain ⟨e, he, hd⟩ := (h.docs d).1 hd
   exact yay.2 ⟨e, he, hd⟩
  rw [yaf] at this; omega
 ·have h1 := zbr (s.terms.map Trm.key) (es.flatMap fun e => (wordsOf e.text).map fun w => (e.field, w)) hkn fun k hk2 => by
   obtain ⟨t, ht, rfl⟩ := yay.1 hk2
   obtain ⟨e, he, e2, e4⟩ := hkey t ht
   exact ybl.2 ⟨e, he, yay.2 ⟨_, e4, by rw [e2]⟩⟩
  have h2 := zlh (fun e : Ent => (wordsOf e.text).map fun w => (e.field, w)) m es fun e he => by
   rw [yaf]; exact yaw (zbn _) (hm e he)
  rw [yaf] at h1
  exact yaw h1 (yaw h2 (yaV _ hn))
 have hr := zcA z
 have hp := posts_mem s.terms r3 z hz
 have hc : cntP (plT z) ≤ n * (m + 2) := by
  have h1 := znM m (plT z) fun p hp2 => by
   have h1 := zcX (zbg hr) hp2
   have h2 := (zaw.1 hr).2 p hp2
   have h3 : placesE es z.key p.doc = p.places := by rw [← h.posts, hp, h1]
   obtain ⟨e, he, _, _, e3, _⟩ := zbw hk _ _ (by rw [h3]; exact h2.2.2.1)
   rw [← h3, e3]
   exact yaw (zhD _ _ _) (yaw (zbn _) (hm e he))
  have h4 : (plT z).length ≤ n := by
   have h2 := zbr ((plT z).map (·.doc)) (es.map (·.doc)) (hdn _ (zeh.1 (zbg hr))) fun d hd => by
    obtain ⟨p, hp2, rfl⟩ := yay.1 hd
    have h1 := zcX (zbg hr) hp2
    have h2 := (zaw.1 hr).2 p hp2
    have h3 : placesE es z.key p.doc = p.places := by rw [← h.posts, hp, h1]
    obtain ⟨e, he, e1, _⟩ := zbw hk _ _ (by rw [h3]; exact h2.2.2.1)
    exact yay.2 ⟨e, he, e1⟩
   rw [yaf, yaf] at h2; omega
  exact yaw h1 (yaV _ h4)
 obtain ⟨e, he, e2, e4⟩ := hkey z hz
 refine ⟨?_, ?_, hc⟩
 ·obtain ⟨x, hx, e1⟩ := yay.1 e4
  have := zkn (zfx _ x hx)
  rw [e1] at this
  have : z.word.length ≤ 40 := this
  omega
 rw [(zdf (r2 z hz)).2]
 have := zcT (plT z)
 unfold cntP at hc
 omega
theorem zdG {l : List Int} {i : Nat} (h : pickL l = some i) : i + 1 < l.length := by
 have := zju l _ i h; omega
structure Ix where
 segs : List Sgm
 dead : List Int
deriving DecidableEq, Inhabited
structure IxOk (x : Ix) : Prop where
 rt : ∀ s ∈ x.segs, rightS s = true
 ne : ∀ s ∈ x.segs, s.docs ≠ []
 dj : x.segs.Pairwise fun s t => ∀ d, d ∈ s.docs → d ∉ t.docs
 da : AscB ltI x.dead
 di : ∀ d ∈ x.dead, ∃ s ∈ x.segs, d ∈ s.docs
def inX (l : List Sgm) (d : Int) : Prop := ∃ s ∈ l, d ∈ s.docs
def liveX (x : Ix) (d : Int) : Prop := inX x.segs d ∧ d ∉ x.dead
def pL : List Sgm → Ky → Int → List Int
 | [], _, _ => []
 | s :: l, k, d => unI (pS s k d) (pL l k d)
def pX (x : Ix) (k : Ky) (d : Int) : List Int := if d ∈ x.dead then [] else pL x.segs k d
theorem zkx (l : List Sgm) (k : Ky) (d : Int) : AscB ltI (pL l k d) := by
 induction l with
 | nil => exact .nil
 | cons s l ih => exact zdB (zgH s k d) ih
theorem zhX {s : Sgm} (h : rightS s = true) {k : Ky} {d : Int} (hd : d ∉ s.docs) : pS s k d = [] := by
 unfold pS
 rw [zbF h]
 by_cases hz : atD (postsT s.terms k) d = []
 ·exact hz
 exact absurd (zeJ (zah.1 h).2.1 hz) hd
theorem pL_out {l : List Sgm} (hr : ∀ s ∈ l, rightS s = true) {k : Ky} {d : Int} (hd : ¬ inX l d) : pL l k d = [] := by
 induction l with
 | nil => rfl
 | cons s l ih =>
  show unI _ _ = []
  rw [zhX (hr s yae) (fun h => hd ⟨s, yae, h⟩), ih (fun t ht => hr t (yai _ ht)) (fun ⟨t, ht, h⟩ => hd ⟨t, yai _ ht, h⟩)]
  rfl
theorem zkU (a b : List Sgm) (k : Ky) (d : Int) : pL (a ++ b) k d = unI (pL a k d) (pL b k d) := by
 induction a with
 | nil => show pL b k d = unI [] _; rw [zdE]
 | cons s a ih =>
  show unI _ (pL (a ++ b) k d) = unI (unI _ _) _
  rw [ih, zmX (zgH _ _ _) (zkx _ _ _) (zkx _ _ _)]
theorem inX_app (a b : List Sgm) (d : Int) : inX (a ++ b) d ↔ inX a d ∨ inX b d := by
 unfold inX
 constructor
 ·rintro ⟨s, hs, h⟩
  rcases yaj.1 hs with hs | hs
  ·exact .inl ⟨s, hs, h⟩
  exact .inr ⟨s, hs, h⟩
 rintro (⟨s, hs, h⟩ | ⟨s, hs, h⟩)
 ·exact ⟨s, yaX _ hs, h⟩
 exact ⟨s, ybE _ hs, h⟩
def lookX (x : Ix) (f : Int) (p : List UInt8 → Bool) : List Pst := liveP x.dead (x.segs.foldl (fun o s => orP o (lookS s f p)) [])
theorem zgG (f : Int) (p : List UInt8 → Bool) : ∀ (l : List Sgm) (o : List Pst), zan o = true → zan (l.foldl (fun o s => orP o (lookS s f p)) o) = true ∧ ∀ d z, z ∈ atD (l.foldl (fun o s => orP o (lookS s f p)) o) d ↔ z ∈ atD o d ∨ ∃ k, okK f p k = true ∧ z ∈ pL l k d
 | [], o, h => ⟨h, fun d z => ⟨fun h => .inl h, fun h => by
   rcases h with h | ⟨k, _, h⟩
   ·exact h
   cases h⟩⟩
 | s :: l, o, h => by
  obtain ⟨r1, s1⟩ := ziG s f p
  obtain ⟨h1, h2⟩ := zgG f p l (orP o (lookS s f p)) (zdV h r1)
  refine ⟨h1, fun d z => ?_⟩
  rw [ybC, h2 d z, zhP h r1, mem_unI (zgg h d).1 (zgg r1 d).1, s1]
  have hm : ∀ k, z ∈ pL (s :: l) k d ↔ z ∈ pS s k d ∨ z ∈ pL l k d := fun k => mem_unI (zgH _ _ _) (zkx _ _ _) z
  constructor
  ·rintro ((h | ⟨k, hk, h⟩) | ⟨k, hk, h⟩)
   ·exact .inl h
   ·exact .inr ⟨k, hk, (hm k).2 (.inl h)⟩
   exact .inr ⟨k, hk, (hm k).2 (.inr h)⟩
  rintro (h | ⟨k, hk, h⟩)
  ·exact .inl (.inl h)
  rcases (hm k).1 h with h | h
  ·exact .inl (.inr ⟨k, hk, h⟩)
  exact .inr ⟨k, hk, h⟩
theorem zby (x : Ix) (f : Int) (p : List UInt8 → Bool) : zan (lookX x f p) = true ∧ ∀ d z, z ∈ atD (lookX x f p) d ↔ ∃ k, okK f p k = true ∧ z ∈ pX x k d := by
 obtain ⟨h1, h2⟩ := zgG f p x.segs [] rfl
 refine ⟨right_live _ h1, fun d z => ?_⟩
 unfold lookX pX
 rw [zif]
 by_cases hd : d ∈ x.dead
 ·rw [if_pos hd]
  exact ⟨(fun h => by cases h), (fun ⟨k, _, h⟩ => by rw [if_pos hd] at h; cases h)⟩
 rw [if_neg hd, h2]
 constructor
 ·rintro (h | ⟨k, hk, h⟩)
  ·cases h
  exact ⟨k, hk, by rw [if_neg hd]; exact h⟩
 rintro ⟨k, hk, h⟩
 rw [if_neg hd] at h
 exact .inr ⟨k, hk, h⟩
def klE (es : List Ent) : List (Ky × List Int) := (sortD ltK (es.flatMap fun e => (wordsOf e.text).map fun w => (e.field, w))).map fun k => (k, (sortI (es.map (·.doc))).filter fun d => !(placesE es k d).isEmpty)
def zcq (es : List Ent) : Sgm := ⟨(klE es).map (tmOf (placesE es)), sortL (sortI (es.map (·.doc)))⟩
theorem zdj {l : List Int} (h : AscB ltI l) : l.Nodup := by
 unfold AscB at h
 exact h.imp fun h => by have := of_decide_eq_true h; omega
theorem built_E {es : List Ent} (hk : Kept es) (htx : ∀ e ∈ es, e.text.length ≤ 1000000000) : Built (zcq es) es := by
 have hasc : AscB ltK (sortD ltK (es.flatMap fun e => (wordsOf e.text).map fun w => (e.field, w))) := asc_sortD stoK _
 have hkeys : (klE es).map (·.1) = sortD ltK (es.flatMap fun e => (wordsOf e.text).map fun w => (e.field, w)) := by
  unfold klE; rw [List.map_map]; exact List.map_id _
 have hmem : ∀ k d, placesE es k d ≠ [] → k ∈ sortD ltK (es.flatMap fun e => (wordsOf e.text).map fun w => (e.field, w)) ∧ d ∈ sortI (es.map (·.doc)) := fun k d h => by
  obtain ⟨e, he, h1, h2, _, h4⟩ := zbw hk k d h
  exact ⟨(zbd stoK _ _).2 (ybl.2 ⟨e, he, yay.2 ⟨k.2, h4, by rw [h2]⟩⟩), (zbd stoI _ _).2 (yay.2 ⟨e, he, h1⟩)⟩
 refine zlX hk htx (klE es) ?_ (fun k hkk d => ?_) (fun p hp => ?_) (List.Perm.refl _) ?_ (zdj (asc_sortD stoI _)) (fun d => (zbd stoI _ _).trans yay)
 ·rw [hkeys]
  unfold AscB at hasc
  exact hasc.imp fun h => zdU h
 ·rw [hkeys] at hkk
  by_cases hz : placesE es k d = []
  ·exact hz
  exact absurd (hmem k d hz).1 hkk
 ·unfold klE at hp
  obtain ⟨k, hk2, rfl⟩ := yay.1 hp
  dsimp only
  have hin : ∀ d, d ∈ (sortI (es.map (·.doc))).filter (fun d => !(placesE es k d).isEmpty) ↔ placesE es k d ≠ [] := fun d => by
   rw [yav]
   constructor
   ·rintro ⟨_, h⟩ e
    rw [e] at h; simp at h
   intro h
   exact ⟨(hmem k d h).2, by cases hq : placesE es k d with | nil => exact absurd hq h | cons => rfl⟩
  refine ⟨(zdj (asc_sortD stoI _)).sublist ybs, fun e => ?_, hin⟩
  obtain ⟨e2, he2, h2⟩ := ybl.1 ((zbd stoK _ _).1 hk2)
  obtain ⟨w, hw, rfl⟩ := yay.1 h2
  have hne : placesE es (e2.field, w) e2.doc ≠ [] := by
   intro hz
   have h3 : partE (wordsOf e2.text) e2.doc e2.field (e2.field, w) e2.doc = [] := by
    unfold placesE at hz
    exact List.flatMap_eq_nil_iff.1 hz e2 he2
   unfold partE at h3
   rw [if_pos ⟨rfl, rfl⟩] at h3
   dsimp only at h3
   have : ∀ (i : Nat) (l : List (List UInt8)), w ∈ l → posF w i l ≠ [] := by
    intro i l
    induction l generalizing i with
    | nil => intro h; cases h
    | cons y l ih =>
     intro h
     unfold posF
     split
     ·intro h2; cases h2
     rcases yah.1 h with h | h
     ·rename_i hne; exact absurd h.symm hne
     exact ih (i + 1) h
   exact this 0 _ hw h3
  have := (hin e2.doc).2 hne
  rw [e] at this; cases this
 rw [ybA]
 refine ybA.1 (?_ : ((klE es).map (·.1)).Pairwise fun a b => ltK b a = false)
 rw [hkeys]
 unfold AscB at hasc
 refine hasc.imp fun {a b} h => ?_
 cases hq : ltK b a with
 | false => rfl
 | true => exact absurd rfl (zdU (stoK.tr _ _ _ h hq))
def memB (l : List Sgm) (d : Int) : Bool := l.any fun s => decide (d ∈ s.docs)
theorem memB_iff {l : List Sgm} {d : Int} : memB l d = true ↔ inX l d := by
 unfold memB inX
 rw [List.any_eq_true]
 exact ⟨fun ⟨s, h1, h2⟩ => ⟨s, h1, of_decide_eq_true h2⟩, fun ⟨s, h1, h2⟩ => ⟨s, h1, decide_eq_true h2⟩⟩
def fullL (l : List Sgm) : List Sgm := l.filter fun s => !s.docs.isEmpty
def cleanX (x : Ix) : Ix := ⟨fullL x.segs, x.dead.filter fun d => memB (fullL x.segs) d⟩
def replX (x : Ix) (i n : Nat) (s : Sgm) : Ix := cleanX ⟨x.segs.take i ++ s :: x.segs.drop (i + n), x.dead⟩
theorem inX_full (l : List Sgm) (d : Int) : inX (fullL l) d ↔ inX l d := by
 unfold inX fullL
 constructor
 ·rintro ⟨s, hs, h⟩
  exact ⟨s, (yav.1 hs).1, h⟩
 rintro ⟨s, hs, h⟩
 exact ⟨s, yav.2 ⟨hs, by cases hq : s.docs with | nil => rw [hq] at h; cases h | cons => rfl⟩, h⟩
theorem zto {l : List Sgm} (hr : ∀ s ∈ l, rightS s = true) (k : Ky) (d : Int) : pL (fullL l) k d = pL l k d := by
 induction l with
 | nil => rfl
 | cons s l ih =>
  have ih := ih fun t ht => hr t (yai _ ht)
  unfold fullL at ih ⊢
  rw [ybq]
  split
  ·show unI _ _ = unI _ _
   rw [ih]
  rename_i h
  show _ = unI _ _
  have : pS s k d = [] := zhX (hr s yae) fun hd => h (by cases hq : s.docs with | nil => rw [hq] at hd; cases hd | cons => rfl)
  rw [this, zdE, ih]
theorem inX_cons (s : Sgm) (l : List Sgm) (d : Int) : inX (s :: l) d ↔ d ∈ s.docs ∨ inX l d := by
 unfold inX
 constructor
 ·rintro ⟨t, ht, h⟩
  rcases yah.1 ht with rfl | ht
  ·exact .inl h
  exact .inr ⟨t, ht, h⟩
 rintro (h | ⟨t, ht, h⟩)
 ·exact ⟨s, yae, h⟩
 exact ⟨t, yai _ ht, h⟩
theorem zoP {x : Ix} (hx : IxOk x) {pre mid post : List Sgm} (hs : x.segs = pre ++ (mid ++ post)) {s : Sgm} (hr : rightS s = true) {dl : List Int} (hdl : ∀ d ∈ dl, d ∈ x.dead)
  (hd : ∀ d, d ∈ s.docs ↔ inX mid d ∧ d ∉ dl) (hp : ∀ k d, pS s k d = if d ∈ dl then [] else pL mid k d) :
  IxOk (cleanX ⟨pre ++ s :: post, x.dead⟩) ∧ (∀ d, liveX (cleanX ⟨pre ++ s :: post, x.dead⟩) d ↔ liveX x d) ∧ ∀ k d, pX (cleanX ⟨pre ++ s :: post, x.dead⟩) k d = pX x k d := by
 have hrt : ∀ t ∈ pre ++ s :: post, rightS t = true := fun t ht => by
  rcases yaj.1 ht with ht | ht
  ·exact hx.rt t (by rw [hs]; exact yaX _ ht)
  rcases yah.1 ht with rfl | ht
  ·exact hr
  exact hx.rt t (by rw [hs]; exact ybE _ (ybE _ ht))
 have hin : ∀ d, inX (pre ++ s :: post) d ↔ inX pre d ∨ (inX mid d ∧ d ∉ dl) ∨ inX post d := fun d => by
  rw [inX_app, inX_cons, hd]
 have hin0 : ∀ d, inX x.segs d ↔ inX pre d ∨ inX mid d ∨ inX post d := fun d => by rw [hs, inX_app, inX_app]
 have hdj := hx.dj
 rw [hs] at hdj
 obtain ⟨d1, d2, d3⟩ := yaG.1 hdj
 obtain ⟨d4, d5, d6⟩ := yaG.1 d2
 have hpl : ∀ k d, d ∉ dl → pL (pre ++ s :: post) k d = pL x.segs k d := fun k d hdd => by
  rw [hs, zkU, zkU, zkU]
  show unI _ (unI (pS s k d) _) = _
  rw [hp, if_neg hdd]
 refine ⟨⟨fun t ht => hrt t (yav.1 ht).1, fun t ht => ?_, ?_, ?_, fun d hd2 => ?_⟩, fun d => ?_, fun k d => ?_⟩
 ·have h := (yav.1 ht).2
  intro e
  rw [e] at h; cases h
 ·refine List.Pairwise.sublist ybs (yaG.2 ⟨d1, yam.2 ⟨fun t ht d h1 => ?_, d5⟩, fun a ha b hb d h1 => ?_⟩)
  ·obtain ⟨⟨u, hu, h2⟩, _⟩ := (hd d).1 h1
   exact d6 u hu t ht d h2
  rcases yah.1 hb with rfl | hb
  ·intro h2
   obtain ⟨⟨u, hu, h3⟩, _⟩ := (hd d).1 h2
   exact d3 a ha u (yaX _ hu) d h1 h3
  exact d3 a ha b (ybE _ hb) d h1
 ·have := hx.da
  unfold AscB at this ⊢
  exact this.sublist ybs
 ·exact memB_iff.1 (yav.1 hd2).2
 ·unfold liveX cleanX
  dsimp only
  rw [inX_full, yav, memB_iff, inX_full, hin, hin0]
  constructor
  ·rintro ⟨h1, h2⟩
   have hnd : d ∉ x.dead := fun h => h2 ⟨h, h1⟩
   rcases h1 with h1 | h1 | h1
   ·exact ⟨.inl h1, hnd⟩
   ·exact ⟨.inr (.inl h1.1), hnd⟩
   exact ⟨.inr (.inr h1), hnd⟩
  rintro ⟨h1, h2⟩
  have hndl : d ∉ dl := fun h => h2 (hdl d h)
  refine ⟨?_, fun h => h2 h.1⟩
  rcases h1 with h1 | h1 | h1
  ·exact .inl h1
  ·exact .inr (.inl ⟨h1, hndl⟩)
  exact .inr (.inr h1)
 unfold pX cleanX
 dsimp only
 rw [zto hrt]
 by_cases hdd : d ∈ x.dead
 ·rw [if_pos hdd]
  split
  ·rfl
  rename_i h
  refine pL_out hrt fun hi => h (yav.2 ⟨hdd, memB_iff.2 ((inX_full _ _).2 hi)⟩)
 rw [if_neg hdd, if_neg fun h => hdd (yav.1 h).1]
 exact hpl k d fun h => hdd (hdl d h)
def entsX (doc : Int) (tx : List (List UInt8)) : List Ent := [⟨doc, 1, tx.getD 1 []⟩, ⟨doc, 2, tx.getD 2 []⟩, ⟨doc, 3, tx.getD 3 []⟩, ⟨doc, 4, tx.getD 4 []⟩, ⟨doc, 5, tx.getD 5 []⟩]
def findX (l : List Sgm) (d : Int) : Option Nat := l.findIdx? fun s => decide (d ∈ s.docs)
def zco (x : Ix) (d : Int) : Bool := memB x.segs d && !decide (d ∈ x.dead)
theorem zbO {x : Ix} {d : Int} : zco x d = true ↔ liveX x d := by
 unfold zco liveX
 rw [yaq, memB_iff]
 simp
def readX (x : Ix) (doc : Int) : Ix := match findX x.segs doc with
 | some i => replX x i 1 (twoS (x.segs.getD i ⟨[], []⟩) ⟨[], []⟩ [doc])
 | none => x
def addX (x : Ix) (doc : Int) (tx : List (List UInt8)) : Int × Ix :=
 if doc < 1 ∨ 1099511627776 < doc then (1, x)
 else if zco x doc = true then (4, x)
 else (0, ⟨(readX x doc).segs ++ [zcq (entsX doc tx)], (readX x doc).dead⟩)
def dropX (x : Ix) (doc : Int) : Bool × Ix := if zco x doc = true then (true, ⟨x.segs, withL x.dead doc⟩) else (false, x)
def buriedX (x : Ix) (s : Sgm) : Nat := (x.dead.filter fun d => decide (d ∈ s.docs)).length
def dueX (x : Ix) (s : Sgm) : Bool := decide (s.docs.length ≤ 2 * buriedX x s)
def stepX (x : Ix) : Bool × Ix := match pickL (x.segs.map fun s => (s.docs.length : Int)) with
 | some i => (true, replX x i 2 (twoS (x.segs.getD i ⟨[], []⟩) (x.segs.getD (i + 1) ⟨[], []⟩) x.dead))
 | none => match x.segs.findIdx? (dueX x) with
  | some i => (true, replX x i 1 (twoS (x.segs.getD i ⟨[], []⟩) ⟨[], []⟩ x.dead))
  | none => (false, x)
theorem seg_at {l : List Sgm} {i : Nat} (h : i < l.length) : l.getD i ⟨[], []⟩ = l[i] := by simp [List.getD, List.getElem?_eq_getElem h]
theorem zrF {l : List Sgm} {i : Nat} (h : i < l.length) : l = l.take i ++ ([l[i]] ++ l.drop (i + 1)) := by
 conv => lhs; rw [← yaB i l, yat h]
 rfl
theorem zud {l : List Sgm} {i : Nat} (h : i + 1 < l.length) : l = l.take i ++ ([l[i], l[i + 1]] ++ l.drop (i + 2)) := by
 conv => lhs; rw [← yaB i l, yat OM, yat h]
 rfl
theorem zrI {x : Ix} (hx : IxOk x) {i : Nat} (hi : i < x.segs.length) {dl : List Int} (hdl : ∀ d ∈ dl, d ∈ x.dead) :
  IxOk (replX x i 1 (twoS (x.segs.getD i ⟨[], []⟩) ⟨[], []⟩ dl)) ∧ (∀ d, liveX (replX x i 1 (twoS (x.segs.getD i ⟨[], []⟩) ⟨[], []⟩ dl)) d ↔ liveX x d) ∧ ∀ k d, pX (replX x i 1 (twoS (x.segs.getD i ⟨[], []⟩) ⟨[], []⟩ dl)) k d = pX x k d := by
 rw [seg_at hi]
 unfold replX
 have hri := hx.rt _ (yak hi)
 refine zoP hx (mid := [x.segs[i]]) (zrF hi) (zcJ _ _ _) hdl (fun d => ?_) (fun k d => ?_)
 ·rw [zhs, zbF hri, zbF ziv]
  constructor
  ·rintro ⟨h | h, h2⟩
   ·exact ⟨⟨_, yac.2 rfl, h⟩, h2⟩
   cases h
  rintro ⟨⟨t, ht, h⟩, h2⟩
  rw [yac.1 ht] at h
  exact ⟨.inl h, h2⟩
 rw [znw, zrY, zcV]
 show _ = if d ∈ dl then [] else unI (pS x.segs[i] k d) []
 rw [zcV]
theorem zuj {x : Ix} (hx : IxOk x) {i : Nat} (hi : i + 1 < x.segs.length) :
  IxOk (replX x i 2 (twoS (x.segs.getD i ⟨[], []⟩) (x.segs.getD (i + 1) ⟨[], []⟩) x.dead)) ∧ (∀ d, liveX (replX x i 2 (twoS (x.segs.getD i ⟨[], []⟩) (x.segs.getD (i + 1) ⟨[], []⟩) x.dead)) d ↔ liveX x d) ∧ ∀ k d, pX (replX x i 2 (twoS (x.segs.getD i ⟨[], []⟩) (x.segs.getD (i + 1) ⟨[], []⟩) x.dead)) k d = pX x k d := by
 rw [seg_at OM, seg_at hi]
 unfold replX
 have h1 := hx.rt _ (yak (show i < x.segs.length by omega))
 have h2 := hx.rt _ (yak hi)
 refine zoP hx (mid := [x.segs[i], x.segs[i + 1]]) (zud hi) (zcJ _ _ _) (fun _ h => h) (fun d => ?_) (fun k d => ?_)
 ·rw [zhs, zbF h1, zbF h2, inX_cons]
  constructor
  ·rintro ⟨h | h, hn⟩
   ·exact ⟨.inl h, hn⟩
   exact ⟨.inr ⟨_, yac.2 rfl, h⟩, hn⟩
  rintro ⟨h | ⟨t, ht, h⟩, hn⟩
  ·exact ⟨.inl h, hn⟩
  rw [yac.1 ht] at h
  exact ⟨.inr h, hn⟩
 rw [znw]
 show _ = if d ∈ x.dead then [] else unI (pS x.segs[i] k d) (unI (pS x.segs[i + 1] k d) [])
 rw [zcV]
theorem zdi {l : List Sgm} {d : Int} {i : Nat} (h : findX l d = some i) : ∃ hi : i < l.length, d ∈ l[i].docs := by
 obtain ⟨hi, h1, _⟩ := List.findIdx?_eq_some_iff_getElem.1 h
 exact ⟨hi, of_decide_eq_true h1⟩
theorem find_none {l : List Sgm} {d : Int} (h : findX l d = none) : ¬ inX l d := by
 rintro ⟨s, hs, hd⟩
 have := List.findIdx?_eq_none_iff.1 h s hs
 rw [decide_eq_true hd] at this; cases this
theorem ztn {x : Ix} (hx : IxOk x) {doc : Int} (hn : ¬ liveX x doc) : IxOk (readX x doc) ∧ (∀ d, liveX (readX x doc) d ↔ liveX x d) ∧ (∀ k d, pX (readX x doc) k d = pX x k d) ∧ ¬ inX (readX x doc).segs doc := by
 unfold readX
 cases hf : findX x.segs doc with
 | none => exact ⟨hx, fun _ => Iff.rfl, fun _ _ => rfl, find_none hf⟩
 | some i =>
  obtain ⟨hi, hd⟩ := zdi hf
  have hdd : doc ∈ x.dead := by
   by_cases h : doc ∈ x.dead
   ·exact h
   exact absurd ⟨⟨_, yak hi, hd⟩, h⟩ hn
  obtain ⟨h1, h2, h3⟩ := zrI hx hi (dl := [doc]) (fun d h => by rw [yac.1 h]; exact hdd)
  refine ⟨h1, h2, h3, fun hin => ?_⟩
  dsimp only at hin
  unfold replX cleanX at hin
  dsimp only at hin
  rw [inX_full, inX_app, inX_cons, seg_at hi, zhs] at hin
  have hdj := hx.dj
  rw [zrF hi] at hdj
  obtain ⟨d1, d2, d3⟩ := yaG.1 hdj
  rcases hin with ⟨t, ht, h⟩ | h | ⟨t, ht, h⟩
  ·exact d3 t ht _ (yaX _ (yac.2 rfl)) doc h hd
  ·exact h.2 (yac.2 rfl)
  exact (yam.1 d2).1 t ht doc hd h
theorem zdP {doc : Int} (h1 : 1 ≤ doc) (h2 : doc ≤ 1099511627776) (tx : List (List UInt8)) : keptE (entsX doc tx) = entsX doc tx ∧ Kept (entsX doc tx) := by
 have e : keptE (entsX doc tx) = entsX doc tx := by
  have hc : ∀ f t, 1 ≤ f → f ≤ 5 → countsE ⟨doc, f, t⟩ = true := fun f t a b => by
   unfold countsE
   simp only [yaq, decide_eq_true_eq]
   omega
  unfold keptE entsX
  simp [stepE, hc, hadE]
 exact ⟨e, e ▸ zji _⟩
theorem zrn {x : Ix} (hx : IxOk x) {doc : Int} {tx : List (List UInt8)} (ht : ∀ t ∈ tx, t.length ≤ 1000000000) (h0 : (addX x doc tx).1 = 0) :
  IxOk (addX x doc tx).2 ∧ (∀ d, liveX (addX x doc tx).2 d ↔ liveX x d ∨ d = doc) ∧ ∀ k d, pX (addX x doc tx).2 k d = if d = doc then placesE (entsX doc tx) k d else pX x k d := by
 unfold addX at h0 ⊢
 split at h0
 ·cases h0
 rename_i hb
 rw [if_neg hb]
 split at h0
 ·cases h0
 rename_i hl
 rw [if_neg hl]
 have hl : ¬ liveX x doc := fun h => hl (zbO.2 h)
 obtain ⟨r1, r2, r3, r4⟩ := ztn hx hl
 generalize readX x doc = y at *
 have hB := built_E (zdP (doc := doc) OM OM tx).2 (fun e he => by
  have : e.text ∈ tx ∨ e.text = [] := by
   have key : ∀ j, tx.getD j [] ∈ tx ∨ tx.getD j [] = [] := fun j => by
    by_cases h : j < tx.length
    ·left; simp [List.getD, List.getElem?_eq_getElem h]
    right; simp [List.getD, List.getElem?_eq_none (Nat.le_of_not_lt h)]
   unfold entsX at he
   simp only [yah, yaS, or_false] at he
   rcases he with rfl | rfl | rfl | rfl | rfl <;> exact key _
  rcases this with h | h
  ·exact ht _ h
  rw [h]; exact yal _)
 generalize hS : zcq (entsX doc tx) = S at *
 have hSd : ∀ d, d ∈ S.docs ↔ d = doc := fun d => by
  rw [hB.docs]
  constructor
  ·rintro ⟨e, he, rfl⟩
   unfold entsX at he
   simp only [yah, yaS, or_false] at he
   rcases he with rfl | rfl | rfl | rfl | rfl <;> rfl
  rintro rfl
  exact ⟨_, yae, rfl⟩
 have hSp : ∀ k d, pS S k d = placesE (entsX doc tx) k d := fun k d => by unfold pS; rw [zbF hB.right, hB.posts]
 have hnd : doc ∉ y.dead := fun h => r4 (r1.di doc h)
 have hin : ∀ d, inX (y.segs ++ [S]) d ↔ inX y.segs d ∨ d = doc := fun d => by
  rw [inX_app]
  constructor
  ·rintro (h | ⟨t, ht, h⟩)
   ·exact .inl h
   rw [yac.1 ht] at h
   exact .inr ((hSd d).1 h)
  rintro (h | h)
  ·exact .inl h
  exact .inr ⟨S, yac.2 rfl, (hSd d).2 h⟩
 refine ⟨⟨fun s hs => ?_, fun s hs => ?_, ?_, r1.da, fun d hd => ?_⟩, fun d => ?_, fun k d => ?_⟩
 ·rcases yaj.1 hs with hs | hs
  ·exact r1.rt s hs
  rw [yac.1 hs]; exact hB.right
 ·rcases yaj.1 hs with hs | hs
  ·exact r1.ne s hs
  rw [yac.1 hs]
  intro e
  have := (hSd doc).2 rfl
  rw [e] at this; cases this
 ·refine yaG.2 ⟨r1.dj, ybW _ _, fun a ha b hb d h1 h2 => ?_⟩
  rw [yac.1 hb] at h2
  rw [(hSd d).1 h2] at h1
  exact r4 ⟨a, ha, h1⟩
 ·obtain ⟨s, hs, h⟩ := r1.di d hd
  exact ⟨s, yaX _ hs, h⟩
 ·rw [← r2]
  unfold liveX
  dsimp only
  rw [hin]
  constructor
  ·rintro ⟨h | h, h2⟩
   ·exact .inl ⟨h, h2⟩
   exact .inr h
  rintro (⟨h, h2⟩ | rfl)
  ·exact ⟨.inl h, h2⟩
  exact ⟨.inr rfl, hnd⟩
 have e1 : pL (y.segs ++ [S]) k d = unI (pL y.segs k d) (placesE (entsX doc tx) k d) := by
  rw [zkU]
  show unI _ (unI (pS S k d) []) = _
  rw [zcV, hSp]
 by_cases hdd : d = doc
 ·subst hdd
  rw [if_pos rfl]
  unfold pX
  dsimp only
  rw [if_neg hnd, e1, pL_out r1.rt r4, zdE]
 rw [if_neg hdd, ← r3]
 unfold pX
 dsimp only
 have e2 : placesE (entsX doc tx) k d = [] := by
  rw [← hSp]
  exact zhX hB.right fun h => hdd ((hSd d).1 h)
 rw [e1, e2, zcV]
theorem add_no {x : Ix} {doc : Int} {tx : List (List UInt8)} (h0 : (addX x doc tx).1 ≠ 0) : (addX x doc tx).2 = x := by
 unfold addX at h0 ⊢
 split
 ·rfl
 split
 ·rfl
 rename_i h1 h2
 rw [if_neg h1, if_neg h2] at h0
 exact absurd rfl h0
theorem znf {x : Ix} (hx : IxOk x) (doc : Int) : IxOk (dropX x doc).2 ∧ ((dropX x doc).1 = true ↔ liveX x doc) ∧ (∀ d, liveX (dropX x doc).2 d ↔ liveX x d ∧ d ≠ doc) ∧ ∀ k d, pX (dropX x doc).2 k d = if d = doc then [] else pX x k d := by
 unfold dropX
 by_cases hl : zco x doc = true
 ·rw [if_pos hl]
  have hlv := zbO.1 hl
  have hm := zeq doc x.dead (zkf.1 hx.da)
  refine ⟨⟨hx.rt, hx.ne, hx.dj, zkf.2 (zfS doc x.dead (zkf.1 hx.da)), fun d hd => ?_⟩, ⟨fun _ => hlv, fun _ => rfl⟩, fun d => ?_, fun k d => ?_⟩
  ·rcases (hm d).1 hd with rfl | hd
   ·exact hlv.1
   exact hx.di d hd
  ·unfold liveX
   dsimp only
   rw [hm]
   constructor
   ·rintro ⟨h1, h2⟩
    exact ⟨⟨h1, fun h => h2 (.inr h)⟩, fun h => h2 (.inl h)⟩
   rintro ⟨⟨h1, h2⟩, h3⟩
   exact ⟨h1, fun h => by rcases h with h | h; exact h3 h; exact h2 h⟩
  unfold pX
  dsimp only
  by_cases hd : d = doc
  ·rw [if_pos hd, if_pos ((hm d).2 (.inl hd))]
  rw [if_neg hd]
  by_cases h : d ∈ x.dead
  ·rw [if_pos h, if_pos ((hm d).2 (.inr h))]
  rw [if_neg h, if_neg fun h2 => by rcases (hm d).1 h2 with h2 | h2; exact hd h2; exact h h2]
 rw [if_neg hl]
 have hnl : ¬ liveX x doc := fun h => hl (zbO.2 h)
 refine ⟨hx, ⟨(fun h => by cases h), (fun h => absurd h hnl)⟩, fun d => ⟨fun h => ⟨h, fun e => hnl (e ▸ h)⟩, fun h => h.1⟩, fun k d => ?_⟩
 by_cases hd : d = doc
 ·rw [if_pos hd]
  subst hd
  dsimp only
  unfold pX
  by_cases h : d ∈ x.dead
  ·rw [if_pos h]
  rw [if_neg h]
  exact pL_out hx.rt fun hi => hnl ⟨hi, h⟩
 rw [if_neg hd]
theorem znX {x : Ix} (hx : IxOk x) : IxOk (stepX x).2 ∧ (∀ d, liveX (stepX x).2 d ↔ liveX x d) ∧ ∀ k d, pX (stepX x).2 k d = pX x k d := by
 unfold stepX
 cases hp : pickL (x.segs.map fun s => (s.docs.length : Int)) with
 | some i =>
  have hi := zdG hp
  rw [yaf] at hi
  exact zuj hx hi
 | none =>
  dsimp only
  cases hf : x.segs.findIdx? (dueX x) with
  | some i =>
   obtain ⟨hi, _⟩ := List.findIdx?_eq_some_iff_getElem.1 hf
   exact zrI hx hi fun _ h => h
  | none => exact ⟨hx, fun _ => Iff.rfl, fun _ _ => rfl⟩
def zeP : Ix := ⟨[], []⟩
theorem zie : IxOk zeP ∧ (∀ d, ¬ liveX zeP d) ∧ ∀ k d, pX zeP k d = [] :=
 ⟨⟨(fun s h => by cases h), (fun s h => by cases h), .nil, .nil, (fun d h => by cases h)⟩, (fun d h => by obtain ⟨⟨s, hs, _⟩, _⟩ := h; cases hs), (fun k d => rfl)⟩
def docN (l : List Sgm) : Nat := (l.map fun s => s.docs.length).sum
theorem zeg (s : Sgm) (l : List Sgm) : docN (s :: l) = s.docs.length + docN l := rfl
theorem zqX (l : List Sgm) : (fullL l).length ≤ l.length := yaK _ _
theorem zjE {a b : List Int} (ha : AscB ltI a) (h : ∀ d ∈ a, d ∈ b) : a.length ≤ b.length := zbr a b (zdj ha) h
def sizeX (x : Ix) : Nat := x.segs.length + docN x.segs
def docsX (x : Ix) : List Int := sortL ((x.segs.flatMap fun s => s.docs).filter fun d => !decide (d ∈ x.dead))
theorem zhb {l : List Sgm} (hr : ∀ s ∈ l, rightS s = true) (hdj : l.Pairwise fun s t => ∀ d, d ∈ s.docs → d ∉ t.docs) : (l.flatMap fun s => s.docs).Nodup := by
 induction l with
 | nil => exact .nil
 | cons s l ih =>
  obtain ⟨h1, h2⟩ := yam.1 hdj
  rw [yao]
  refine ybr.2 ⟨zdj (zah.1 (hr s yae)).1.1, ih (fun t ht => hr t (yai _ ht)) h2, fun a ha b hb e => ?_⟩
  obtain ⟨t, ht, hb⟩ := ybl.1 hb
  exact h1 t ht a ha (e ▸ hb)
theorem zfa {l : List Sgm} {d : Int} : d ∈ l.flatMap (fun s => s.docs) ↔ inX l d := ybl
theorem zfr (x : Ix) (d : Int) : d ∈ docsX x ↔ liveX x d := by
 unfold docsX liveX
 rw [zbX, yav, zfa]
 simp
theorem zox (l : List Sgm) : (l.flatMap fun s => s.docs).length = docN l := by
 induction l with
 | nil => rfl
 | cons s l ih => rw [yao, yaa, ih, zeg]
theorem ziz {x : Ix} (hx : IxOk x) : (docsX x).length + x.dead.length = docN x.segs := by
 unfold docsX
 rw [yba, ← zox]
 have hn := zhb hx.rt hx.dj
 have hd := zdj hx.da
 have hin : ∀ d ∈ x.dead, d ∈ x.segs.flatMap fun s => s.docs := fun d h => zfa.2 (hx.di d h)
 generalize (x.segs.flatMap fun s => s.docs) = F at *
 generalize x.dead = D at *
 have h1 : F.length = (F.filter fun d => !decide (d ∈ D)).length + (F.filter fun d => decide (d ∈ D)).length := by
  clear hn hin
  induction F with
  | nil => rfl
  | cons d r ihr => by_cases h : d ∈ D <;> simp [h] <;> omega
 have h2 : (F.filter fun d => decide (d ∈ D)).length = D.length := by
  refine Nat.le_antisymm (zbr _ _ (hn.sublist ybs) fun d h => of_decide_eq_true (yav.1 h).2) (zbr _ _ hd fun d h => yav.2 ⟨hin d h, decide_eq_true h⟩)
 omega
end Go.Proofs.YtennokckmjcefaaGreatDoor
