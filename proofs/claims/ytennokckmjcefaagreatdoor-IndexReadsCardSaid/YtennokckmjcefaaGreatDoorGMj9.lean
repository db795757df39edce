/- Helper lemmas; no conditions of their own. -/
import Derived.Test.YtennokckmjcefaaGreatDoorGCd7
set_option linter.unusedVariables false
set_option maxRecDepth 100000
namespace Go.Proofs.YtennokckmjcefaaGreatDoor
open Go.Shelf Go.RowKit Go.Pw Go.Vc Go.Cs Go.Lib Go.Cd Go.Mg
section
variable {w : World}
theorem zmC (x y : Trm) : Calls Tryz.prog 159 #[.agg (tmC x).toArray, .agg (tmC y).toArray] w fun e w' => e = .returned (.bool (ltK x.key y.key)) ∧ Kp w w' n_ := by
 refine zaa (args := [.agg (tmC x).toArray, .agg (tmC y).toArray]) Tryz.func159 rfl NL ?_; refine GW ?_
 obtain ⟨a_b1, v_b1, k_w1, z_w1, r_w1⟩ := new5 w 141 (tmC x)
 generalize w.alloc (.cells (List.toArray (tmC x)) 141) = w1 at *
 generalize hs_b1 : w.heap.size = b1 at *
 obtain ⟨a_b2, v_b2, k_w2, z_w2, r_w2⟩ := new5 w1 141 (tmC y)
 generalize w1.alloc (.cells (List.toArray (tmC y)) 141) = w2 at *
 generalize hs_b2 : w1.heap.size = b2 at *
 have K2 : Kp w w2 n_ := k_w1.trans0 k_w2
 have a1 := at_mono a_b1 k_w2
 have r2 := Yb w2 n_
 unfold tmC at a1 a_b2
 clear a_b1
 unfold ltK
 dsimp only
 by_cases h1 : x.field < y.field
 ·refine KGO ?_
  exact ⟨ret_bool (by simp [h1]), K2⟩
 by_cases h2 : x.field = y.field
 ·refine KGO ?_
  exact ⟨ret_bool (by rw [znR]; simp [h2]), K2⟩
 refine KGO ?_
 exact ⟨ret_bool (by simp [h1, h2]), K2⟩
end
theorem withGo_true (n : Int) : ∀ l : List Int, (∀ x ∈ l, n < x) → zdg n l true = l
 | [], _ => rfl
 | x :: r, h => by
  have hx := h x yae
  rw [zdg, if_neg (by simp), if_neg OM, withGo_true n r fun y hy => h y (yai _ hy)]
theorem zeq (n : Int) : ∀ l : List Int, l.Pairwise (· < ·) → ∀ y, y ∈ withL l n ↔ y = n ∨ y ∈ l
 | [], _, y => by simp [withL, zdg]
 | x :: r, h, y => by
  rw [yam] at h
  have ih := zeq n r h.2 y
  unfold withL at ih ⊢
  rw [zdg]
  by_cases h1 : n ≤ x
  ·rw [if_pos ⟨rfl, h1⟩, withGo_true n r fun z hz => by have := h.1 z hz; omega]
   by_cases h2 : x = n
   ·rw [if_pos h2]; simp [h2]
   rw [if_neg h2]; simp
  rw [if_neg (fun e => h1 e.2), if_neg OM, yah, ih, yah]
  constructor <;> (intro e; rcases e with e | e | e <;> simp [e])
theorem zfS (n : Int) : ∀ l : List Int, l.Pairwise (· < ·) → (withL l n).Pairwise (· < ·)
 | [], _ => by simp [withL, zdg]
 | x :: r, h => by
  have hc := yam.1 h
  have ih := zfS n r hc.2
  have hm := zeq n r hc.2
  unfold withL at ih hm ⊢
  rw [zdg]
  by_cases h1 : n ≤ x
  ·have ht := withGo_true n r fun z hz => by have := hc.1 z hz; omega
   rw [if_pos ⟨rfl, h1⟩, ht]
   by_cases h2 : x = n
   ·rw [if_pos h2, ← h2]; exact h
   rw [if_neg h2, yam]
   refine ⟨fun z hz => ?_, h⟩
   rcases yah.1 hz with rfl | hz
   ·omega
   have := hc.1 z hz; omega
  rw [if_neg (fun e => h1 e.2), if_neg OM, yam]
  refine ⟨fun z hz => ?_, ih⟩
  rcases (hm z).1 hz with rfl | hz
  ·omega
  exact hc.1 z hz
theorem zkf {l : List Int} : AscB ltI l ↔ l.Pairwise (· < ·) := by
 unfold AscB
 simp only [ltI, decide_eq_true_eq]
theorem zhH {l : List Pst} (h : zan l = true) (d : Int) : d ∈ l.map (·.doc) ↔ atD l d ≠ [] := by
 constructor
 ·intro hm
  obtain ⟨p, hp, rfl⟩ := yay.1 hm
  rw [zcX (zbg h) hp]
  exact ((zaw.1 h).2 p hp).2.2.1
 intro hn
 obtain ⟨p, hp, e, _⟩ := zoL hn
 exact yay.2 ⟨p, hp, e⟩
def postsT (l : List Trm) (k : Int × List UInt8) : List Pst := match l.find? (fun t => decide (t.key = k)) with | some t => plT t | none => []
theorem posts_cons (x : Trm) (l : List Trm) (k : Int × List UInt8) : postsT (x :: l) k = if x.key = k then plT x else postsT l k := by
 unfold postsT
 rw [List.find?_cons]
 by_cases h : x.key = k
 ·rw [if_pos h, decide_eq_true h]
 rw [if_neg h, decide_eq_false h]
theorem zgw {l : List Trm} {k : Int × List UInt8} (h : ∀ t ∈ l, ltK k t.key = true) : postsT l k = [] := by
 unfold postsT
 rw [List.find?_eq_none.2 fun t ht => ?_]
 have := h t ht
 simp only [decide_eq_true_eq]
 intro e
 rw [e, stoK.irr] at this; cases this
def AscK (l : List Trm) : Prop := l.Pairwise fun a b => ltK a.key b.key = true
theorem merge_mem : ∀ (n : Nat) (a b : List Trm), a.length + b.length ≤ n → ∀ z ∈ zaE a b, (∃ t ∈ a, t.key = z.1.key) ∨ ∃ t ∈ b, t.key = z.1.key := by
 intro n a b _ z hz
 obtain ⟨⟨o1, o2⟩, hm, rfl⟩ := yay.1 hz
 obtain ⟨h1, h2, h3⟩ := (zaN cmpT a b).1 _ hm
 dsimp only at h1 h2 h3
 cases o2 with
 | some t => exact .inr ⟨t, h3 t rfl, by cases o1 <;> rfl⟩
 | none =>
  cases o1 with
  | none => simp at h1
  | some s => exact .inl ⟨s, h2 s rfl, rfl⟩
theorem zbu : ∀ (n : Nat) (a b : List Trm), a.length + b.length ≤ n → AscK a → AscK b → ∀ z ∈ zaE a b, z.2 = orP (postsT a z.1.key) (postsT b z.1.key)
 | _, [], [], _, _, _, z, hz => by rw [mergeT_nil] at hz; cases hz
 | 0, x :: a, b, h, _, _, _, _ => by simp at h
 | 0, [], y :: b, h, _, _, _, _ => by simp at h
 | n + 1, x :: a, [], h, ha, hb, z, hz => by
  have hc := yam.1 ha
  rw [zcl] at hz
  rcases yah.1 hz with rfl | hz
  ·rw [posts_cons, if_pos rfl]; rfl
  have hl : a.length + ([] : List Trm).length ≤ n := by simp at h ⊢; omega
  have ih := zbu n a [] hl hc.2 hb z hz
  rw [posts_cons, if_neg, ih]
  intro e
  rcases merge_mem n a [] hl z hz with ⟨t, ht, e2⟩ | ⟨t, ht, _⟩
  ·have := hc.1 t ht
   rw [e2, e, stoK.irr] at this; cases this
  cases ht
 | n + 1, [], y :: b, h, ha, hb, z, hz => by
  have hc := yam.1 hb
  rw [zcM] at hz
  rcases yah.1 hz with rfl | hz
  ·rw [posts_cons, if_pos rfl]; rfl
  have hl : ([] : List Trm).length + b.length ≤ n := by simp at h ⊢; omega
  have ih := zbu n [] b hl ha hc.2 z hz
  rw [posts_cons, if_neg, ih]
  intro e
  rcases merge_mem n [] b hl z hz with ⟨t, ht, _⟩ | ⟨t, ht, e2⟩
  ·cases ht
  have := hc.1 t ht
  rw [e2, e, stoK.irr] at this; cases this
 | n + 1, x :: a, y :: b, h, ha, hb, z, hz => by
  have hca := yam.1 ha
  have hcb := yam.1 hb
  have l1 := zft x y
  have l2 := zjT x y
  simp only [yab] at h
  rw [zci] at hz
  by_cases h1 : cmpT x y < 0
  ·rw [if_pos h1] at hz
   have hxy := l1.1 h1
   have hyb : ∀ t ∈ y :: b, ltK x.key t.key = true := fun t ht => by
    rcases yah.1 ht with rfl | ht
    ·exact hxy
    exact stoK.tr _ _ _ hxy (hcb.1 t ht)
   rcases yah.1 hz with rfl | hz
   ·rw [zgw hyb, posts_cons, if_pos rfl]
   have hl : a.length + (y :: b).length ≤ n := by rw [yab]; omega
   have ih := zbu n a (y :: b) hl hca.2 hb z hz
   rw [posts_cons x, if_neg, ih]
   intro e
   rcases merge_mem n a (y :: b) hl z hz with ⟨t, ht, e2⟩ | ⟨t, ht, e2⟩
   ·have := hca.1 t ht
    rw [e2, e, stoK.irr] at this; cases this
   have := hyb t ht
   rw [e2, e, stoK.irr] at this; cases this
  rw [if_neg h1] at hz
  by_cases h2 : cmpT x y = 0
  ·rw [if_pos h2] at hz
   have he := l2.1 h2
   rcases yah.1 hz with rfl | hz
   ·rw [posts_cons, if_pos he, posts_cons, if_pos rfl]
   have hl : a.length + b.length ≤ n := OM
   have ih := zbu n a b hl hca.2 hcb.2 z hz
   have hne : ¬ y.key = z.1.key := fun e => by
    rcases merge_mem n a b hl z hz with ⟨t, ht, e2⟩ | ⟨t, ht, e2⟩
    ·have := hca.1 t ht
     rw [e2, he, e, stoK.irr] at this; cases this
    have := hcb.1 t ht
    rw [e2, e, stoK.irr] at this; cases this
   rw [posts_cons x, if_neg (by rw [he]; exact hne), posts_cons y, if_neg hne, ih]
  rw [if_neg h2] at hz
  have hyx : ltK y.key x.key = true := by
   cases hk : ltK y.key x.key with
   | true => rfl
   | false => exact absurd (l2.2 (stoK.tri _ _ (by cases hq : ltK x.key y.key with | false => rfl | true => exact absurd (l1.2 hq) h1) hk)) h2
  have hxa : ∀ t ∈ x :: a, ltK y.key t.key = true := fun t ht => by
   rcases yah.1 ht with rfl | ht
   ·exact hyx
   exact stoK.tr _ _ _ hyx (hca.1 t ht)
  rcases yah.1 hz with rfl | hz
  ·rw [zgw hxa, posts_cons, if_pos rfl]
  have hl : (x :: a).length + b.length ≤ n := by rw [yab]; omega
  have ih := zbu n (x :: a) b hl ha hcb.2 z hz
  rw [posts_cons y, if_neg, ih]
  intro e
  rcases merge_mem n (x :: a) b hl z hz with ⟨t, ht, e2⟩ | ⟨t, ht, e2⟩
  ·have := hxa t ht
   rw [e2, e, stoK.irr] at this; cases this
  have := hcb.1 t ht
  rw [e2, e, stoK.irr] at this; cases this
theorem zcA (t : Trm) : zan (plT t) = true := by
 unfold plT
 cases h : decP t.list with
 | none => rfl
 | some l => exact (zde.1 h).1
theorem zaH (l : List Trm) (k : Int × List UInt8) : zan (postsT l k) = true := by
 unfold postsT
 cases l.find? fun t => decide (t.key = k) with
 | none => rfl
 | some t => exact zcA t
theorem zcY (s : Sgm) : rightS (validS s) = true := by
 unfold validS
 cases h : rightS s with
 | true => rw [if_pos rfl]; exact h
 | false => rw [if_neg (by decide)]; rfl
theorem zdB {x y : List Int} (hx : AscB ltI x) (hy : AscB ltI y) : AscB ltI (unI x y) := (zdl _ x y (yag _) hx hy).1
theorem zmX {x y z : List Int} (hx : AscB ltI x) (hy : AscB ltI y) (hz : AscB ltI z) : unI (unI x y) z = unI x (unI y z) :=
 zce stoI _ _ (zdB (zdB hx hy) hz) (zdB hx (zdB hy hz)) fun w => by
  rw [mem_unI (zdB hx hy) hz, mem_unI hx hy, mem_unI hx (zdB hy hz), mem_unI hy hz, or_assoc]
theorem zdf {docs : List Int} {t : Trm} (h : zax docs t = true) : plT t ≠ [] ∧ t.list = encP (plT t) := by
 unfold zax at h
 rw [yaq] at h
 have h := h.2
 unfold zbx at h
 unfold plT
 cases hd : decP t.list with
 | none => rw [hd] at h; cases h
 | some l =>
  rw [hd] at h
  refine ⟨fun e => ?_, (zde.1 hd).2.symm⟩
  have e : l = [] := e
  rw [e] at h
  simp at h
theorem zdU {x y : Int × List UInt8} (h : ltK x y = true) : x ≠ y := fun e => by
 rw [e, stoK.irr] at h; cases h
theorem zik : ∀ a b : List Trm, AscK a → AscK b → (∀ t, t ∈ a ↔ t ∈ b) → a = b
 | [], [], _, _, _ => rfl
 | [], y :: b, _, _, h => by have := (h y).2 yae; cases this
 | x :: a, [], _, _, h => by have := (h x).1 yae; cases this
 | x :: a, y :: b, ha, hb, h => by
  have hca := yam.1 ha
  have hcb := yam.1 hb
  have e : x = y := by
   rcases yah.1 ((h x).1 yae) with e | h1
   ·exact e
   rcases yah.1 ((h y).2 yae) with e | h2
   ·exact e.symm
   exact absurd rfl (zdU (stoK.tr _ _ _ (hca.1 y h2) (hcb.1 x h1)))
  subst e
  rw [zik a b hca.2 hcb.2 fun t => ⟨fun ht => ?_, fun ht => ?_⟩]
  ·rcases yah.1 ((h t).1 (yai _ ht)) with e | h1
   ·rw [e] at ht; exact absurd rfl (zdU (hca.1 x ht))
   exact h1
  rcases yah.1 ((h t).2 (yai _ ht)) with e | h1
  ·rw [e] at ht; exact absurd rfl (zdU (hcb.1 x ht))
  exact h1
theorem posts_mem : ∀ (l : List Trm), AscK l → ∀ t ∈ l, postsT l t.key = plT t
 | x :: l, h, t, ht => by
  have hc := yam.1 h
  rw [posts_cons]
  rcases yah.1 ht with rfl | ht
  ·rw [if_pos rfl]
  rw [if_neg (zdU (hc.1 t ht)), posts_mem l hc.2 t ht]
theorem zeY {l : List Trm} {k : Int × List UInt8} (h : postsT l k ≠ []) : ∃ t ∈ l, t.key = k ∧ plT t = postsT l k := by
 unfold postsT at h ⊢
 cases hf : l.find? fun t => decide (t.key = k) with
 | none => rw [hf] at h; exact absurd rfl h
 | some t => exact ⟨t, List.mem_of_find?_eq_some hf, of_decide_eq_true (List.find?_some (p := fun t => decide (Trm.key t = k)) hf), rfl⟩
theorem zoi {a b : Sgm} (ha : rightS a = true) (hb : rightS b = true) (h : ∀ k, postsT a.terms k = postsT b.terms k) : ∀ t ∈ a.terms, t ∈ b.terms := fun t ht => by
 have ha := zah.1 ha
 have hb := zah.1 hb
 have h1 := zdf (ha.2.1 t ht)
 have h2 := posts_mem _ ha.2.2 t ht
 obtain ⟨u, hu, e1, e2⟩ := zeY (l := b.terms) (k := t.key) (by rw [← h, h2]; exact h1.1)
 have h3 := zdf (hb.2.1 u hu)
 have e3 : plT u = plT t := by rw [e2, ← h, h2]
 have e4 : u.list = t.list := by rw [h3.2, h1.2, e3]
 have e5 : u = t := by
  obtain ⟨f, wd, ls⟩ := u
  obtain ⟨f2, wd2, ls2⟩ := t
  unfold Trm.key at e1
  injection e1 with e6 e7
  dsimp only at e4 e6 e7
  rw [e4, e6, e7]
 exact e5 ▸ hu
theorem zsA {a b : Sgm} (ha : rightS a = true) (hb : rightS b = true) (hd : a.docs = b.docs) (h : ∀ k, postsT a.terms k = postsT b.terms k) : a = b := by
 have ht := zik a.terms b.terms (zah.1 ha).2.2 (zah.1 hb).2.2 fun t => ⟨zoi ha hb h t, zoi hb ha (fun k => (h k).symm) t⟩
 cases a
 cases b
 dsimp only at ht hd
 rw [ht, hd]
theorem right_live {l : List Pst} (dead : List Int) (h : zan l = true) : zan (liveP dead l) = true := by
 have h := zaw.1 h
 exact zaw.2 ⟨List.Pairwise.filter _ h.1, fun p hp => h.2 p (yav.1 hp).1⟩
theorem zlW {f : Int} {wd : List UInt8} {l : List Pst} (h : zan l = true) : plT ⟨f, wd, encP l⟩ = l := by
 unfold plT
 dsimp only
 rw [zes h]; rfl
theorem zln (dead : List Int) : ∀ (L : List (Trm × List Pst)), (∀ z ∈ L, zan z.2 = true) → L.Pairwise (fun y z => ltK y.1.key z.1.key = true) → ∀ k,
  postsT (L.filterMap (termOf dead)) k = match L.find? (fun z => decide (z.1.key = k)) with | some z => liveP dead z.2 | none => []
 | [], _, _, k => rfl
 | z :: L, hr, hp, k => by
  have hc := yam.1 hp
  have ih := zln dead L (fun y hy => hr y (yai _ hy)) hc.2 k
  rw [List.filterMap_cons, List.find?_cons]
  by_cases hk : z.1.key = k
  ·rw [decide_eq_true hk]
   by_cases hn : liveP dead z.2 = []
   ·have hno : L.find? (fun y => decide (y.1.key = k)) = none := List.find?_eq_none.2 fun y hy => by
     simp only [decide_eq_true_eq]
     intro e
     exact zdU (hc.1 y hy) (by rw [hk, e])
    unfold termOf
    rw [if_pos hn]
    dsimp only
    unfold termOf at ih
    rw [ih, hno, hn]
   have ht : termOf dead z = some ⟨z.1.field, z.1.word, encP (liveP dead z.2)⟩ := if_neg hn
   rw [ht]
   dsimp only
   rw [posts_cons, if_pos hk, zlW (right_live dead (hr z yae))]
  rw [decide_eq_false hk]
  by_cases hn : liveP dead z.2 = []
  ·have ht : termOf dead z = none := if_pos hn
   rw [ht]
   exact ih
  have ht : termOf dead z = some ⟨z.1.field, z.1.word, encP (liveP dead z.2)⟩ := if_neg hn
  rw [ht]
  dsimp only
  rw [posts_cons, if_neg hk]
  exact ih
theorem merge_asc : ∀ (n : Nat) (a b : List Trm), a.length + b.length ≤ n → AscK a → AscK b → (zaE a b).Pairwise fun y z => ltK y.1.key z.1.key = true
 | _, [], [], _, _, _ => by rw [mergeT_nil]; exact .nil
 | 0, x :: a, b, h, _, _ => by simp at h
 | 0, [], y :: b, h, _, _ => by simp at h
 | n + 1, x :: a, [], h, ha, hb => by
  have hc := yam.1 ha
  have hl : a.length + ([] : List Trm).length ≤ n := by simp at h ⊢; omega
  rw [zcl, yam]
  refine ⟨fun z hz => ?_, merge_asc n a [] hl hc.2 hb⟩
  rcases merge_mem n a [] hl z hz with ⟨t, ht, e⟩ | ⟨t, ht, _⟩
  ·rw [← e]; exact hc.1 t ht
  cases ht
 | n + 1, [], y :: b, h, ha, hb => by
  have hc := yam.1 hb
  have hl : ([] : List Trm).length + b.length ≤ n := by simp at h ⊢; omega
  rw [zcM, yam]
  refine ⟨fun z hz => ?_, merge_asc n [] b hl ha hc.2⟩
  rcases merge_mem n [] b hl z hz with ⟨t, ht, _⟩ | ⟨t, ht, e⟩
  ·cases ht
  rw [← e]; exact hc.1 t ht
 | n + 1, x :: a, y :: b, h, ha, hb => by
  have hca := yam.1 ha
  have hcb := yam.1 hb
  have l1 := zft x y
  have l2 := zjT x y
  simp only [yab] at h
  rw [zci]
  by_cases h1 : cmpT x y < 0
  ·have hxy := l1.1 h1
   have hl : a.length + (y :: b).length ≤ n := by rw [yab]; omega
   rw [if_pos h1, yam]
   refine ⟨fun z hz => ?_, merge_asc n a (y :: b) hl hca.2 hb⟩
   rcases merge_mem n a (y :: b) hl z hz with ⟨t, ht, e⟩ | ⟨t, ht, e⟩
   ·rw [← e]; exact hca.1 t ht
   rw [← e]
   rcases yah.1 ht with rfl | ht
   ·exact hxy
   exact stoK.tr _ _ _ hxy (hcb.1 t ht)
  by_cases h2 : cmpT x y = 0
  ·have he := l2.1 h2
   have hl : a.length + b.length ≤ n := OM
   rw [if_neg h1, if_pos h2, yam]
   refine ⟨fun z hz => ?_, merge_asc n a b hl hca.2 hcb.2⟩
   rcases merge_mem n a b hl z hz with ⟨t, ht, e⟩ | ⟨t, ht, e⟩
   ·rw [← e, ← he]; exact hca.1 t ht
   rw [← e]; exact hcb.1 t ht
  have hyx : ltK y.key x.key = true := by
   cases hk : ltK y.key x.key with
   | true => rfl
   | false => exact absurd (l2.2 (stoK.tri _ _ (by cases hq : ltK x.key y.key with | false => rfl | true => exact absurd (l1.2 hq) h1) hk)) h2
  have hl : (x :: a).length + b.length ≤ n := by rw [yab]; omega
  rw [if_neg h1, if_neg h2, yam]
  refine ⟨fun z hz => ?_, merge_asc n (x :: a) b hl ha hcb.2⟩
  rcases merge_mem n (x :: a) b hl z hz with ⟨t, ht, e⟩ | ⟨t, ht, e⟩
  ·rw [← e]
   rcases yah.1 ht with rfl | ht
   ·exact hyx
   exact stoK.tr _ _ _ hyx (hca.1 t ht)
  rw [← e]; exact hcb.1 t ht
theorem zdW : ∀ (n : Nat) (a b : List Trm), a.length + b.length ≤ n → ∀ t, t ∈ a ∨ t ∈ b → ∃ z ∈ zaE a b, z.1.key = t.key
 | _, [], [], _, t, ht => by rcases ht with h | h <;> cases h
 | 0, x :: a, b, h, _, _ => by simp at h
 | 0, [], y :: b, h, _, _ => by simp at h
 | n + 1, x :: a, [], h, t, ht => by
  have hl : a.length + ([] : List Trm).length ≤ n := by simp at h ⊢; omega
  rw [zcl]
  rcases ht with ht | ht
  ·rcases yah.1 ht with rfl | ht
   ·exact ⟨_, yae, rfl⟩
   obtain ⟨z, hz, e⟩ := zdW n a [] hl t (.inl ht)
   exact ⟨z, yai _ hz, e⟩
  cases ht
 | n + 1, [], y :: b, h, t, ht => by
  have hl : ([] : List Trm).length + b.length ≤ n := by simp at h ⊢; omega
  rw [zcM]
  rcases ht with ht | ht
  ·cases ht
  rcases yah.1 ht with rfl | ht
  ·exact ⟨_, yae, rfl⟩
  obtain ⟨z, hz, e⟩ := zdW n [] b hl t (.inr ht)
  exact ⟨z, yai _ hz, e⟩
 | n + 1, x :: a, y :: b, h, t, ht => by
  simp only [yab] at h
  have l2 := zjT x y
  have up : ∀ {a' b' : List Trm} {q : Trm × List Pst}, a'.length + b'.length ≤ n → t ∈ a' ∨ t ∈ b' → ∃ z ∈ q :: zaE a' b', z.1.key = t.key := fun hl hm => by
   obtain ⟨z, hz, e⟩ := zdW n _ _ hl t hm
   exact ⟨z, yai _ hz, e⟩
  rw [zci]
  by_cases h1 : cmpT x y < 0
  ·rw [if_pos h1]
   rcases ht with ht | ht
   ·rcases yah.1 ht with rfl | ht
    ·exact ⟨_, yae, rfl⟩
    exact up (by rw [yab]; omega) (.inl ht)
   exact up (by rw [yab]; omega) (.inr ht)
  by_cases h2 : cmpT x y = 0
  ·rw [if_neg h1, if_pos h2]
   rcases ht with ht | ht <;> rcases yah.1 ht with rfl | ht
   ·exact ⟨_, yae, (l2.1 h2).symm⟩
   ·exact up OM (.inl ht)
   ·exact ⟨_, yae, rfl⟩
   exact up OM (.inr ht)
  rw [if_neg h1, if_neg h2]
  rcases ht with ht | ht
  ·exact up (by rw [yab]; omega) (.inl ht)
  rcases yah.1 ht with rfl | ht
  ·exact ⟨_, yae, rfl⟩
  exact up (by rw [yab]; omega) (.inr ht)
theorem zpA (a b : Sgm) (dead : List Int) (k : Int × List UInt8) : postsT (twoS a b dead).terms k = liveP dead (orP (postsT (validS a).terms k) (postsT (validS b).terms k)) := by
 have ha := (zah.1 (zcY a)).2.2
 have hb := (zah.1 (zcY b)).2.2
 generalize hA : (validS a).terms = A at *
 generalize hB : (validS b).terms = B at *
 have hm := zbu _ A B (yag _) ha hb
 have hf := zln dead (zaE A B) (fun z hz => by rw [hm z hz]; exact zdV (zaH _ _) (zaH _ _)) (merge_asc _ A B (yag _) ha hb) k
 unfold twoS
 rw [hA, hB]
 dsimp only
 rw [hf]
 cases hq : (zaE A B).find? fun z => decide (z.1.key = k) with
 | some z =>
  have e : z.1.key = k := of_decide_eq_true (List.find?_some (p := fun z : Trm × List Pst => decide (z.1.key = k)) hq)
  dsimp only
  rw [hm z (List.mem_of_find?_eq_some hq), e]
 | none =>
  have hno : ∀ t, t ∈ A ∨ t ∈ B → ¬ t.key = k := fun t ht e => by
   obtain ⟨z, hz, e2⟩ := zdW _ A B (yag _) t ht
   have := List.find?_eq_none.1 hq z hz
   exact this (decide_eq_true (e2.trans e))
  have hn : ∀ {l : List Trm}, (∀ t ∈ l, ¬ t.key = k) → postsT l k = [] := fun {l} h => by
   unfold postsT
   rw [List.find?_eq_none.2 fun t ht => by simpa using h t ht]
  rw [hn fun t ht => hno t (.inl ht), hn fun t ht => hno t (.inr ht)]
  rfl
theorem zjr {docs : List Int} {t : Trm} (h : zax docs t = true) : ∀ p ∈ plT t, p.doc ∈ docs := by
 unfold zax at h
 rw [yaq] at h
 have h := h.2
 unfold zbx at h
 unfold plT
 cases hd : decP t.list with
 | none => rw [hd] at h; cases h
 | some l =>
  rw [hd] at h
  dsimp only at h
  rw [yaq, yaF] at h
  intro p hp
  exact of_decide_eq_true (h.2 p hp)
theorem zeJ {docs : List Int} {l : List Trm} (h : ∀ t ∈ l, zax docs t = true) {k : Int × List UInt8} {d : Int} (hd : atD (postsT l k) d ≠ []) : d ∈ docs := by
 have hm := (zhH (zaH l k) d).2 hd
 obtain ⟨p, hp, rfl⟩ := yay.1 hm
 obtain ⟨t, ht, _, e⟩ := zeY (l := l) (k := k) (fun e => by rw [e] at hp; cases hp)
 exact zjr (h t ht) p (by rw [e]; exact hp)
theorem zcJ (a b : Sgm) (dead : List Int) : rightS (twoS a b dead) = true := by
 have ha := zah.1 (zcY a)
 have hb := zah.1 (zcY b)
 have hm := zbu _ (validS a).terms (validS b).terms (yag _) ha.2.2 hb.2.2
 have hp := merge_asc _ (validS a).terms (validS b).terms (yag _) ha.2.2 hb.2.2
 unfold twoS
 generalize validS a = A at *
 generalize validS b = B at *
 refine zah.2 ⟨⟨asc_sortD stoI _, fun n hn => ?_⟩, fun t ht => ?_, ?_⟩
 ·have hn := (zbd stoI _ _).1 hn
  rcases yaj.1 (yav.1 hn).1 with h | h
  ·exact ha.1.2 n h
  exact hb.1.2 n h
 ·obtain ⟨z, hz, he⟩ := List.mem_filterMap.1 ht
  have hne : liveP dead z.2 ≠ [] := fun e => by unfold termOf at he; rw [if_pos e] at he; cases he
  have hte : t = ⟨z.1.field, z.1.word, encP (liveP dead z.2)⟩ := by unfold termOf at he; rw [if_neg hne] at he; injection he with he; exact he.symm
  have hzr : zan z.2 = true := by rw [hm z hz]; exact zdV (zaH _ _) (zaH _ _)
  have hfw : decide (1 ≤ z.1.field ∧ z.1.field ≤ 5) = true ∧ decide (wordsOf z.1.word = [z.1.word]) = true := by
   rcases merge_mem _ A.terms B.terms (yag _) z hz with ⟨u, hu, e⟩ | ⟨u, hu, e⟩
   ·have h := ha.2.1 u hu
    unfold zax at h
    rw [yaq, yaq] at h
    unfold Trm.key at e
    injection e with e1 e2
    rw [← e1, ← e2]; exact h.1
   have h := hb.2.1 u hu
   unfold zax at h
   rw [yaq, yaq] at h
   unfold Trm.key at e
   injection e with e1 e2
   rw [← e1, ← e2]; exact h.1
  rw [hte]
  unfold zax
  rw [yaq, yaq]
  refine ⟨hfw, ?_⟩
  unfold zbx
  dsimp only
  rw [zes (right_live dead hzr)]
  dsimp only
  rw [yaq, yaF]
  refine ⟨by cases hl : liveP dead z.2 with | nil => exact absurd hl hne | cons => rfl, fun x hx => decide_eq_true ?_⟩
  obtain ⟨hx1, hx2⟩ := yav.1 hx
  refine (zbd stoI _ _).2 (yav.2 ⟨?_, hx2⟩)
  have h1 := (zhH hzr x.doc).1 (yax hx1)
  rw [hm z hz, zhP (zaH _ _) (zaH _ _)] at h1
  rw [yaj]
  by_cases h2 : atD (postsT A.terms z.1.key) x.doc = []
  ·right
   refine zeJ hb.2.1 (k := z.1.key) fun h3 => h1 ?_
   rw [zgP]; exact ⟨h2, h3⟩
  exact .inl (zeJ ha.2.1 h2)
 refine List.Pairwise.filterMap (termOf dead) (fun y z h b1 h1 b2 h2 => ?_) hp
 have key : ∀ {q : Trm × List Pst} {t : Trm}, termOf dead q = some t → t.key = q.1.key := fun {q t} e => by
  unfold termOf at e
  split at e
  ·cases e
  injection e with e; rw [← e]
 rw [key h1, key h2]; exact h
theorem zhs (a b : Sgm) (dead : List Int) (d : Int) : d ∈ (twoS a b dead).docs ↔ (d ∈ (validS a).docs ∨ d ∈ (validS b).docs) ∧ d ∉ dead := by
 unfold twoS
 dsimp only
 unfold sortI
 rw [zbd stoI, yav, yaj]
 simp
theorem zbF {s : Sgm} (h : rightS s = true) : validS s = s := if_pos h
theorem zif (dead : List Int) : ∀ (l : List Pst) (d : Int), atD (liveP dead l) d = if d ∈ dead then [] else atD l d
 | [], d => by simp [liveP, atD]
 | p :: l, d => by
  have ih := zif dead l d
  unfold liveP at ih ⊢
  rw [ybq]
  by_cases hp : p.doc ∈ dead
  ·rw [if_neg (by simp [hp]), ih, atD_cons]
   by_cases hd : d ∈ dead
   ·rw [if_pos hd, if_pos hd]
   rw [if_neg hd, if_neg hd, if_neg (fun e : p.doc = d => hd (e ▸ hp))]
  rw [if_pos (by simp [hp]), atD_cons, ih, atD_cons]
  by_cases he : p.doc = d
  ·rw [if_pos he, if_pos he, if_neg (he ▸ hp)]
  rw [if_neg he, if_neg he]
end Go.Proofs.YtennokckmjcefaaGreatDoor
namespace Go.Vc
open Go Go.Pw Go.RowKit
section
variable {P : Program} {n : Nat} {K : Exit → Fr → World → Prop} {ps : Array Tmp} {assign body : Code} {t : List It} {g : Operand} {fg : Nat → Value} {dl : DL} {w : World} {gf : Nat} {lb : Array Value} {α : Type}
theorem Range.introN (enc : α → List Value) (hg : ev ⟨fg, dl⟩ g = .func (.func gf) #[] lb) (hgf : ∀ args w, (callFunc gf args).run P w = .ok (.enter gf args) w)
  (hpa : zbp assign = true) (hpb : zbp body = true) (hps : (ps.toList.all fun p => Nat.ble (p + 1) n) = true) (hen : ∀ x, (enc x).length = ps.size)
  (cI : Nat → Prop) (hcI : ∀ b, cI b → b ≠ w.heap.size ∧ b ≠ w.heap.size + 1) (I : List α → World → Prop) (Ix : Code → List α → World → Prop) (S : List α → Prop) (Nx : List α → α → World → Prop)
  (hI : ∀ pre W W', I pre W → w.heap.size + 2 ≤ W.heap.size → Kp W W' (fun b => cI b ∨ b = w.heap.size + 1) → I pre W')
  (hIx : ∀ c pre W W', Ix c pre W → w.heap.size + 2 ≤ W.heap.size → Kp W W' (fun b => cI b ∨ b = w.heap.size + 1) → Ix c pre W')
  (h0 : ∀ W, Kp w W n_ → W.heap.size = w.heap.size + 2 → I [] W)
  (iter : ∀ J Jx : List α → World → Prop, (∀ pre W, J pre W → I pre W ∧ w.heap.size + 2 ≤ W.heap.size) → (∀ pre W W', J pre W → Kp W W' cI → J pre W') → (∀ pre W W', Jx pre W → Kp W W' cI → Jx pre W') →
   (∀ pre x W, J pre W → Nx pre x W → YieldS P (w.heap.size + 1) (enc x) W fun v W' => (v = .bool true ∧ J (pre ++ [x]) W' ∧ SameB cI W W') ∨ (v = .bool false ∧ Jx (pre ++ [x]) W')) →
   ∀ W, Kp w W n_ → W.heap.size = w.heap.size + 2 → J [] W → Calls P gf (#[.func (.yield (w.heap.size + 1)) #[] #[]] ++ lb) W fun e W' => (∃ v, e = .returned v) ∧ ((∃ xs, S xs ∧ J xs W') ∨ ∃ pre, Jx pre W'))
  (round : ∀ pre x W, I pre W → Nx pre x W → w.heap.size + 2 ≤ W.heap.size → Sat P n (asgK P n w.heap.size (fun p W' => I p W' ∧ SameB cI W W') Ix (pre ++ [x]) W body) .normal [.code assign] (putPs ps.toList (enc x) ⟨fg, .nil⟩) W)
  (done : ∀ xs W, S xs → I xs W → w.heap.size + 2 ≤ W.heap.size → W.heap[w.heap.size]? = some (.deferred (some [])) → Sat P n K .normal t ⟨fg, .of (w.heap.size :: dl.toL)⟩ W)
  (stop : ∀ c pre W, Ix c pre W → w.heap.size + 2 ≤ W.heap.size → W.heap[w.heap.size]? = some (.deferred (some [])) → Sat P n K .normal (.code c :: t) ⟨fg, .of (w.heap.size :: dl.toL)⟩ W) :
  Range P n K g ps assign body t ⟨fg, dl⟩ w := by
 refine ⟨fun hf r hr => ?_⟩
 obtain rfl : r = none := by
  rcases hr with h | h
  ·exact h
  cases h
 refine wpIn_rangeFunc ?_
 intro fn _
 generalize hD : w.heap.size = D at *
 obtain ⟨rec, hrec⟩ : ∃ rec : Go.Loop, rec = { state := .ready, pending := none, fn := fn, tmps := frArr n ⟨fg, dl⟩, params := ps, assign := assign, body := body, defers := D } := ⟨_, rfl⟩
 obtain ⟨W1, hW1⟩ : ∃ W1, (w.alloc (.deferred (some []))).alloc (.loop rec) = W1 := ⟨_, rfl⟩
 have hs1 : W1.heap.size = D + 2 := by rw [← hW1]; simp [hD]
 have hk1 : Kp w W1 n_ := by rw [← hW1]; exact ((Yb w n_).alloc _).alloc _
 have hL1 : W1.heap[D + 1]? = some (.loop rec) := by
  rw [← hW1, ← hD]; have := World.alloc_heap_new (w.alloc (.deferred (some []))) (.loop rec); rwa [World.size_alloc] at this
 have hD1 : W1.heap[D]? = some (.deferred (some [])) := by
  rw [← hW1, ← hD]; exact (Below.heap_alloc _ _ _ (by simp)).trans (World.alloc_heap_new w _)
 refine ⟨D + 1, [{ target := .collected D, args := #[] }], W1, { target := .fn (.func gf) lb, args := #[.func (.yield (D + 1)) #[] #[]] }, W1, gf,
  #[.func (.yield (D + 1)) #[] #[]] ++ lb, W1, ?_, ?_, fun _ _ => trivial, ?_, fun h => by simp [RW, Fence.wide] at h, ?_⟩
 ·have := run_enterLoop_outer (P := P) (w := w) fn (frArr n ⟨fg, dl⟩) ps assign body
  rw [hD, ← hrec, hW1] at this
  exact this
 ·have he : (act n ⟨fg, dl⟩).eval g = .func (.func gf) #[] lb := by rw [zcp hf]; exact hg
  simp only [resolve, he]
  simp [go_sem]
 ·simp [invoke, go_sem, hgf]
 refine zhI ?_
 have keepL : ∀ {W W' : World} {k : Nat} {o : Obj}, Kp W W' cI → W.heap[k]? = some o → k = D ∨ k = D + 1 → W'.heap[k]? = some o := fun {W W' k o} hk ho hle =>
  (hk.block k (Array.getElem?_eq_some_iff.1 ho).1 (fun h => by have := hcI _ h; omega)).trans ho
 have hlt : ∀ {W : World} {k : Nat} {o : Obj}, W.heap[k]? = some o → k < W.heap.size := fun ho => (Array.getElem?_eq_some_iff.1 ho).1
 refine (iter (fun pre W => I pre W ∧ W.heap[D + 1]? = some (.loop rec) ∧ W.heap[D]? = some (.deferred (some [])))
  (fun pre W => ∃ c, Ix c pre W ∧ W.heap[D + 1]? = some (.loop { rec with state := .done, pending := some c }) ∧ W.heap[D]? = some (.deferred (some [])))
  (fun pre W h => ⟨h.1, by have := hlt h.2.1; omega⟩)
  (fun pre W W' h k => ⟨hI pre W W' h.1 (by have := hlt h.2.1; omega) (k.mono fun _ _ h => .inl h), keepL k h.2.1 (.inr rfl), keepL k h.2.2 (.inl rfl)⟩)
  (fun pre W W' h k => by
   obtain ⟨c, h1, h2, h3⟩ := h
   exact ⟨c, hIx c pre W W' h1 (by have := hlt h2; omega) (k.mono fun _ _ h => .inl h), keepL k h2 (.inr rfl), keepL k h3 (.inl rfl)⟩)
  ?_ W1 hk1 hs1 ⟨h0 W1 hk1 hs1, hL1, hD1⟩).mono ?_
 ·rintro pre x W ⟨hi, hl, hd⟩ hnx
  have hsz : D + 2 ≤ W.heap.size := by have := hlt hl; omega
  refine zkE hf hrec hl (hen x) hps hpa hpb (round pre x W hi hnx hsz) ?_ ?_
  ·rintro W3 W4 h3 h4 h5 rfl
   have hs3 := hlt h3
   refine .inl ⟨rfl, ⟨hI _ _ _ h5.1 OM ((zaT _ _ _).mono fun b _ h => .inr h), World.putObj_heap_same hs3, (World.putObj_heap_other OM).trans (h4.trans hd)⟩, fun b hb => ?_⟩
   have := hcI b hb
   exact (World.putObj_heap_other OM).trans (h5.2 b hb)
  rintro c W3 W4 h3 h4 h5 rfl
  have hs3 := hlt h3
  refine .inr ⟨rfl, c, hIx _ _ _ _ h5 OM ((zaT _ _ _).mono fun b _ h => .inr h), World.putObj_heap_same hs3, ?_⟩
  exact (World.putObj_heap_other OM).trans (h4.trans hd)
 rintro e W2 ⟨⟨v, rfl⟩, (⟨xs, hS, hi, hl, hd⟩ | ⟨pre, c, hi, hl, hd⟩)⟩
 ·have hsz := hlt hl
  refine ⟨none, _, by have := run_endLoop (P := P) hl (by rw [hrec]; simp); rw [show rec.pending = none from by rw [hrec]] at this; exact this, ?_⟩
  have h1 := done xs (W2.putObj (D + 1) (.loop { rec with state := .exhausted, pending := none })) hS (hI _ _ _ hi OM ((zaT _ _ _).mono fun b _ h => .inr h)) (by rw [zbI]; omega) ((World.putObj_heap_other OM).trans hd)
  exact ⟨⟨fg, .of (D :: dl.toL)⟩, hf, rfl, h1.h hf⟩
 have hsz := hlt hl
 refine ⟨some c, _, run_endLoop (P := P) hl (by simp), ?_⟩
 have h1 := stop c pre (W2.putObj (D + 1) (.loop { rec with state := .exhausted, pending := some c })) (hIx _ _ _ _ hi OM ((zaT _ _ _).mono fun b _ h => .inr h)) (by rw [zbI]; omega) ((World.putObj_heap_other OM).trans hd)
 exact (h1.h hf : c.wpX P (LiftE n (after P n t K)) (act n ⟨fg, .of (D :: dl.toL)⟩) _) none (.inl rfl)
end
end Go.Vc
