/- Helper lemmas that the proved statement rests on; no conditions of their own. -/
import Derived.Test.YtennokckmjcefaaGreatDoorGMh6
set_option linter.unusedVariables false
namespace Go.Proofs.YtennokckmjcefaaGreatDoor
open Go.Shelf Go.RowKit Go.Pw Go.Vc Go.Cs Go.Lib Go.Cd Go.Mg
theorem zeB {l : List Pst} (dead : List Int) (h : rightP l = true) : rightP (liveP dead l) = true := by
 have h := zaA.1 h
 exact zaA.2 ⟨List.Pairwise.filter _ h.1, fun p hp => h.2 p (List.mem_filter.1 hp).1⟩
theorem zly {f : Int} {wd : List UInt8} {l : List Pst} (h : rightP l = true) : plT ⟨f, wd, encP l⟩ = l := by
 unfold plT
 dsimp only
 rw [zed h]; rfl
theorem zkW (dead : List Int) : ∀ (L : List (Trm × List Pst)), (∀ z ∈ L, rightP z.2 = true) → L.Pairwise (fun y z => ltK y.1.key z.1.key = true) → ∀ k,
  postsT (L.filterMap (termOf dead)) k = match L.find? (fun z => decide (z.1.key = k)) with | some z => liveP dead z.2 | none => []
 | [], _, _, k => rfl
 | z :: L, hr, hp, k => by
  have hc := List.pairwise_cons.1 hp
  have ih := zkW dead L (fun y hy => hr y (List.mem_cons_of_mem _ hy)) hc.2 k
  rw [List.filterMap_cons, List.find?_cons]
  by_cases hk : z.1.key = k
  ·rw [decide_eq_true hk]
   by_cases hn : liveP dead z.2 = []
   ·have hno : L.find? (fun y => decide (y.1.key = k)) = none := List.find?_eq_none.2 fun y hy => by
     simp only [decide_eq_true_eq]
     intro e
     exact zdH (hc.1 y hy) (by rw [hk, e])
    unfold termOf
    rw [if_pos hn]
    dsimp only
    unfold termOf at ih
    rw [ih, hno, hn]
   ·have ht : termOf dead z = some ⟨z.1.field, z.1.word, encP (liveP dead z.2)⟩ := if_neg hn
    rw [ht]
    dsimp only
    rw [zaF, if_pos hk, zly (zeB dead (hr z List.mem_cons_self))]
  ·rw [decide_eq_false hk]
   by_cases hn : liveP dead z.2 = []
   ·have ht : termOf dead z = none := if_pos hn
    rw [ht]
    exact ih
   ·have ht : termOf dead z = some ⟨z.1.field, z.1.word, encP (liveP dead z.2)⟩ := if_neg hn
    rw [ht]
    dsimp only
    rw [zaF, if_neg hk]
    exact ih
theorem zca : ∀ (n : Nat) (a b : List Trm), a.length + b.length ≤ n → AscK a → AscK b → (mergeT a b).Pairwise fun y z => ltK y.1.key z.1.key = true
 | _, [], [], _, _, _ => by rw [zcz]; exact .nil
 | 0, x :: a, b, h, _, _ => by simp at h
 | 0, [], y :: b, h, _, _ => by simp at h
 | n + 1, x :: a, [], h, ha, hb => by
  have hc := List.pairwise_cons.1 ha
  have hl : a.length + ([] : List Trm).length ≤ n := by simp at h ⊢; omega
  rw [zbZ, List.pairwise_cons]
  refine ⟨fun z hz => ?_, zca n a [] hl hc.2 hb⟩
  rcases merge_mem n a [] hl z hz with ⟨t, ht, e⟩ | ⟨t, ht, _⟩
  ·rw [← e]; exact hc.1 t ht
  ·cases ht
 | n + 1, [], y :: b, h, ha, hb => by
  have hc := List.pairwise_cons.1 hb
  have hl : ([] : List Trm).length + b.length ≤ n := by simp at h ⊢; omega
  rw [zcA, List.pairwise_cons]
  refine ⟨fun z hz => ?_, zca n [] b hl ha hc.2⟩
  rcases merge_mem n [] b hl z hz with ⟨t, ht, _⟩ | ⟨t, ht, e⟩
  ·cases ht
  ·rw [← e]; exact hc.1 t ht
 | n + 1, x :: a, y :: b, h, ha, hb => by
  have hca := List.pairwise_cons.1 ha
  have hcb := List.pairwise_cons.1 hb
  have l1 := zfk x y
  have l2 := zjI x y
  simp only [List.length_cons] at h
  rw [zbW]
  by_cases h1 : cmpT x y < 0
  ·have hxy := l1.1 h1
   have hl : a.length + (y :: b).length ≤ n := by rw [List.length_cons]; omega
   rw [if_pos h1, List.pairwise_cons]
   refine ⟨fun z hz => ?_, zca n a (y :: b) hl hca.2 hb⟩
   rcases merge_mem n a (y :: b) hl z hz with ⟨t, ht, e⟩ | ⟨t, ht, e⟩
   ·rw [← e]; exact hca.1 t ht
   ·rw [← e]
    rcases List.mem_cons.1 ht with rfl | ht
    ·exact hxy
    ·exact stoK.tr _ _ _ hxy (hcb.1 t ht)
  ·by_cases h2 : cmpT x y = 0
   ·have he := l2.1 h2
    have hl : a.length + b.length ≤ n := by omega
    rw [if_neg h1, if_pos h2, List.pairwise_cons]
    refine ⟨fun z hz => ?_, zca n a b hl hca.2 hcb.2⟩
    rcases merge_mem n a b hl z hz with ⟨t, ht, e⟩ | ⟨t, ht, e⟩
    ·rw [← e, ← he]; exact hca.1 t ht
    ·rw [← e]; exact hcb.1 t ht
   ·have hyx : ltK y.key x.key = true := by
     cases hk : ltK y.key x.key with
     | true => rfl
     | false => exact absurd (l2.2 (stoK.tri _ _ (by cases hq : ltK x.key y.key with | false => rfl | true => exact absurd (l1.2 hq) h1) hk)) h2
    have hl : (x :: a).length + b.length ≤ n := by rw [List.length_cons]; omega
    rw [if_neg h1, if_neg h2, List.pairwise_cons]
    refine ⟨fun z hz => ?_, zca n (x :: a) b hl ha hcb.2⟩
    rcases merge_mem n (x :: a) b hl z hz with ⟨t, ht, e⟩ | ⟨t, ht, e⟩
    ·rw [← e]
     rcases List.mem_cons.1 ht with rfl | ht
     ·exact hyx
     ·exact stoK.tr _ _ _ hyx (hca.1 t ht)
    ·rw [← e]; exact hcb.1 t ht
theorem zdJ : ∀ (n : Nat) (a b : List Trm), a.length + b.length ≤ n → ∀ t, t ∈ a ∨ t ∈ b → ∃ z ∈ mergeT a b, z.1.key = t.key
 | _, [], [], _, t, ht => by rcases ht with h | h <;> cases h
 | 0, x :: a, b, h, _, _ => by simp at h
 | 0, [], y :: b, h, _, _ => by simp at h
 | n + 1, x :: a, [], h, t, ht => by
  have hl : a.length + ([] : List Trm).length ≤ n := by simp at h ⊢; omega
  rw [zbZ]
  rcases ht with ht | ht
  ·rcases List.mem_cons.1 ht with rfl | ht
   ·exact ⟨_, List.mem_cons_self, rfl⟩
   ·obtain ⟨z, hz, e⟩ := zdJ n a [] hl t (.inl ht)
    exact ⟨z, List.mem_cons_of_mem _ hz, e⟩
  ·cases ht
 | n + 1, [], y :: b, h, t, ht => by
  have hl : ([] : List Trm).length + b.length ≤ n := by simp at h ⊢; omega
  rw [zcA]
  rcases ht with ht | ht
  ·cases ht
  ·rcases List.mem_cons.1 ht with rfl | ht
   ·exact ⟨_, List.mem_cons_self, rfl⟩
   ·obtain ⟨z, hz, e⟩ := zdJ n [] b hl t (.inr ht)
    exact ⟨z, List.mem_cons_of_mem _ hz, e⟩
 | n + 1, x :: a, y :: b, h, t, ht => by
  simp only [List.length_cons] at h
  have l2 := zjI x y
  have up : ∀ {a' b' : List Trm} {q : Trm × List Pst}, a'.length + b'.length ≤ n → t ∈ a' ∨ t ∈ b' → ∃ z ∈ q :: mergeT a' b', z.1.key = t.key := fun hl hm => by
   obtain ⟨z, hz, e⟩ := zdJ n _ _ hl t hm
   exact ⟨z, List.mem_cons_of_mem _ hz, e⟩
  rw [zbW]
  by_cases h1 : cmpT x y < 0
  ·rw [if_pos h1]
   rcases ht with ht | ht
   ·rcases List.mem_cons.1 ht with rfl | ht
    ·exact ⟨_, List.mem_cons_self, rfl⟩
    ·exact up (by rw [List.length_cons]; omega) (.inl ht)
   ·exact up (by rw [List.length_cons]; omega) (.inr ht)
  ·by_cases h2 : cmpT x y = 0
   ·rw [if_neg h1, if_pos h2]
    rcases ht with ht | ht <;> rcases List.mem_cons.1 ht with rfl | ht
    ·exact ⟨_, List.mem_cons_self, (l2.1 h2).symm⟩
    ·exact up (by omega) (.inl ht)
    ·exact ⟨_, List.mem_cons_self, rfl⟩
    ·exact up (by omega) (.inr ht)
   ·rw [if_neg h1, if_neg h2]
    rcases ht with ht | ht
    ·exact up (by rw [List.length_cons]; omega) (.inl ht)
    ·rcases List.mem_cons.1 ht with rfl | ht
     ·exact ⟨_, List.mem_cons_self, rfl⟩
     ·exact up (by rw [List.length_cons]; omega) (.inr ht)
theorem zpa (a b : Sgm) (dead : List Int) (k : Int × List UInt8) : postsT (twoS a b dead).terms k = liveP dead (orP (postsT (validS a).terms k) (postsT (validS b).terms k)) := by
 have ha := (zan.1 (zcN a)).2.2
 have hb := (zan.1 (zcN b)).2.2
 generalize hA : (validS a).terms = A at *
 generalize hB : (validS b).terms = B at *
 have hm := zbk _ A B (Nat.le_refl _) ha hb
 have hf := zkW dead (mergeT A B) (fun z hz => by rw [hm z hz]; exact zdI (zaK _ _) (zaK _ _)) (zca _ A B (Nat.le_refl _) ha hb) k
 unfold twoS
 rw [hA, hB]
 dsimp only
 rw [hf]
 cases hq : (mergeT A B).find? fun z => decide (z.1.key = k) with
 | some z =>
  have e : z.1.key = k := of_decide_eq_true (List.find?_some (p := fun z : Trm × List Pst => decide (z.1.key = k)) hq)
  dsimp only
  rw [hm z (List.mem_of_find?_eq_some hq), e]
 | none =>
  have hno : ∀ t, t ∈ A ∨ t ∈ B → ¬ t.key = k := fun t ht e => by
   obtain ⟨z, hz, e2⟩ := zdJ _ A B (Nat.le_refl _) t ht
   have := List.find?_eq_none.1 hq z hz
   exact this (decide_eq_true (e2.trans e))
  have hn : ∀ {l : List Trm}, (∀ t ∈ l, ¬ t.key = k) → postsT l k = [] := fun {l} h => by
   unfold postsT
   rw [List.find?_eq_none.2 fun t ht => by simpa using h t ht]
  rw [hn fun t ht => hno t (.inl ht), hn fun t ht => hno t (.inr ht)]
  rfl
theorem zji {docs : List Int} {t : Trm} (h : okTerm docs t = true) : ∀ p ∈ plT t, p.doc ∈ docs := by
 unfold okTerm at h
 rw [Bool.and_eq_true] at h
 have h := h.2
 unfold okList at h
 unfold plT
 cases hd : decP t.list with
 | none => rw [hd] at h; cases h
 | some l =>
  rw [hd] at h
  dsimp only at h
  rw [Bool.and_eq_true, List.all_eq_true] at h
  intro p hp
  exact of_decide_eq_true (h.2 p hp)
theorem zet {docs : List Int} {l : List Trm} (h : ∀ t ∈ l, okTerm docs t = true) {k : Int × List UInt8} {d : Int} (hd : atD (postsT l k) d ≠ []) : d ∈ docs := by
 have hm := (zhu (zaK l k) d).2 hd
 obtain ⟨p, hp, rfl⟩ := List.mem_map.1 hm
 obtain ⟨t, ht, _, e⟩ := zeM (l := l) (k := k) (fun e => by rw [e] at hp; cases hp)
 exact zji (h t ht) p (by rw [e]; exact hp)
theorem zcw (a b : Sgm) (dead : List Int) : rightS (twoS a b dead) = true := by
 have ha := zan.1 (zcN a)
 have hb := zan.1 (zcN b)
 have hm := zbk _ (validS a).terms (validS b).terms (Nat.le_refl _) ha.2.2 hb.2.2
 have hp := zca _ (validS a).terms (validS b).terms (Nat.le_refl _) ha.2.2 hb.2.2
 unfold twoS
 generalize validS a = A at *
 generalize validS b = B at *
 refine zan.2 ⟨⟨zbs stoI _, fun n hn => ?_⟩, fun t ht => ?_, ?_⟩
 ·have hn := (zbb stoI _ _).1 hn
  rcases List.mem_append.1 (List.mem_filter.1 hn).1 with h | h
  ·exact ha.1.2 n h
  ·exact hb.1.2 n h
 ·obtain ⟨z, hz, he⟩ := List.mem_filterMap.1 ht
  have hne : liveP dead z.2 ≠ [] := fun e => by unfold termOf at he; rw [if_pos e] at he; cases he
  have hte : t = ⟨z.1.field, z.1.word, encP (liveP dead z.2)⟩ := by unfold termOf at he; rw [if_neg hne] at he; injection he with he; exact he.symm
  have hzr : rightP z.2 = true := by rw [hm z hz]; exact zdI (zaK _ _) (zaK _ _)
  have hfw : decide (1 ≤ z.1.field ∧ z.1.field ≤ 5) = true ∧ decide (wordsOf z.1.word = [z.1.word]) = true := by
   rcases merge_mem _ A.terms B.terms (Nat.le_refl _) z hz with ⟨u, hu, e⟩ | ⟨u, hu, e⟩
   ·have h := ha.2.1 u hu
    unfold okTerm at h
    rw [Bool.and_eq_true, Bool.and_eq_true] at h
    unfold Trm.key at e
    injection e with e1 e2
    rw [← e1, ← e2]; exact h.1
   ·have h := hb.2.1 u hu
    unfold okTerm at h
    rw [Bool.and_eq_true, Bool.and_eq_true] at h
    unfold Trm.key at e
    injection e with e1 e2
    rw [← e1, ← e2]; exact h.1
  rw [hte]
  unfold okTerm
  rw [Bool.and_eq_true, Bool.and_eq_true]
  refine ⟨hfw, ?_⟩
  unfold okList
  dsimp only
  rw [zed (zeB dead hzr)]
  dsimp only
  rw [Bool.and_eq_true, List.all_eq_true]
  refine ⟨by cases hl : liveP dead z.2 with | nil => exact absurd hl hne | cons => rfl, fun x hx => decide_eq_true ?_⟩
  obtain ⟨hx1, hx2⟩ := List.mem_filter.1 hx
  refine (zbb stoI _ _).2 (List.mem_filter.2 ⟨?_, hx2⟩)
  have h1 := (zhu hzr x.doc).1 (List.mem_map_of_mem hx1)
  rw [hm z hz, zhD (zaK _ _) (zaK _ _)] at h1
  rw [List.mem_append]
  by_cases h2 : atD (postsT A.terms z.1.key) x.doc = []
  ·right
   refine zet hb.2.1 (k := z.1.key) fun h3 => h1 ?_
   rw [zgJ]; exact ⟨h2, h3⟩
  ·exact .inl (zet ha.2.1 h2)
 ·refine List.Pairwise.filterMap (termOf dead) (fun y z h b1 h1 b2 h2 => ?_) hp
  have key : ∀ {q : Trm × List Pst} {t : Trm}, termOf dead q = some t → t.key = q.1.key := fun {q t} e => by
   unfold termOf at e
   split at e
   ·cases e
   ·injection e with e; rw [← e]
  rw [key h1, key h2]; exact h
theorem zeo (a b : Sgm) (dead : List Int) (d : Int) : d ∈ (twoS a b dead).docs ↔ (d ∈ (validS a).docs ∨ d ∈ (validS b).docs) ∧ d ∉ dead := by
 unfold twoS
 dsimp only
 unfold sortI
 rw [zbb stoI, List.mem_filter, List.mem_append]
 simp
theorem zoi (a b : Sgm) (dead : List Int) : AscB ltI (twoS a b dead).docs := zbs stoI _
theorem zaV {s : Sgm} (h : rightS s = true) : validS s = s := if_pos h
theorem zhR (dead : List Int) : ∀ (l : List Pst) (d : Int), atD (liveP dead l) d = if d ∈ dead then [] else atD l d
 | [], d => by simp [liveP, atD]
 | p :: l, d => by
  have ih := zhR dead l d
  unfold liveP at ih ⊢
  rw [List.filter_cons]
  by_cases hp : p.doc ∈ dead
  ·rw [if_neg (by simp [hp]), ih, zaM]
   by_cases hd : d ∈ dead
   ·rw [if_pos hd, if_pos hd]
   ·rw [if_neg hd, if_neg hd, if_neg (fun e : p.doc = d => hd (e ▸ hp))]
  ·rw [if_pos (by simp [hp]), zaM, ih, zaM]
   by_cases he : p.doc = d
   ·rw [if_pos he, if_pos he, if_neg (he ▸ hp)]
   ·rw [if_neg he, if_neg he]
end Go.Proofs.YtennokckmjcefaaGreatDoor
namespace Go.Vc
open Go Go.Pw Go.RowKit
section
variable {P : Program} {n : Nat} {K : Exit → Fr → World → Prop} {ps : Array Tmp} {assign body : Code} {t : List It} {g : Operand} {fg : Nat → Value} {dl : DL} {w : World} {gf : Nat} {lb : Array Value} {α : Type}
theorem Range.introN (enc : α → List Value) (hg : ev ⟨fg, dl⟩ g = .func (.func gf) #[] lb) (hgf : ∀ args w, (callFunc gf args).run P w = .ok (.enter gf args) w)
  (hpa : plainC assign = true) (hpb : plainC body = true) (hps : (ps.toList.all fun p => Nat.ble (p + 1) n) = true) (hen : ∀ x, (enc x).length = ps.size)
  (cI : Nat → Prop) (hcI : ∀ b, cI b → b ≠ w.heap.size ∧ b ≠ w.heap.size + 1) (I : List α → World → Prop) (Ix : Code → List α → World → Prop) (S : List α → Prop) (Nx : List α → α → World → Prop)
  (hI : ∀ pre W W', I pre W → w.heap.size + 2 ≤ W.heap.size → Kp W W' (fun b => cI b ∨ b = w.heap.size + 1) → I pre W')
  (hIx : ∀ c pre W W', Ix c pre W → w.heap.size + 2 ≤ W.heap.size → Kp W W' (fun b => cI b ∨ b = w.heap.size + 1) → Ix c pre W')
  (h0 : ∀ W, Kp w W n_ → W.heap.size = w.heap.size + 2 → I [] W)
  (iter : ∀ J Jx : List α → World → Prop, (∀ pre W, J pre W → I pre W ∧ w.heap.size + 2 ≤ W.heap.size) → (∀ pre W W', J pre W → Kp W W' cI → J pre W') → (∀ pre W W', Jx pre W → Kp W W' cI → Jx pre W') →
   (∀ pre x W, J pre W → Nx pre x W → YieldS P (w.heap.size + 1) (enc x) W fun v W' => (v = .bool true ∧ J (pre ++ [x]) W' ∧ SameB cI W W') ∨ (v = .bool false ∧ Jx (pre ++ [x]) W')) →
   ∀ W, Kp w W n_ → W.heap.size = w.heap.size + 2 → J [] W → Calls P gf (#[.func (.yield (w.heap.size + 1)) #[] #[]] ++ lb) W fun e W' => (∃ v, e = .returned v) ∧ ((∃ xs, S xs ∧ J xs W') ∨ ∃ pre, Jx pre W'))
  (round : ∀ pre x W, I pre W → Nx pre x W → w.heap.size + 2 ≤ W.heap.size → Sat P n (asgK P n w.heap.size (fun p W' => I p W' ∧ SameB cI W W') Ix (pre ++ [x]) W body) .normal [.code assign] (putPs ps.toList (enc x) ⟨fg, .nil⟩) W)
  (done : ∀ xs W, S xs → I xs W → w.heap.size + 2 ≤ W.heap.size → W.heap[w.heap.size]? = some (.deferred (some [])) → Sat P n K .normal t ⟨fg, .of (w.heap.size :: dl.toL)⟩ W)
  (stop : ∀ c pre W, Ix c pre W → w.heap.size + 2 ≤ W.heap.size → W.heap[w.heap.size]? = some (.deferred (some [])) → Sat P n K .normal (.code c :: t) ⟨fg, .of (w.heap.size :: dl.toL)⟩ W) :
  Range P n K g ps assign body t ⟨fg, dl⟩ w := by
 refine ⟨fun hf r hr => ?_⟩
 obtain rfl : r = none := by
  rcases hr with h | h
  ·exact h
  ·cases h
 refine wpIn_rangeFunc ?_
 intro fn _
 generalize hD : w.heap.size = D at *
 obtain ⟨rec, hrec⟩ : ∃ rec : Go.Loop, rec = { state := .ready, pending := none, fn := fn, tmps := frArr n ⟨fg, dl⟩, params := ps, assign := assign, body := body, defers := D } := ⟨_, rfl⟩
 obtain ⟨W1, hW1⟩ : ∃ W1, (w.alloc (.deferred (some []))).alloc (.loop rec) = W1 := ⟨_, rfl⟩
 have hs1 : W1.heap.size = D + 2 := by rw [← hW1]; simp [hD]
 have hk1 : Kp w W1 n_ := by rw [← hW1]; exact ((Kp.refl w n_).alloc _).alloc _
 have hL1 : W1.heap[D + 1]? = some (.loop rec) := by
  rw [← hW1, ← hD]; have := World.alloc_heap_new (w.alloc (.deferred (some []))) (.loop rec); rwa [World.size_alloc] at this
 have hD1 : W1.heap[D]? = some (.deferred (some [])) := by
  rw [← hW1, ← hD]; exact (Below.heap_alloc _ _ _ (by simp)).trans (World.alloc_heap_new w _)
 refine ⟨D + 1, [{ target := .collected D, args := #[] }], W1, { target := .fn (.func gf) lb, args := #[.func (.yield (D + 1)) #[] #[]] }, W1, gf,
  #[.func (.yield (D + 1)) #[] #[]] ++ lb, W1, ?_, ?_, fun _ _ => trivial, ?_, fun h => by simp [RW, Fence.wide] at h, ?_⟩
 ·have := run_enterLoop_outer (P := P) (w := w) fn (frArr n ⟨fg, dl⟩) ps assign body
  rw [hD, ← hrec, hW1] at this
  exact this
 ·have he : (act n ⟨fg, dl⟩).eval g = .func (.func gf) #[] lb := by rw [zbM hf]; exact hg
  simp only [resolve, he]
  simp [go_sem]
 ·simp [invoke, go_sem, hgf]
 ·refine zfa ?_
  have keepL : ∀ {W W' : World} {k : Nat} {o : Obj}, Kp W W' cI → W.heap[k]? = some o → k = D ∨ k = D + 1 → W'.heap[k]? = some o := fun {W W' k o} hk ho hle =>
   (hk.block k (Array.getElem?_eq_some_iff.1 ho).1 (fun h => by have := hcI _ h; omega)).trans ho
  have hlt : ∀ {W : World} {k : Nat} {o : Obj}, W.heap[k]? = some o → k < W.heap.size := fun ho => (Array.getElem?_eq_some_iff.1 ho).1
  refine (iter (fun pre W => I pre W ∧ W.heap[D + 1]? = some (.loop rec) ∧ W.heap[D]? = some (.deferred (some [])))
   (fun pre W => ∃ c, Ix c pre W ∧ W.heap[D + 1]? = some (.loop { rec with state := .done, pending := some c }) ∧ W.heap[D]? = some (.deferred (some [])))
   (fun pre W h => ⟨h.1, by have := hlt h.2.1; omega⟩)
   (fun pre W W' h k => ⟨hI pre W W' h.1 (by have := hlt h.2.1; omega) (k.mono fun _ _ h => .inl h), keepL k h.2.1 (.inr rfl), keepL k h.2.2 (.inl rfl)⟩)
   (fun pre W W' h k => by
    obtain ⟨c, h1, h2, h3⟩ := h
    exact ⟨c, hIx c pre W W' h1 (by have := hlt h2; omega) (k.mono fun _ _ h => .inl h), keepL k h2 (.inr rfl), keepL k h3 (.inl rfl)⟩)
   ?_ W1 hk1 hs1 ⟨h0 W1 hk1 hs1, hL1, hD1⟩).mono ?_
  ·rintro pre x W ⟨hi, hl, hd⟩ hnx
   have hsz : D + 2 ≤ W.heap.size := by have := hlt hl; omega
   refine zhg hf hrec hl (hen x) hps hpa hpb (round pre x W hi hnx hsz) ?_ ?_
   ·rintro W3 W4 h3 h4 h5 rfl
    have hs3 := hlt h3
    refine .inl ⟨rfl, ⟨hI _ _ _ h5.1 (by omega) ((zaz _ _ _).mono fun b _ h => .inr h), World.putObj_heap_same hs3, (World.putObj_heap_other (by omega)).trans (h4.trans hd)⟩, fun b hb => ?_⟩
    have := hcI b hb
    exact (World.putObj_heap_other (by omega)).trans (h5.2 b hb)
   ·rintro c W3 W4 h3 h4 h5 rfl
    have hs3 := hlt h3
    refine .inr ⟨rfl, c, hIx _ _ _ _ h5 (by omega) ((zaz _ _ _).mono fun b _ h => .inr h), World.putObj_heap_same hs3, ?_⟩
    exact (World.putObj_heap_other (by omega)).trans (h4.trans hd)
  ·rintro e W2 ⟨⟨v, rfl⟩, (⟨xs, hS, hi, hl, hd⟩ | ⟨pre, c, hi, hl, hd⟩)⟩
   ·have hsz := hlt hl
    refine ⟨none, _, by have := run_endLoop (P := P) hl (by rw [hrec]; simp); rw [show rec.pending = none from by rw [hrec]] at this; exact this, ?_⟩
    have h1 := done xs (W2.putObj (D + 1) (.loop { rec with state := .exhausted, pending := none })) hS (hI _ _ _ hi (by omega) ((zaz _ _ _).mono fun b _ h => .inr h)) (by rw [zbc]; omega) ((World.putObj_heap_other (by omega)).trans hd)
    exact ⟨⟨fg, .of (D :: dl.toL)⟩, hf, rfl, h1.h hf⟩
   ·have hsz := hlt hl
    refine ⟨some c, _, run_endLoop (P := P) hl (by simp), ?_⟩
    have h1 := stop c pre (W2.putObj (D + 1) (.loop { rec with state := .exhausted, pending := some c })) (hIx _ _ _ _ hi (by omega) ((zaz _ _ _).mono fun b _ h => .inr h)) (by rw [zbc]; omega) ((World.putObj_heap_other (by omega)).trans hd)
    exact (h1.h hf : c.wpX P (LiftE n (after P n t K)) (act n ⟨fg, .of (D :: dl.toL)⟩) _) none (.inl rfl)
end
set_option linter.unusedSectionVars false
section
variable {κ : Type} [DecidableEq κ] {enc : κ → Value} {P : Program} {w : World} {b r : Nat} {m left : GM κ} {t kt et : TypeId} {K : Value → World → Prop}
def GMapO (enc : κ → Value) (w : World) (b : Nat) (m : GM κ) : Prop := ∃ es clock, w.heap[b]? = some (.map es clock) ∧ es.toList.map entG = m.map (gmP enc) ∧ (es.toList.map (·.born)).Nodup ∧ ∀ e ∈ es.toList, e.born < clock
theorem GMapO.g (h : GMapO enc w b m) : GMap enc w b m := by obtain ⟨es, c, h1, h2, _⟩ := h; exact ⟨es, c, h1, h2⟩
theorem GMapO.keep {w' : World} {c : Nat → Prop} (h : GMapO enc w b m) (k : Kp w w' c) (hc : ¬ c b) : GMapO enc w' b m := by
 have hlt := h.g.lt
 obtain ⟨es, cl, hb, he⟩ := h
 exact ⟨es, cl, (k.block b hlt hc).trans hb, he⟩
theorem GMapO.new (w : World) : GMapO enc (w.alloc (.map #[] 0)) w.heap.size ([] : GM κ) := ⟨#[], 0, heap_alloc_new w _, rfl, List.nodup_nil, fun _ h => by cases h⟩
theorem zfi {es : List MapEntry} {d : Nat} {f : MapEntry → MapEntry} (hf : ∀ e, (f e).born = e.born) : (es.modify d f).map (·.born) = es.map (·.born) := by
 induction es generalizing d with
 | nil => simp
 | cons e es ih => cases d with
  | zero => simp [hf]
  | succ d => simp [ih]
theorem RunU.updGO {K : World → Prop} (ok : KeyOk P kt enc) (ht : P.underlying t = some (.map kt et)) (h : GMapO enc w b m) (s : κ) {e : Value} (he : e = enc s) (x : Value) (k : ∀ w', GMapO enc w' b (m.put s x) → Kp w w' (one_ b) → K w') :
  RunU P (Instr.mapUpdate t (.map (some b)) e x) w K := by
 subst he
 have hlt := h.g.lt
 obtain ⟨es, clock, hb, he, hnd, hlc⟩ := h
 cases hi : m.idx s 0 with
 | none =>
  obtain ⟨_, h2, _⟩ := GM.idx_none s m 0 hi
  refine ⟨_, ?_, k (setOG w b (.map (es.push { key := enc s, val := x, born := clock }) (clock + 1))) ⟨_, _, zcr _ hlt, ?_, ?_, ?_⟩ (zbY _)⟩
  ·simp [Instr.mapUpdate, zaJ ht, getObj, setObj, Sem.run, hb, ok.check, ok.find w s es.toList m he, hi, setOG]
  ·rw [h2 x]; simp [he, entG, gmP]
  ·simp only [Array.toList_push, List.map_append, List.map_cons, List.map_nil]
   refine List.nodup_append.2 ⟨hnd, by simp, ?_⟩
   intro a ha c hc e
   simp only [List.mem_singleton] at hc
   obtain ⟨e', h1, h2⟩ := List.mem_map.1 ha
   have := hlc e' h1
   omega
  ·intro e' h'
   simp only [Array.toList_push, List.mem_append, List.mem_singleton] at h'
   rcases h' with h' | rfl
   ·have := hlc e' h'; omega
   ·exact Nat.lt_succ_self _
 | some jv =>
  obtain ⟨j, v⟩ := jv
  obtain ⟨d, rfl, hd, _, hkey, hmod, _⟩ := GM.idx_some s es.toList m 0 j v he hi
  refine ⟨_, ?_, k (setOG w b (.map (es.modify d fun e => { e with key := enc s, val := x }) clock)) ⟨_, _, zcr _ hlt, ?_, ?_, ?_⟩ (zbY _)⟩
  ·have hk2 : ((es[d]?).map (·.key)).getD (enc s) = enc s := by
    rw [show es[d]? = es.toList[d]? from by simp, hkey]; rfl
   simp only [Instr.mapUpdate, Sem.run_bind, zaJ ht, Result.andThen_ok, getObj, Sem.run, hb, ok.check, ok.find w s es.toList m he, hi]
   simp [Instr.keyThatStays, hk2, ok.bits, setObj, Sem.run, setOG, hb]
  ·rw [Array.toList_modify]; exact hmod x
  ·rw [Array.toList_modify, zfi (f := fun e => { e with key := enc s, val := x }) (fun _ => rfl)]; exact hnd
  ·intro e' h'
   rw [Array.toList_modify] at h'
   have : e'.born ∈ (es.toList.modify d fun e => { e with key := enc s, val := x }).map (·.born) := List.mem_map_of_mem h'
   rw [zfi (f := fun e => { e with key := enc s, val := x }) (fun _ => rfl)] at this
   obtain ⟨e2, h1, h2⟩ := List.mem_map.1 this
   rw [← h2]; exact hlc e2 h1
def GRange (enc : κ → Value) (w : World) (b r : Nat) (left : GM κ) : Prop := ∃ es clock seen, w.heap[b]? = some (.map es clock) ∧ w.heap[r]? = some (.mapIter (some b) clock seen clock) ∧ (es.toList.map (·.born)).Nodup ∧ (∀ e ∈ es.toList, e.born < clock) ∧
 (es.toList.filter fun e => !seen.contains e.born).map entG = left.map (gmP enc)
theorem GRange.lt (h : GRange enc w b r left) : b < w.heap.size ∧ r < w.heap.size := by
 obtain ⟨es, c, s, h1, h2, _⟩ := h
 exact ⟨(Array.getElem?_eq_some_iff.1 h1).1, (Array.getElem?_eq_some_iff.1 h2).1⟩
theorem GRange.keep {w' : World} {c : Nat → Prop} (h : GRange enc w b r left) (k : Kp w w' c) (hb : ¬ c b) (hr : ¬ c r) : GRange enc w' b r left := by
 have hlt := h.lt
 obtain ⟨es, cl, s, h1, h2, h3⟩ := h
 exact ⟨es, cl, s, (k.block b hlt.1 hb).trans h1, (k.block r hlt.2 hr).trans h2, h3⟩
theorem RunV.rangeG (ht : P.underlying t = some (.map kt et)) (h : GMapO enc w b m) (k : ∀ w', GRange enc w' b w.heap.size m → Kp w w' n_ → w'.heap.size = w.heap.size + 1 → K (.pointer (some ⟨w.heap.size, 0, none⟩)) w') : RunV P (Instr.range t (.map (some b))) w K := by
 have hlt := h.g.lt
 obtain ⟨es, clock, hb, he, hnd, hlc⟩ := h
 refine ⟨_, w.alloc (.mapIter (some b) clock #[] clock), ?_, k _ ⟨es, clock, #[], (Below.heap_alloc _ _ _ hlt).trans hb, heap_alloc_new w _, hnd, hlc, ?_⟩ ((Kp.refl _ _).alloc _) (by simp)⟩
 ·simp only [Instr.range, Sem.run_bind, zaJ ht, Result.andThen_ok, getObj, Sem.run, hb, Sem.run_pure]
  rfl
 ·rw [List.filter_eq_self.2 (fun x _ => by simp)]; exact he
theorem zjJ {es : List MapEntry} {seen : Array Nat} {pre post : List MapEntry} {e : MapEntry} (hnd : (es.map (·.born)).Nodup) (h : (es.filter fun e => !seen.contains e.born) = pre ++ e :: post) :
  (es.filter fun e' => !(seen.push e.born).contains e'.born) = pre ++ post := by
 have h1 : (es.filter fun e' => !(seen.push e.born).contains e'.born) = (es.filter fun e => !seen.contains e.born).filter fun e' => !decide (e'.born = e.born) := by
  rw [List.filter_filter]
  refine List.filter_congr fun x _ => ?_
  simp only [Array.contains_push, Bool.not_or]
  rw [Bool.and_comm]
  congr 1
 rw [h1, h]
 have hnd2 : ((pre ++ e :: post).map (·.born)).Nodup := by
  rw [← h]; exact hnd.sublist (List.Sublist.map _ List.filter_sublist)
 simp only [List.map_append, List.map_cons, List.nodup_append, List.nodup_cons] at hnd2
 obtain ⟨_, ⟨hp, _⟩, hd⟩ := hnd2
 simp only [List.filter_append, List.filter_cons, decide_true, Bool.not_true]
 have f1 : pre.filter (fun e' => !decide (e'.born = e.born)) = pre := List.filter_eq_self.2 fun x hx => by
  have := hd x.born (List.mem_map_of_mem hx) e.born List.mem_cons_self
  simpa using this
 have f2 : post.filter (fun e' => !decide (e'.born = e.born)) = post := List.filter_eq_self.2 fun x hx => by
  have : x.born ≠ e.born := fun h => hp (h ▸ List.mem_map_of_mem hx)
  simpa using this
 rw [f1, f2]; rfl
theorem zmF {es : List MapEntry} {e : MapEntry} (hnd : (es.map (·.born)).Nodup) (he : e ∈ es) : es.find? (fun x => x.born == e.born) = some e := by
 induction es with
 | nil => cases he
 | cons a l ih =>
  rw [List.map_cons, List.nodup_cons] at hnd
  rw [List.find?_cons]
  by_cases h : a.born = e.born
  ·have hae : a = e := by
    rcases List.mem_cons.1 he with rfl | h2
    ·rfl
    ·exact (hnd.1 (h ▸ List.mem_map_of_mem h2)).elim
   subst hae; simp
  ·have : (a.born == e.born) = false := by simp [h]
   rw [this]
   rcases List.mem_cons.1 he with rfl | h2
   ·exact (h rfl).elim
   ·exact ih hnd.2 h2
theorem zlV {n : Nat} (hn : 0 < n) (w : World) : ∃ i w1, (choose (.mapNext n)).run P w = .ok i w1 ∧ i < n ∧ w1.heap = w.heap ∧ Kp w w1 n_ := by
 by_cases h : n ≤ 1
 ·exact ⟨0, w, by simp [Question.forced, h], hn, rfl, Kp.refl _ _⟩
 ·exact ⟨w.tape w.drawn (.mapNext n) % n, w.drew, by simp [Question.forced, h, Question.cut], Nat.mod_lt _ hn, rfl, (Kp.refl _ _).drew⟩
theorem RunV.nextG {ty : TypeId} (h : GRange enc w b r left)
  (over : left = [] → ∀ w', Kp w w' n_ → w'.heap.size = w.heap.size → K (.tuple #[.bool false]) w')
  (more : ∀ pre p post w', left = pre ++ p :: post → GRange enc w' b r (pre ++ post) → Kp w w' (one_ r) → w'.heap.size = w.heap.size → (Instr.entry (.pointer (some ⟨r, 0, none⟩))).run P w' = .ok (.tuple #[enc p.1, p.2]) w' → K (.tuple #[.bool true, enc p.1, p.2]) w') : RunV P (Instr.next (.pointer (some ⟨r, 0, none⟩)) false ty) w K := by
 obtain ⟨es, clock, seen, hb, hr, hnd, hlc, hl⟩ := h
 have hrlt : r < w.heap.size := (Array.getElem?_eq_some_iff.1 hr).1
 have hblt : b < w.heap.size := (Array.getElem?_eq_some_iff.1 hb).1
 have hne : b ≠ r := fun e => by subst e; rw [hb] at hr; cases hr
 have hall : (!seen.isEmpty && !es.isEmpty && es.all (fun e => decide (e.born ≥ clock))) = false := by
  cases hes : es.toList with
  | nil =>
   have : es = #[] := by apply Array.ext'; simpa using hes
   subst this; simp
  | cons e l =>
   have h1 := hlc e (by rw [hes]; exact List.mem_cons_self)
   have : es.all (fun e => decide (e.born ≥ clock)) = false := by
    rw [← Array.all_toList, hes]
    simp only [List.all_cons]
    rw [show decide (e.born ≥ clock) = false from by simp; omega]
    rfl
   rw [this]; simp
 have hold : (es.filter fun e => !seen.contains e.born).filter (fun e => decide (e.born < clock)) = es.filter fun e => !seen.contains e.born := by
  apply Array.ext'
  simp only [Array.toList_filter]
  exact List.filter_eq_self.2 fun x hx => by simpa using hlc x (List.mem_filter.1 hx).1
 have hnew : (es.filter fun e => !seen.contains e.born).filter (fun e => decide (e.born ≥ clock)) = #[] := by
  apply Array.ext'
  simp only [Array.toList_filter]
  exact List.filter_eq_nil_iff.2 fun x hx => by have := hlc x (List.mem_filter.1 hx).1; simp; omega
 obtain ⟨old, hO⟩ : ∃ old, (es.filter fun e => !seen.contains e.born) = old := ⟨_, rfl⟩
 have hOl : old.toList = es.toList.filter fun e => !seen.contains e.born := by rw [← hO]; simp
 rw [← hOl] at hl
 rw [hO] at hold hnew
 cases hcase : old.toList with
 | nil =>
  have he : old = #[] := by apply Array.ext'; simpa using hcase
  have hle : left = [] := by rw [hcase] at hl; cases left with | nil => rfl | cons a l => simp at hl
  refine ⟨_, w, ?_, over hle w (Kp.refl _ _) rfl⟩
  simp only [Instr.next, Sem.run_bind, getObj, Sem.run, hr, Result.andThen_ok, hb, hall, Bool.false_eq_true, if_false, hO, hold, hnew]
  rw [he]
  simp [Question.forced]
 | cons e0 l0 =>
  have hpos : 0 < old.size := by rw [← Array.length_toList, hcase]; simp
  obtain ⟨i, w1, hch, hi, hh, hk⟩ := zlV (P := P) hpos w
  have hil : i < old.toList.length := by simpa using hi
  have hsplit : old.toList = old.toList.take i ++ old[i] :: old.toList.drop (i + 1) := by
   rw [show old[i] = old.toList[i] from by simp, ← List.drop_eq_getElem_cons hil, List.take_append_drop]
  have hlen : left.length = old.toList.length := by have := congrArg List.length hl; simpa using this.symm
  have hill : i < left.length := by omega
  have hls : left = left.take i ++ left[i]'hill :: left.drop (i + 1) := by rw [← List.drop_eq_getElem_cons hill, List.take_append_drop]
  have hent : entG old[i] = gmP enc (left[i]'hill) := by
   have e1 : (old.toList.map entG)[i]? = (left.map (gmP enc))[i]? := by rw [hl]
   rw [List.getElem?_map, List.getElem?_map, List.getElem?_eq_getElem hil, List.getElem?_eq_getElem hill] at e1
   simpa using e1
  simp only [entG, gmP, Prod.mk.injEq] at hent
  refine ⟨_, setOG w1 r (.mapIter (some b) clock (seen.push old[i].born) clock), ?_, more _ _ _ _ hls ⟨es, clock, seen.push old[i].born, ?_, ?_, hnd, hlc, ?_⟩ ?_ ?_ ?_⟩
  ·simp only [Instr.next, Sem.run_bind, getObj, Sem.run, hr, Result.andThen_ok, hb, hall]
   have hne0 : old.isEmpty = false := by simp only [Array.isEmpty, decide_eq_false_iff_not]; omega
   simp only [hO, hold, hnew, hne0, Array.append_empty, Array.size_map, Bool.false_eq_true, if_false, Array.empty_append, Sem.run_bind, Result.andThen_ok, hch]
   simp only [Array.getElem?_map, Array.getElem?_eq_getElem hi, Option.map_some, Sem.run_bind, setObj, Sem.run, Sem.run_pure, ← hent.1, ← hent.2]
   simp [setOG, hh, hr]
  ·rw [← hb, ← hh]; simp [setOG, hne.symm]
  ·exact zcr _ (by rw [hh]; exact hrlt)
  ·rw [zjJ hnd (pre := old.toList.take i) (post := old.toList.drop (i + 1)) (by rw [← hOl]; exact hsplit)]
   rw [List.map_append, List.map_append, List.map_take, List.map_take, List.map_drop, List.map_drop, hl]
  ·exact (hk.of_none (c := one_ r)).trans' (zbY _)
  ·simp [setOG, hh]
  ·have h1 : (setOG w1 r (.mapIter (some b) clock (seen.push old[i].born) clock)).heap[r]? = some (.mapIter (some b) clock (seen.push old[i].born) clock) := zcr _ (by rw [hh]; exact hrlt)
   have h2 : (setOG w1 r (.mapIter (some b) clock (seen.push old[i].born) clock)).heap[b]? = some (.map es clock) := by rw [← hb, ← hh]; simp [setOG, hne.symm]
   have hmem : old[i] ∈ es.toList := by
    have : old[i] ∈ old.toList := by rw [show old[i] = old.toList[i] from by simp]; exact List.getElem_mem hil
    rw [hOl] at this; exact (List.mem_filter.1 this).1
   have hf := zmF hnd hmem
   have hf2 : es.find? (fun x => x.born == old[i].born) = some old[i] := by rw [← hf, ← Array.find?_toList]
   simp only [Instr.entry, Sem.run_bind, getObj, Sem.run, h1, Result.andThen_ok, Array.back?_push, h2, bne_self_eq_false, Bool.false_eq_true, if_false, hf2, Sem.run_pure, hent.1, hent.2]
end
end Go.Vc
