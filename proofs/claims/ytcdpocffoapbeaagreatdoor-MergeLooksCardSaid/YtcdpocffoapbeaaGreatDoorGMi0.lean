/- Helper text of this claim: Mi0, Srt1, Mi1, Ml6, Kit11: lemmas and contracts that the proved statement rests on; no conditions of its own. -/
import Derived.Test.YtcdpocffoapbeaaGreatDoorGMl2
import Derived.Test.YtcdpocffoapbeaaGreatDoorGKit10
import Derived.Shelf.GgSortFunc.InsertionK
import Derived.Shelf.SlSortCmp.NoneTotal
import Derived.Test.YtcdpocffoapbeaaGreatDoorGWc4
-- alias Tryz
namespace Go.Proofs.YtcdpocffoapbeaaGreatDoor
set_option linter.unusedVariables false
open Go.Shelf Go.RowKit Go.Pw Go.Vc Go.Cs Go.Lib Go.Cd Go.Mg Go.Sort
set_option linter.unusedVariables false
set_option maxRecDepth 100000
/-! segment.compare, its world said exactly: draws and new blocks. -/
def Gr (w w' : World) : Prop := ∃ q os, w' = grow (w.drewN q) os
theorem Gr.refl (w : World) : Gr w w := ⟨0, #[], by unfold grow; simp [World.drewN_zero]⟩
theorem Gr.trans {a b c : World} (h : Gr a b) (k : Gr b c) : Gr a c := by
  obtain ⟨q, os, rfl⟩ := h
  obtain ⟨q2, os2, rfl⟩ := k
  refine ⟨q + q2, os ++ os2, ?_⟩
  rw [← World.drewN_drewN, ← grow_grow]; rfl
theorem Gr.drew (w : World) : Gr w w.drew := ⟨1, #[], by unfold grow; simp; rfl⟩
theorem Gr.alloc (w : World) (o : Obj) : Gr w (w.alloc o) := ⟨0, #[o], by rw [alloc_eq_grow]; rfl⟩
section
variable {w : World}
theorem gr_Or2 {b : Nat} (x y : Int) (hat : At w b 0 [.int .i64 x, .int .i64 y]) : Calls Tryz.prog 91 #[.slice (some ⟨b, 0, none⟩) 2 2] w fun e w' => e = .returned (.int .i64 (if x ≠ 0 then x else y)) ∧ w' = w := by
  refine calls_of_vc (args := [.slice (some ⟨b, 0, none⟩) 2 2]) Tryz.func91 rfl (Nat.le_of_ble_eq_true rfl) ?_; refine Sat.go hmix ?_; conv => whnf
  have c0 : w.cell? ⟨b, 0 + 0, none⟩ = some (.int .i64 x) := hat 0 _ rfl
  have c1 : w.cell? ⟨b, 0 + 1, none⟩ = some (.int .i64 y) := hat 1 _ rfl
  refine Loop.intro (ι := Nat) (fun i => [(3, .int .i64 0), (6, .slice (some ⟨b, 0, none⟩) 2 2), (7, .int .i64 2), (8, .int .i64 (i : Nat))])
    (fun i wr => wr = w ∧ i ≤ 2 ∧ (1 ≤ i → x = 0) ∧ (2 ≤ i → y = 0)) (fun i => 2 - i) 0 ⟨rfl, rfl, rfl, rfl, trivial⟩ ⟨rfl, Nat.zero_le _, fun h => by omega, fun h => by omega⟩ ?_
  rintro i gg wr ⟨hW, hi, h1, h2⟩
  subst hW
  have hK := Keeps.refl wr none_
  (first | refine Then.go hmix ?_ | refine Sat.go hmix ?_ | refine ResK.go ?_ | skip); conv => whnf
  have hc : i = 0 ∨ i = 1 ∨ i = 2 := by omega
  rcases hc with rfl | rfl | rfl
  · by_cases hx : x = 0
    · refine KGO ?_
      exact ⟨1, ⟨rfl, rfl, rfl, rfl, trivial⟩, ⟨rfl, by omega, fun _ => hx, fun h => by omega⟩, by dsimp only; omega⟩
    · refine KGO ?_
      exact ⟨by rw [if_pos hx], rfl⟩
  · have hx := h1 (by omega)
    by_cases hy : y = 0
    · refine KGO ?_
      exact ⟨2, ⟨rfl, rfl, rfl, rfl, trivial⟩, ⟨rfl, by omega, fun _ => hx, fun _ => hy⟩, by dsimp only; omega⟩
    · refine KGO ?_
      exact ⟨by rw [if_neg (by omega)], rfl⟩
  · have hx := h1 (by omega)
    have hy := h2 (by omega)
    refine KGO ?_
    exact ⟨by rw [hx, hy]; rfl, rfl⟩
theorem gr_cmp (x y : Int) : Calls Tryz.prog 92 #[.int .i64 x, .int .i64 y] w fun e w' => e = .returned (.int .i64 (cmpI x y)) ∧ w = w' := by
  refine calls_of_vc (args := [.int .i64 x, .int .i64 y]) Tryz.func92 rfl (Nat.le_of_ble_eq_true rfl) ?_; refine Sat.go hmix ?_; conv => whnf
  refine CallS.of (Tryz.call137 _ _) (cm_nan x) ?_
  rintro e _ ⟨rfl, rfl⟩
  refine ⟨_, rfl, ?_⟩; (first | refine Then.go hmix ?_ | refine Sat.go hmix ?_ | refine ResK.go ?_ | skip); conv => whnf
  refine CallS.of (Tryz.call137 _ _) (cm_nan y) ?_
  rintro e _ ⟨rfl, rfl⟩
  refine ⟨_, rfl, ?_⟩; (first | refine Then.go hmix ?_ | refine Sat.go hmix ?_ | refine ResK.go ?_ | skip); conv => whnf
  unfold cmpI
  by_cases h1 : x < y
  · refine KGO ?_
    exact ⟨by rw [if_pos h1], rfl⟩
  by_cases h2 : y < x
  · refine KGO ?_
    exact ⟨by rw [if_neg h1, if_pos h2], rfl⟩
  · refine KGO ?_
    exact ⟨by rw [if_neg h1, if_neg h2], rfl⟩
theorem gr_compare (x y : Trm) : Calls Tryz.prog 51 #[.agg (tmC x).toArray, .agg (tmC y).toArray] w fun e w' => e = .returned (.int .i64 (cmpT x y)) ∧ Gr w w' := by
  refine calls_of_vc (args := [.agg (tmC x).toArray, .agg (tmC y).toArray]) Tryz.func51 rfl (Nat.le_of_ble_eq_true rfl) ?_; refine Sat.go hmix ?_; conv => whnf
  have g1 := Gr.alloc w (.cells (List.toArray (tmC x)) 56)
  have a_b1 := at_fresh w 56 (tmC x)
  have v_b1 := VarK.new w 56 (tmC x)
  have k_w1 : Keeps w (w.alloc (.cells (List.toArray (tmC x)) 56)) none_ := (Keeps.refl _ _).alloc _
  have z_w1 : (w.alloc (.cells (List.toArray (tmC x)) 56)).heap.size = w.heap.size + 1 := by simp
  generalize w.alloc (.cells (List.toArray (tmC x)) 56) = w1 at *
  generalize hs_b1 : w.heap.size = b1 at *
  have r_w1 : Keeps w1 w1 none_ := Keeps.refl _ _
  have g2 := Gr.alloc w1 (.cells (List.toArray (tmC y)) 56)
  have a_b2 := at_fresh w1 56 (tmC y)
  have v_b2 := VarK.new w1 56 (tmC y)
  have k_w2 : Keeps w1 (w1.alloc (.cells (List.toArray (tmC y)) 56)) none_ := (Keeps.refl _ _).alloc _
  have z_w2 : (w1.alloc (.cells (List.toArray (tmC y)) 56)).heap.size = w1.heap.size + 1 := by simp
  generalize w1.alloc (.cells (List.toArray (tmC y)) 56) = w2 at *
  generalize hs_b2 : w1.heap.size = b2 at *
  have r_w2 : Keeps w2 w2 none_ := Keeps.refl _ _
  have G2 := g1.trans g2
  have a1 := at_mono a_b1 k_w2
  clear a_b1 g1 g2
  refine KGO ?_
  refine Draw.held (fun u => Keeps w2 u none_ ∧ Gr w2 u) (fun _ => true) (by decide +kernel) ⟨(Keeps.refl w2 none_).drew, Gr.drew w2⟩ ?_
  refine KGO ?_
  refine Held.one (by rfl) (fun u hu => (at_mono a1 hu.1) 0 _ rfl) ?_
  refine KGO ?_
  refine Held.one (by rfl) (fun u hu => (at_mono a_b2 hu.1) 0 _ rfl) ?_
  refine KGO ?_
  refine CallS.of (Tryz.call92 _ _) (gr_cmp (w := w2.drew) x.field y.field) ?_
  rintro e _ ⟨rfl, rfl⟩
  have k23 : Keeps w2 w2.drew none_ := (Keeps.refl w2 none_).drew
  have g23 := Gr.drew w2
  obtain ⟨w3, hw3⟩ : ∃ w3, w2.drew = w3 := ⟨_, rfl⟩
  rw [hw3] at k23 g23 ⊢
  refine ⟨_, rfl, ?_⟩; (first | refine Then.go hmix ?_ | refine Sat.go hmix ?_ | refine ResK.go ?_ | skip); conv => whnf
  refine ⟨⟨k23, g23⟩, ?_⟩
  refine KGO ?_
  refine Held.one (by rfl) (fun u hu => (at_mono a1 hu.1) 1 _ rfl) ?_
  refine KGO ?_
  refine Held.one (by rfl) (fun u hu => (at_mono a_b2 hu.1) 1 _ rfl) ?_
  refine KGO ?_
  refine CallS.of (Tryz.call93 _ _) (s_compare (str x.word) (str y.word) w3) ?_
  rintro e _ ⟨rfl, rfl⟩
  refine ⟨_, rfl, ?_⟩; (first | refine Then.go hmix ?_ | refine Sat.go hmix ?_ | refine ResK.go ?_ | skip); conv => whnf
  refine ⟨⟨k23, g23⟩, ?_⟩
  refine KGO ?_
  refine RunV.of (bs2I _ _ _) ?_
  have g4 := Gr.alloc w3 (.cells (List.toArray [.int .i64 (cmpI x.field y.field), .int .i64 (compareBytes (L (str x.word)) (L (str y.word)))]) 3)
  have a_b4 := at_fresh w3 3 ([.int .i64 (cmpI x.field y.field), .int .i64 (compareBytes (L (str x.word)) (L (str y.word)))])
  have v_b4 := VarK.new w3 3 ([.int .i64 (cmpI x.field y.field), .int .i64 (compareBytes (L (str x.word)) (L (str y.word)))])
  have k_w4 : Keeps w3 (w3.alloc (.cells (List.toArray ([.int .i64 (cmpI x.field y.field), .int .i64 (compareBytes (L (str x.word)) (L (str y.word)))])) 3)) none_ := (Keeps.refl _ _).alloc _
  have z_w4 : (w3.alloc (.cells (List.toArray ([.int .i64 (cmpI x.field y.field), .int .i64 (compareBytes (L (str x.word)) (L (str y.word)))])) 3)).heap.size = w3.heap.size + 1 := by simp
  generalize w3.alloc (.cells (List.toArray ([.int .i64 (cmpI x.field y.field), .int .i64 (compareBytes (L (str x.word)) (L (str y.word)))])) 3) = w4 at *
  generalize hs_b4 : w3.heap.size = b4 at *
  have r_w4 : Keeps w4 w4 none_ := Keeps.refl _ _
  refine ⟨⟨k23.trans0 k_w4, g23.trans g4⟩, ?_⟩
  refine KGO ?_
  refine CallS.of (Tryz.call91 _ _) (gr_Or2 _ _ a_b4) ?_
  rintro e _ ⟨rfl, rfl⟩
  refine ⟨_, rfl, ?_⟩; (first | refine Then.go hmix ?_ | refine Sat.go hmix ?_ | refine ResK.go ?_ | skip); conv => whnf
  refine ⟨⟨k23.trans0 k_w4, g23.trans g4⟩, ?_⟩
  refine KGO ?_
  exact ⟨rfl, G2.trans (g23.trans g4)⟩
end
end Go.Proofs.YtcdpocffoapbeaaGreatDoor

/-! Rows of k cells an element, and what the library's sorts make of them. -/
namespace Go.Vc
set_option linter.unusedVariables false
open Go Go.Pw Go.Sort Go.Proofs
set_option linter.unusedVariables false
section
variable {α : Type} [Inhabited α] {enc : α → List Value} {w : World} {g q k : Nat} {os : Array Obj} {e : TypeId}
theorem flatK_list (hk : ∀ x, (enc x).length = k) (l : List α) : flatK enc k l.toArray = (l.flatMap enc).toArray := by
  have hlen : (l.flatMap enc).length = l.length * k := flatK_len enc k hk l
  apply Array.ext
  · rw [size_flatK]; simp only [List.size_toArray]; exact hlen.symm
  · intro t h1 h2
    have ht : t < l.length * k := by rw [size_flatK] at h1; simpa using h1
    have hk0 : 0 < k := by
      rcases Nat.eq_zero_or_pos k with h | h
      · subst h; simp at ht
      · exact h
    have hi : t / k < l.length := Nat.div_lt_of_lt_mul (by rwa [Nat.mul_comm] at ht)
    have hm : t % k < k := Nat.mod_lt _ hk0
    have h3 := get_flatK enc k l.toArray t (by simpa using ht)
    rw [getElem!_pos _ t h1] at h3
    rw [h3]
    have hd := flatK_drop enc k hk l (t / k)
    have e1 : (l.flatMap enc)[t]? = ((l.drop (t / k)).flatMap enc)[t % k]? := by
      rw [← hd, List.getElem?_drop, Nat.mul_comm, Nat.div_add_mod]
    rw [List.drop_eq_getElem_cons hi, List.flatMap_cons, List.getElem?_append_left (by rw [hk]; exact hm)] at e1
    have e2 : l.toArray[t / k]! = l[t / k] := by rw [getElem!_pos _ _ (by simpa using hi)]; simp
    rw [e2]
    have e3 : (l.flatMap enc)[t]? = some ((l.flatMap enc).toArray[t]) := by
      rw [List.getElem?_eq_getElem (by simpa using h2)]; simp
    rw [e3] at e1
    have e4 : (enc l[t / k])[t % k]? = some (enc l[t / k])[t % k]! := by
      rw [List.getElem?_eq_getElem (by rw [hk]; exact hm), getElem!_pos _ _ (by rw [hk]; exact hm)]
    rw [e4] at e1
    injection e1 with e1
    exact e1.symm
theorem holdsK_own {l : List α} {cells : List Value} (hk : ∀ x, (enc x).length = k) (h : VarK w g e cells) (ht : cells.take (l.length * k) = l.flatMap enc) : HoldsK enc k w g 0 l.toArray := by
  unfold HoldsK
  rw [flatK_list hk]
  exact holds_own (enc := id) h (by rw [flatK_len enc k hk, ht, List.map_id])
theorem own_putK {B n cap : Nat} {xs : List Value} (hk : ∀ x, (enc x).length = k) (ho : w.ownsRow B e k (.slice (some ⟨g, 0, none⟩) n cap) n xs) (l : List α) (hl : l.length = n) :
    (sortWorldK enc k w g 0 q l.toArray os).ownsRow B e k (.slice (some ⟨g, 0, none⟩) n cap) n (l.flatMap enc) := by
  unfold sortWorldK putRowK
  rw [flatK_list hk]
  have hF : (l.flatMap enc).length = n * k := by rw [flatK_len enc k hk, hl]
  rcases ho.2 with ⟨h, _⟩ | ⟨g', cap', cur, h1, h2, h3, h4, h5, h6, h7⟩
  · cases h
  · injection h1 with h1 _ hc
    injection h1 with h1
    injection h1 with h1
    subst h1; subst hc
    refine ⟨hF, .inr ⟨g, cap, _, rfl, h2, heap_put _ h3, by omega, h5, by simp [putCells, h6], ?_⟩⟩
    have := take_put (enc := id) cur (l.flatMap enc) (by rw [hF, h6]; exact Nat.mul_le_mul_right _ h4)
    rw [hF, List.map_id] at this
    exact this
theorem keeps_putK (d : Array α) : Keeps w (sortWorldK enc k w g 0 q d os) (one_ g) := keeps_put (enc := id) _
end
end Go.Vc

-- alias Tryz
namespace Go.Proofs.YtcdpocffoapbeaaGreatDoor
set_option linter.unusedVariables false
open Go.Shelf Go.RowKit Go.Pw Go.Vc Go.Cs Go.Lib Go.Cd Go.Mg Go.Sort
set_option linter.unusedVariables false
set_option maxRecDepth 100000
/-! slices.SortFunc on rows of terms. -/
instance : Inhabited Trm := ⟨⟨0, [], []⟩⟩
theorem ltOf_T (x y : Trm) : ltOf cmpT x y = ltK x.key y.key := by
  have h := cmpT_lt x y
  unfold ltOf
  cases hk : ltK x.key y.key with
  | true => exact decide_eq_true (h.2 hk)
  | false => exact decide_eq_false fun e => by rw [h.1 e] at hk; cases hk
theorem swoT : SWO (ltOf cmpT) where
  irrefl x := by rw [ltOf_T]; exact stoK.irr _
  trans x y z h1 h2 := by rw [ltOf_T] at *; exact stoK.tr _ _ _ h1 h2
  ntrans x y z h1 h2 := by
    rw [ltOf_T] at *
    cases h : ltK x.key z.key with
    | false => rfl
    | true =>
      cases h3 : ltK y.key x.key with
      | true =>
        have := stoK.tr _ _ _ h3 h
        rw [h2] at this; cases this
      | false =>
        have e := stoK.tri _ _ h1 h3
        rw [e] at h; rw [h2] at h; cases h
theorem gr_cmpLays (blk off size : Nat) (w : World) : CmpLays Tryz.prog 51 #[] tmC 3 cmpT blk off size w := fun m os dk hs x y => gr_compare x y
section
variable {w : World} {B : Nat}
theorem srt_Tm {v : Value} (l : List Trm) (ho : OwnR 56 tmC 3 w B v l) (hl : l.length ≤ 17592186044416) :
    Calls Tryz.prog 50 #[v, .func (.func 51) #[] #[]] w fun e w' => e = .returned (.tuple #[]) ∧ ∃ l', l'.Perm l ∧ l'.Pairwise (fun a b => ltK b.key a.key = false) ∧ OwnR 56 tmC 3 w' B v l' ∧ Keeps w w' (own_ v) := by
  rcases own_blockK ho with ⟨rfl, h0⟩ | ⟨g, cap, cells, rfl, hBg, hv, hnc, hcm, hcl, htk⟩
  · obtain rfl : l = [] := List.eq_nil_of_length_eq_zero h0
    refine (AnyF.slices_SortFunc_none laysTm none 0 _ w).mono ?_
    rintro e w' ⟨rfl, rfl⟩
    exact ⟨rfl, [], .refl _, .nil, ho, Keeps.refl _ _⟩
  · refine (AnyQ.slices_SortFunc laysTm 3 Tryz.isAgg56 Tryz.sizeOf56 tmC lenTm (fun x v hv => by simp [tmC] at hv; rcases hv with rfl | rfl | rfl <;> rfl) cmpT swoT 51 #[] g 0 cap l.toArray w (fun _ _ => rfl) (gr_cmpLays _ _ _ _) (holdsK_own lenTm hv htk) hv.lt (by simp; omega)).mono ?_
    rintro e w' ⟨rfl, d', n, os, ⟨hp1, _, hp3⟩, hs, rfl⟩
    have hsz : d'.size = l.length := by simpa using hp1
    have e1 : d'.extract 0 l.toArray.size = d' := by rw [← hp1]; exact Array.extract_size
    have e2 : l.toArray.extract 0 l.toArray.size = l.toArray := Array.extract_size
    rw [e1, e2] at hp3
    have hd : d'.toList.toArray = d' := by simp
    refine ⟨rfl, d'.toList, by simpa using hp3, ?_, ?_, ?_⟩
    · rw [List.pairwise_iff_getElem]
      intro i j hi hj hij
      have hi' : i < d'.size := by simpa using hi
      have hj' : j < d'.size := by simpa using hj
      have h := hs i j (Nat.zero_le _) hij (by rw [List.size_toArray]; omega)
      rw [getElem!_pos d' j hj', getElem!_pos d' i hi', ltOf_T] at h
      exact h
    · have h := own_putK (q := n) (os := os) lenTm ho d'.toList (by simpa using hsz)
      rw [hd] at h
      unfold OwnR
      rw [show d'.toList.length = l.length by simpa using hsz]
      exact h
    · exact (keeps_putK d').mono fun q _ hq => by have hq : q = g := hq; rw [hq]; rfl
end
end Go.Proofs.YtcdpocffoapbeaaGreatDoor

-- alias Tryz
namespace Go.Proofs.YtcdpocffoapbeaaGreatDoor
set_option linter.unusedVariables false
open Go.Shelf Go.RowKit Go.Pw Go.Vc Go.Cs Go.Lib Go.Cd Go.Mg
set_option linter.unusedVariables false
set_option maxRecDepth 100000
/-! segment.Build's map of maps of rows, in memory. -/
section
variable {κ : Type} [DecidableEq κ] {k : κ} {x : Value}
theorem put_keys : ∀ m : GM κ, (m.put k x).map (·.1) = if k ∈ m.map (·.1) then m.map (·.1) else m.map (·.1) ++ [k]
  | [] => by simp [GM.put]
  | (s, v) :: r => by
    unfold GM.put
    by_cases h : k = s
    · subst h; simp
    · rw [if_neg h, List.map_cons, put_keys r, List.map_cons]
      by_cases h2 : k ∈ r.map (·.1)
      · rw [if_pos h2, if_pos (List.mem_cons_of_mem _ h2)]
      · rw [if_neg h2, if_neg (fun e => by rcases List.mem_cons.1 e with e | e; exact h e; exact h2 e)]; rfl
theorem put_nodup {m : GM κ} (h : (m.map (·.1)).Nodup) : ((m.put k x).map (·.1)).Nodup := by
  rw [put_keys]
  split
  · exact h
  · rename_i hn
    exact List.nodup_append.2 ⟨h, by simp, fun a ha b hb => by rw [List.mem_singleton.1 hb]; exact fun e => hn (e ▸ ha)⟩
theorem put_len (m : GM κ) : (m.put k x).length ≤ m.length + 1 := by
  have := congrArg List.length (put_keys (k := k) (x := x) m)
  rw [List.length_map] at this
  rw [this]
  split <;> simp
theorem get_mem : ∀ {m : GM κ} {v : Value}, m.get k = some v → (k, v) ∈ m
  | (s, u) :: r, v, h => by
    unfold GM.get at h
    split at h
    · rename_i e; injection h with h; subst h; subst e; exact List.mem_cons_self
    · exact List.mem_cons_of_mem _ (get_mem h)
theorem mem_get : ∀ {m : GM κ} {v : Value}, (m.map (·.1)).Nodup → (k, v) ∈ m → m.get k = some v
  | (s, u) :: r, v, hn, h => by
    rw [List.map_cons, List.nodup_cons] at hn
    unfold GM.get
    rcases List.mem_cons.1 h with h | h
    · injection h with h1 h2; subst h1; subst h2; rw [if_pos rfl]
    · rw [if_neg (fun e => hn.1 (by rw [← e]; exact List.mem_map.2 ⟨_, h, rfl⟩))]
      exact mem_get hn.2 h
theorem get_none : ∀ {m : GM κ}, m.get k = none ↔ k ∉ m.map (·.1)
  | [] => by simp [GM.get]
  | (s, u) :: r => by
    unfold GM.get
    split
    · rename_i e; subst e; simp
    · rename_i e
      rw [get_none, List.map_cons, List.mem_cons, not_or]
      exact ⟨fun h => ⟨e, h⟩, fun h => h.2⟩
end
abbrev TM := Ky → Option (Nat × GM Int)
def valM (x : Nat × GM Int) : Value := .map (some x.1)
def rowM (M : TM) (k : Ky) (d : Int) : Option Value := (M k).bind fun x => x.2.get d
def upM (M : TM) (k : Ky) (x : Nat × GM Int) : TM := fun k' => if k' = k then some x else M k'
theorem gmo_own {κ : Type} {enc : κ → Value} {w : World} {B s n mb : Nat} {E : TypeId} {v : Value} {xs : List Value} {m : GM κ} (hm : GMapO enc w mb m) (h : w.ownsRow B E s v n xs) : ¬ own_ v mb := fun e => by
  obtain ⟨cs, z, hh, _⟩ := own_type h e
  obtain ⟨es, cl, h1, _⟩ := hm
  rw [h1] at hh; cases hh
structure TmAt (w : World) (B tb : Nat) (m : GM Ky) (M : TM) (f : Ky → Int → List Int) (N : Nat) : Prop where
  sz : B ≤ w.heap.size
  tl : tb < B
  mp : GMapO encKy w tb m
  nd : (m.map (·.1)).Nodup
  gt : ∀ k, m.get k = (M k).map valM
  ln : m.length ≤ N
  ob : ∀ k x, M k = some x → B ≤ x.1 ∧ GMapO (Value.int .i64) w x.1 x.2 ∧ (x.2.map (·.1)).Nodup ∧ x.2.length ≤ N
  ne : ∀ k k' x x', M k = some x → M k' = some x' → k ≠ k' → x.1 ≠ x'.1
  rw : ∀ k d v, rowM M k d = some v → OwnI w B v (f k d) ∧ f k d ≠ []
  rn : ∀ k d, rowM M k d = none → f k d = []
  ap : ∀ k d k' d' v v', rowM M k d = some v → rowM M k' d' = some v' → (k ≠ k' ∨ d ≠ d') → Apart v v'
  fl : ∀ k d, (f k d).length ≤ N
theorem TmAt.keep {w w' : World} {c : Nat → Prop} {B tb N : Nat} {m : GM Ky} {M : TM} {f : Ky → Int → List Int} (h : TmAt w B tb m M f N) (k : Keeps w w' c) (h1 : ¬ c tb)
    (h2 : ∀ q, q < w.heap.size → B ≤ q → c q → (∀ es cl, w.heap[q]? ≠ some (.map es cl)) ∧ ∀ cs z, w.heap[q]? ≠ some (.cells cs 3 z)) : TmAt w' B tb m M f N where
  sz := Nat.le_trans h.sz k.size
  tl := h.tl
  mp := h.mp.keep k h1
  nd := h.nd
  gt := h.gt
  ln := h.ln
  ob key x hx := by
    obtain ⟨o1, o2, o3, o4⟩ := h.ob key x hx
    refine ⟨o1, o2.keep k fun e => ?_, o3, o4⟩
    have hh := (h2 _ o2.g.lt o1 e).1
    obtain ⟨es, cl, hm, _⟩ := o2
    exact hh _ _ hm
  ne := h.ne
  rw key d v hv := by
    obtain ⟨r1, r2⟩ := h.rw key d v hv
    refine ⟨own_keep r1 k fun q hq e => ?_, r2⟩
    obtain ⟨cs, z, hh, hB, hlt⟩ := own_type r1 hq
    exact (h2 q hlt hB e).2 _ _ hh
  rn := h.rn
  ap := h.ap
  fl := h.fl
theorem TmAt.keep0 {w w' : World} {B tb N : Nat} {m : GM Ky} {M : TM} {f : Ky → Int → List Int} (h : TmAt w B tb m M f N) (k : Keeps w w' none_) : TmAt w' B tb m M f N := h.keep k id fun q _ _ e => e.elim
theorem TmAt.keepB {w w' : World} {c : Nat → Prop} {B tb N : Nat} {m : GM Ky} {M : TM} {f : Ky → Int → List Int} (h : TmAt w B tb m M f N) (k : Keeps w w' c) (hc : ∀ q, c q → q < tb) : TmAt w' B tb m M f N :=
  h.keep k (fun e => by have := hc _ e; omega) fun q _ hB e => by have := hc q e; have := h.tl; omega
theorem TmAt.init (w : World) : TmAt (w.alloc (.map #[] 0)) (w.heap.size + 1) w.heap.size [] (fun _ => none) (fun _ _ => []) 0 where
  sz := by simp
  tl := Nat.lt_succ_self _
  mp := GMapO.new w
  nd := .nil
  gt _ := rfl
  ln := Nat.le_refl _
  ob _ _ h := by cases h
  ne _ _ _ _ h := by cases h
  rw _ _ _ h := by cases h
  rn _ _ _ := rfl
  ap _ _ _ _ _ _ h := by cases h
  fl _ _ := Nat.le_refl _
theorem TmAt.mono {w : World} {B tb N N' : Nat} {m : GM Ky} {M : TM} {f : Ky → Int → List Int} (h : TmAt w B tb m M f N) (hN : N ≤ N') : TmAt w B tb m M f N' :=
  { h with ln := Nat.le_trans h.ln hN, ob := fun k x hx => let ⟨a, b, c, d⟩ := h.ob k x hx; ⟨a, b, c, Nat.le_trans d hN⟩, fl := fun k d => Nat.le_trans (h.fl k d) hN }
theorem rowM_new {M : TM} {k : Ky} {ob : Nat} (h : M k = none) : rowM (upM M k (ob, [])) = rowM M := by
  funext k' d
  unfold rowM upM
  split
  · rename_i e; subst e; rw [h]; rfl
  · rfl
/-- A new map for a key. -/
theorem TmAt.new {w w1 w2 : World} {B tb N : Nat} {m : GM Ky} {M : TM} {f : Ky → Int → List Int} (h : TmAt w B tb m M f N) {k : Ky} (hk : M k = none) {ob : Nat} (hob : w.heap.size ≤ ob) (k1 : Keeps w w1 none_) (hn : GMapO (Value.int .i64) w1 ob ([] : GM Int))
    (hm : GMapO encKy w2 tb (m.put k (.map (some ob)))) (k2 : Keeps w1 w2 (one_ tb)) : TmAt w2 B tb (m.put k (.map (some ob))) (upM M k (ob, [])) f (N + 1) := by
  have hB := h.sz
  have htl := h.tl
  have h1 := h.keep0 k1
  have hobs : ∀ k' x, M k' = some x → x.1 < ob := fun k' x hx => by have := (h.ob k' x hx).2.1.g.lt; omega
  refine ⟨Nat.le_trans h1.sz k2.size, h.tl, hm, put_nodup h.nd, fun k' => ?_, ?_, fun k' x hx => ?_, fun k' k'' x x' hx hx' hne => ?_, fun k' d v hv => ?_, fun k' d hv => ?_, fun k' d k'' d' v v' hv hv' hne => ?_, fun k' d => Nat.le_succ_of_le (h.fl k' d)⟩
  · rw [GM.get_put]
    unfold upM
    split
    · rfl
    · exact h.gt k'
  · have := put_len (k := k) (x := .map (some ob)) m; have := h.ln; omega
  · unfold upM at hx
    split at hx
    · injection hx with hx
      subst hx
      exact ⟨by dsimp only; omega, hn.keep k2 (fun e => by have e : ob = tb := e; omega), .nil, Nat.zero_le _⟩
    · obtain ⟨o1, o2, o3, o4⟩ := h1.ob k' x hx
      exact ⟨o1, o2.keep k2 (fun e => by have e : x.1 = tb := e; omega), o3, by omega⟩
  · unfold upM at hx hx'
    split at hx
    · injection hx with hx
      subst hx
      rw [if_neg (by rename_i e; exact fun e2 => hne (e.trans e2.symm))] at hx'
      have := hobs _ _ hx'
      dsimp only; omega
    · split at hx'
      · injection hx' with hx'
        subst hx'
        have := hobs _ _ hx
        dsimp only; omega
      · exact h.ne _ _ _ _ hx hx' hne
  · rw [rowM_new hk] at hv
    obtain ⟨r1, r2⟩ := h1.rw k' d v hv
    exact ⟨own_keep r1 k2 fun q hq e => by
      have e : q = tb := e
      obtain ⟨_, _, _, hBq, _⟩ := own_type r1 hq
      omega, r2⟩
  · rw [rowM_new hk] at hv; exact h.rn k' d hv
  · rw [rowM_new hk] at hv hv'; exact h.ap _ _ _ _ _ _ hv hv' hne
theorem rowM_put {M : TM} {k : Ky} {ob : Nat} {g : GM Int} {d : Int} {v : Value} (h : M k = some (ob, g)) (k' : Ky) (d' : Int) : rowM (upM M k (ob, g.put d v)) k' d' = if k' = k ∧ d' = d then some v else rowM M k' d' := by
  unfold rowM upM
  by_cases e : k' = k
  · subst e
    rw [if_pos rfl, h]
    show (g.put d v).get d' = _
    rw [GM.get_put]
    by_cases e2 : d' = d
    · rw [if_pos e2, if_pos ⟨rfl, e2⟩]
    · rw [if_neg e2, if_neg (fun h => e2 h.2)]; rfl
  · rw [if_neg e, if_neg (fun h => e h.1)]
/-- The row of a key and a document, empty where there is none. -/
theorem TmAt.row {w : World} {B tb N : Nat} {m : GM Ky} {M : TM} {f : Ky → Int → List Int} (h : TmAt w B tb m M f N) {k : Ky} {ob : Nat} {g : GM Int} (hk : M k = some (ob, g)) (d : Int) : OwnI w B ((g.get d).getD (.slice none 0 0)) (f k d) := by
  have e : rowM M k d = g.get d := by unfold rowM; rw [hk]; rfl
  cases hg : g.get d with
  | none => rw [h.rn k d (e.trans hg)]; exact World.ownsRow_nil _ _ _ _
  | some v => exact (h.rw k d v (e.trans hg)).1
/-- A place put in. -/
theorem TmAt.put {w w1 w2 : World} {B tb N : Nat} {m : GM Ky} {M : TM} {f : Ky → Int → List Int} (h : TmAt w B tb m M f N) {k : Ky} {ob : Nat} {g : GM Int} (hk : M k = some (ob, g)) {d x : Int} {v' : Value}
    (ho : OwnI w1 B v' (f k d ++ [x])) (k1 : Keeps w w1 (own_ ((g.get d).getD (.slice none 0 0)))) {n0 : Nat} (hb : v'.ownBlock = ((g.get d).getD (.slice none 0 0)).ownBlock ∨ v'.ownBlock = some n0) (hn0 : w.heap.size ≤ n0)
    (hm : GMapO (Value.int .i64) w2 ob (g.put d v')) (k2 : Keeps w1 w2 (one_ ob)) : TmAt w2 B tb m (upM M k (ob, g.put d v')) (updF f k d x) (N + 1) := by
  have hrow := h.row hk d
  have hobk := h.ob k _ hk
  dsimp only at hobk
  have hB := h.sz
  have htl := h.tl
  have e : rowM M k d = g.get d := by unfold rowM; rw [hk]; rfl
  have cells1 : ∀ {u : Value} {l : List Int} {q : Nat}, OwnI w1 B u l → u.ownBlock = some q → q ≠ ob := fun hu hq e => by
    obtain ⟨cs, z, hh, _⟩ := own_type hu hq
    have hm1 : GMapO (Value.int .i64) w1 ob g := hobk.2.1.keep k1 (gmo_own hobk.2.1 hrow)
    obtain ⟨es, cl, h1, _⟩ := hm1
    rw [e, h1] at hh; cases hh
  have old : ∀ k' d' v, rowM M k' d' = some v → ¬ (k' = k ∧ d' = d) → OwnI w1 B v (f k' d') ∧ Apart v ((g.get d).getD (.slice none 0 0)) := fun k' d' v hv hne => by
    have ap : Apart v ((g.get d).getD (.slice none 0 0)) := by
      cases hg : g.get d with
      | none => exact fun _ _ h => by cases h
      | some u => exact h.ap k' d' k d v u hv (e.trans hg) (by
          by_cases h1 : k' = k
          · exact .inr fun h2 => hne ⟨h1, h2⟩
          · exact .inl h1)
    exact ⟨own_keepA (h.rw k' d' v hv).1 k1 ap, ap⟩
  refine ⟨Nat.le_trans h.sz (Nat.le_trans k1.size k2.size), h.tl, ?_, h.nd, fun k' => ?_, Nat.le_succ_of_le h.ln, fun k' y hy => ?_, fun k' k'' y y' hy hy' hne => ?_, fun k' d' v hv => ?_, fun k' d' hv => ?_, fun k' d' k'' d'' v v2 hv hv2 hne => ?_, fun k' d' => ?_⟩
  · exact (h.mp.keep k1 (gmo_own h.mp hrow)).keep k2 fun e => by have e : tb = ob := e; omega
  · rw [h.gt k']
    unfold upM
    split
    · rename_i e; subst e; rw [hk]; rfl
    · rfl
  · unfold upM at hy
    split at hy
    · injection hy with hy
      subst hy
      exact ⟨hobk.1, hm, put_nodup hobk.2.2.1, by have := put_len (k := d) (x := v') g; have := hobk.2.2.2; dsimp only; omega⟩
    · rename_i hne
      obtain ⟨o1, o2, o3, o4⟩ := h.ob k' y hy
      exact ⟨o1, (o2.keep k1 (gmo_own o2 hrow)).keep k2 fun e => h.ne _ _ _ _ hy hk hne e, o3, by omega⟩
  · unfold upM at hy hy'
    split at hy
    · injection hy with hy
      subst hy
      rw [if_neg (by rename_i e; exact fun e2 => hne (e.trans e2.symm))] at hy'
      rename_i e; exact h.ne k k'' (ob, g) y' hk hy' (fun e2 => hne (e.trans e2))
    · split at hy'
      · injection hy' with hy'
        subst hy'
        rename_i e1 e2
        exact h.ne k' k y (ob, g) hy hk e1
      · exact h.ne _ _ _ _ hy hy' hne
  · rw [rowM_put hk] at hv
    unfold updF
    split at hv
    · rename_i hc
      injection hv with hv
      subst hv
      rw [if_pos hc]
      exact ⟨own_keep ho k2 fun q hq e => cells1 ho hq e, by simp⟩
    · rename_i hc
      rw [if_neg hc]
      have h1 := (old k' d' v hv hc).1
      exact ⟨own_keep h1 k2 fun q hq e => cells1 h1 hq e, (h.rw k' d' v hv).2⟩
  · rw [rowM_put hk] at hv
    split at hv
    · cases hv
    · rename_i hc
      unfold updF
      rw [if_neg hc]; exact h.rn k' d' hv
  · rw [rowM_put hk] at hv hv2
    have app : ∀ {k' d' u}, rowM M k' d' = some u → ¬ (k' = k ∧ d' = d) → Apart v' u := fun {k' d' u} hu hc q h1 h2 => by
      have h3 := (old k' d' u hu hc).2
      rcases hb with hb | hb
      · exact h3 q h2 (hb ▸ h1)
      · obtain ⟨_, _, _, _, hlt⟩ := own_type (h.rw k' d' u hu).1 h2
        rw [h1] at hb
        injection hb with hb
        omega
    split at hv
    · rename_i hc
      injection hv with hv
      subst hv
      split at hv2
      · rename_i hc2
        exfalso
        rcases hne with h2 | h2
        · exact h2 (hc.1.trans hc2.1.symm)
        · exact h2 (hc.2.trans hc2.2.symm)
      · rename_i hc2; exact app hv2 hc2
    · rename_i hc
      split at hv2
      · injection hv2 with hv2
        subst hv2
        exact fun q h1 h2 => app hv hc q h2 h1
      · exact h.ap _ _ _ _ _ _ hv hv2 hne
  · unfold updF
    split
    · rename_i hc
      obtain ⟨rfl, rfl⟩ := hc
      have := h.fl k' d'
      rw [List.length_append]; simp; omega
    · exact Nat.le_succ_of_le (h.fl k' d')
end Go.Proofs.YtcdpocffoapbeaaGreatDoor

namespace Go.Pw
set_option linter.unusedVariables false
open Go
set_option linter.unusedVariables false
set_option linter.unusedSectionVars false
/-! A region that draws, with held loads, of which one maker (a: it stands behind nothing) floats between calls that stand in a row; the last operation (z) stands behind all. -/
section
variable {P : Program} {ops : Array Oper} {S : World → Prop} {hs : Option Tmp → Bool}
variable {m : Array Nat} {a z : Nat}
theorem swapTI {i j : Nat} {K : Act → World → Prop} {c : Act} {w : World} (hw0 : S w) (hsx : ∀ p, ops[j]? = some p → NoSel p) (hsy : ∀ p, ops[i]? = some p → NoSel p) (hc : ∀ p o, ops[j]? = some p → ops[i]? = some o → commH P hs ops p o = true)
    (h : TIh P S hs ops j (TIh P S hs ops i K) c w) : TIh P S hs ops i (TIh P S hs ops j K) c w := by
  unfold TIh at h ⊢
  cases hi : ops[i]? with
  | none =>
    simp only [hi] at h ⊢; exact h
  | some o =>
    cases hj : ops[j]? with
    | none => simp only [hi, hj] at h ⊢; exact h
    | some p =>
      simp only [hi, hj] at h ⊢
      exact swapH hw0 (hsx p hj) (hsy o hi) (hc p o hj hi) h
end
end Go.Pw
namespace Go.Vc
set_option linter.unusedVariables false
open Go Go.Pw
/-- What a region must come to, to be forgotten but for some slots. -/
def outK {ι : Type} (dl : DL) (slots : ι → List (Nat × Value)) (I : ι → World → Prop) : Exit → Fr → World → Prop
  | .normal, g, w => dsK dl g (Ret (∃ j, Agree g (slots j) ∧ I j w))
  | _, _, _ => False
theorem Draw.cut {P : Program} {n : Nat} {K : Exit → Fr → World → Prop} {id : Nat} {ops : Array Oper} {t : List It} {fg : Nat → Value} {dl : DL} {w : World} {ι : Type} (slots : ι → List (Nat × Value)) (I : ι → World → Prop)
    (h : Draw P n (outK dl slots I) id ops [] ⟨fg, dl⟩ w) (k : ∀ i g w, I i w → Sat P n K .normal t (setL (slots i) ⟨g, dl⟩) w) : Draw P n K id ops t ⟨fg, dl⟩ w :=
  ⟨fun hm hf => wpX_mono (h.h hm hf) fun e a' w' he => by
    obtain ⟨g', hg', rfl, hk⟩ := he
    have hk : outK dl slots I e g' w' := hk
    cases e with
    | normal =>
      obtain ⟨hd, hk⟩ := dsK_ds hk
      obtain ⟨j, h1, h2⟩ := Ret.h hk
      have := (k j g'.g w' h2).h
      rw [fr_eta hd, setL_of h1] at this
      exact ⟨g', hg', rfl, this hg'⟩
    | _ => exact hk.elim⟩
end Go.Vc
