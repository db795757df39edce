/- Helper text of this claim: lemmas and contracts that the proved statement rests on; no conditions of its own. -/
import Derived.Shelf.SlLaysF0
import Derived.Shelf.GgSortFunc.InsertionK
import Derived.Shelf.SlSortCmp.NoneTotal
import Derived.Test.YtcdpocffoapbeaaGreatDoorGMh7
namespace Go.Proofs.YtcdpocffoapbeaaGreatDoor
set_option linter.unusedVariables false
open Go.Shelf Go.RowKit Go.Pw Go.Vc Go.Cs Go.Lib Go.Cd Go.Mg
set_option linter.unusedVariables false
theorem zbE {α : Type} [DecidableEq α] : ∀ (l m : List α), l.Nodup → (∀ x ∈ l, x ∈ m) → l.length ≤ m.length
 | [], m, _, _ => Nat.zero_le _
 | x :: l, m, h, hs => by
  obtain ⟨h1, h2⟩ := List.nodup_cons.1 h
  have hx := hs x List.mem_cons_self
  have ih := zbE l (m.erase x) h2 fun y hy => (List.mem_erase_of_ne (fun e : y = x => h1 (e ▸ hy))).2 (hs y (List.mem_cons_of_mem _ hy))
  rw [List.length_erase_of_mem hx] at ih
  have := List.length_pos_of_mem hx
  rw [List.length_cons]; omega
theorem zjn {α β : Type} (f : α → List β) (n : Nat) : ∀ l : List α, (∀ x ∈ l, (f x).length ≤ n) → (l.flatMap f).length ≤ l.length * n
 | [], _ => by simp
 | x :: l, h => by
  rw [List.flatMap_cons, List.length_append, List.length_cons, Nat.succ_mul]
  have := h x List.mem_cons_self
  have := zjn f n l fun y hy => h y (List.mem_cons_of_mem _ hy)
  omega
theorem zmR (m : Nat) : ∀ l : List Pst, (∀ p ∈ l, p.places.length ≤ m) → cntP l ≤ l.length * (m + 2)
 | [], _ => by simp [cntP, encN]
 | p :: l, h => by
  rw [zbC, List.length_cons, Nat.succ_mul]
  have := h p List.mem_cons_self
  have := zmR m l fun y hy => h y (List.mem_cons_of_mem _ hy)
  omega
theorem zdF (t : List UInt8) : (wordsOf t).length ≤ 2 * t.length + 1 := by unfold wordsOf; rw [List.length_map]; exact zcR _
theorem zny {s : Sgm} {es : List Ent} (h : Built s es) (hk : Kept es) {n m : Nat} (hn : es.length ≤ n) (hm : ∀ e ∈ es, 2 * e.text.length + 1 ≤ m) : Bd s n (n * m) (n * (m + 2)) := by
 obtain ⟨r1, r2, r3⟩ := zan.1 h.right
 have hdn : ∀ l : List Int, AscB ltI l → l.Nodup := fun l hl => by
  unfold AscB at hl
  exact hl.imp fun h => by have := of_decide_eq_true h; omega
 have hkn : (s.terms.map Trm.key).Nodup := List.pairwise_map.2 (r3.imp fun h => zfM h)
 have hkey : ∀ t ∈ s.terms, ∃ e ∈ es, e.field = t.key.1 ∧ t.key.2 ∈ wordsOf e.text := fun t ht => by
  have hp := zcf s.terms r3 t ht
  obtain ⟨ne, _⟩ := zcO (r2 t ht)
  obtain ⟨p, hp2⟩ := List.exists_mem_of_ne_nil _ ne
  have hr := zdi t
  have h1 := zcc (zaZ hr) hp2
  have h2 := (zaH.1 hr).2 p hp2
  have h3 : placesE es t.key p.doc ≠ [] := by rw [← h.posts, hp, h1]; exact h2.2.2.1
  obtain ⟨e, he, _, e2, _, e4⟩ := zbk hk _ _ h3
  exact ⟨e, he, e2, e4⟩
 refine ⟨?_, ?_, fun z hz => ?_⟩
 ·have := zbE s.docs (es.map (·.doc)) (hdn _ r1.1) fun d hd => by
   obtain ⟨e, he, hd⟩ := (h.docs d).1 hd
   exact List.mem_map.2 ⟨e, he, hd⟩
  rw [List.length_map] at this; omega
 ·have h1 := zbE (s.terms.map Trm.key) (es.flatMap fun e => (wordsOf e.text).map fun w => (e.field, w)) hkn fun k hk2 => by
   obtain ⟨t, ht, rfl⟩ := List.mem_map.1 hk2
   obtain ⟨e, he, e2, e4⟩ := hkey t ht
   exact List.mem_flatMap.2 ⟨e, he, List.mem_map.2 ⟨_, e4, by rw [e2]⟩⟩
  have h2 := zjn (fun e : Ent => (wordsOf e.text).map fun w => (e.field, w)) m es fun e he => by
   rw [List.length_map]; exact Nat.le_trans (zdF _) (hm e he)
  rw [List.length_map] at h1
  exact Nat.le_trans h1 (Nat.le_trans h2 (Nat.mul_le_mul_right _ hn))
 ·have hr := zdi z
  have hp := zcf s.terms r3 z hz
  have hc : cntP (plT z) ≤ n * (m + 2) := by
   have h1 := zmR m (plT z) fun p hp2 => by
    have h1 := zcc (zaZ hr) hp2
    have h2 := (zaH.1 hr).2 p hp2
    have h3 : placesE es z.key p.doc = p.places := by rw [← h.posts, hp, h1]
    obtain ⟨e, he, _, _, e3, _⟩ := zbk hk _ _ (by rw [h3]; exact h2.2.2.1)
    rw [← h3, e3]
    exact Nat.le_trans (zha _ _ _) (Nat.le_trans (zdF _) (hm e he))
   have h4 : (plT z).length ≤ n := by
    have h2 := zbE ((plT z).map (·.doc)) (es.map (·.doc)) (hdn _ (zcU.1 (zaZ hr))) fun d hd => by
     obtain ⟨p, hp2, rfl⟩ := List.mem_map.1 hd
     have h1 := zcc (zaZ hr) hp2
     have h2 := (zaH.1 hr).2 p hp2
     have h3 : placesE es z.key p.doc = p.places := by rw [← h.posts, hp, h1]
     obtain ⟨e, he, e1, _⟩ := zbk hk _ _ (by rw [h3]; exact h2.2.2.1)
     exact List.mem_map.2 ⟨e, he, e1⟩
    rw [List.length_map, List.length_map] at h2; omega
   exact Nat.le_trans h1 (Nat.mul_le_mul_right _ h4)
  obtain ⟨e, he, e2, e4⟩ := hkey z hz
  refine ⟨?_, ?_, hc⟩
  ·obtain ⟨x, hx, e1⟩ := List.mem_map.1 e4
   have := zoq (zij _ x hx)
   rw [e1] at this
   have : z.word.length ≤ 40 := this
   omega
  ·rw [(zcO (r2 z hz)).2]
   have := zcH (plT z)
   unfold cntP at hc
   omega
set_option maxRecDepth 100000
def renTm : Go.Shelf.Ren := ⟨fun | 6 => 50 | 14 => 90 | 15 => 66 | 20 => 129 | 21 => 130 | 22 => 131 | 23 => 132 | 24 => 133 | 25 => 134 | 26 => 135 | 27 => 136 | 28 => 112 | 29 => 113 | 46 => 160 | 47 => 146 | 48 => 147 | 49 => 161 | 50 => 162 | 57 => 173 | n => n, fun | 0 => 0 | 3 => 3 | 4 => 4 | 5 => 5 | 9 => 9 | 22 => 29 | 24 => 56 | 25 => 87 | 39 => 103 | 45 => 142 | 46 => 143 | 50 => 134 | 53 => 150 | 55 => 152 | 66 => 168 | 70 => 139 | 76 => 189 | 77 => 190 | n => n, fun | n => n⟩
theorem laysTm : Go.Proofs.SlLaysF0.n6 Tryz.prog renTm := {
 mixed := by kernel_rfl
 f6 := ⟨Tryz.f50.name, by decide, Tryz.func50.trans (congrArg some (by kernel_rfl))⟩
 f14 := ⟨Tryz.f90.name, by decide, Tryz.func90.trans (congrArg some (by kernel_rfl))⟩
 f15 := Tryz.func66.trans (congrArg some (by kernel_rfl))
 f20 := ⟨Tryz.f129.name, by decide, Tryz.func129.trans (congrArg some (by kernel_rfl))⟩
 f21 := ⟨Tryz.f130.name, by decide, Tryz.func130.trans (congrArg some (by kernel_rfl))⟩
 f22 := ⟨Tryz.f131.name, by decide, Tryz.func131.trans (congrArg some (by kernel_rfl))⟩
 f23 := ⟨Tryz.f132.name, by decide, Tryz.func132.trans (congrArg some (by kernel_rfl))⟩
 f24 := ⟨Tryz.f133.name, by decide, Tryz.func133.trans (congrArg some (by kernel_rfl))⟩
 f25 := ⟨Tryz.f134.name, by decide, Tryz.func134.trans (congrArg some (by kernel_rfl))⟩
 f26 := ⟨Tryz.f135.name, by decide, Tryz.func135.trans (congrArg some (by kernel_rfl))⟩
 f27 := ⟨Tryz.f136.name, by decide, Tryz.func136.trans (congrArg some (by kernel_rfl))⟩
 f28 := Tryz.func112.trans (congrArg some (by kernel_rfl))
 f29 := Tryz.func113.trans (congrArg some (by kernel_rfl))
 f46 := ⟨Tryz.f160.name, by decide, Tryz.func160.trans (congrArg some (by kernel_rfl))⟩
 f47 := Tryz.func146.trans (congrArg some (by kernel_rfl))
 f48 := Tryz.func147.trans (congrArg some (by kernel_rfl))
 f49 := ⟨Tryz.f161.name, by decide, Tryz.func161.trans (congrArg some (by kernel_rfl))⟩
 f50 := ⟨Tryz.f162.name, by decide, Tryz.func162.trans (congrArg some (by kernel_rfl))⟩
 f57 := ⟨Tryz.f173.name, by decide, Tryz.func173.trans (congrArg some (by kernel_rfl))⟩
 t0 := Tryz.underlying0
 a0 := Tryz.isAgg0
 z0 := Tryz.sizeOf0
 v0 := Tryz.zeroValue0
 t3 := Tryz.underlying3
 a3 := Tryz.isAgg3
 z3 := Tryz.sizeOf3
 v3 := Tryz.zeroValue3
 t4 := Tryz.underlying4
 a4 := Tryz.isAgg4
 z4 := Tryz.sizeOf4
 v4 := Tryz.zeroValue4
 t5 := Tryz.underlying5
 a5 := Tryz.isAgg5
 z5 := Tryz.sizeOf5
 v5 := Tryz.zeroValue5
 t9 := Tryz.underlying9
 a9 := Tryz.isAgg9
 z9 := Tryz.sizeOf9
 v9 := Tryz.zeroValue9
 t22 := Tryz.underlying29
 a22 := Tryz.isAgg29
 z22 := Tryz.sizeOf29
 v22 := Tryz.zeroValue29
 t25 := Tryz.underlying87
 a25 := Tryz.isAgg87
 z25 := Tryz.sizeOf87
 v25 := Tryz.zeroValue87
 t39 := Tryz.underlying103
 a39 := Tryz.isAgg103
 z39 := Tryz.sizeOf103
 v39 := Tryz.zeroValue103
 t45 := Tryz.underlying142
 a45 := Tryz.isAgg142
 z45 := Tryz.sizeOf142
 v45 := Tryz.zeroValue142
 t46 := Tryz.underlying143
 a46 := Tryz.isAgg143
 z46 := Tryz.sizeOf143
 v46 := Tryz.zeroValue143
 t50 := Tryz.underlying134
 a50 := Tryz.isAgg134
 z50 := Tryz.sizeOf134
 v50 := Tryz.zeroValue134
 t53 := Tryz.underlying150
 a53 := Tryz.isAgg150
 z53 := Tryz.sizeOf150
 v53 := Tryz.zeroValue150
 t55 := Tryz.underlying152
 a55 := Tryz.isAgg152
 z55 := Tryz.sizeOf152
 v55 := Tryz.zeroValue152
 t66 := Tryz.underlying168
 a66 := Tryz.isAgg168
 z66 := Tryz.sizeOf168
 v66 := Tryz.zeroValue168
 t70 := Tryz.underlying139
 a70 := Tryz.isAgg139
 z70 := Tryz.sizeOf139
 v70 := Tryz.zeroValue139
 t76 := Tryz.underlying189
 a76 := Tryz.isAgg189
 z76 := Tryz.sizeOf189
 v76 := Tryz.zeroValue189
 t77 := Tryz.underlying190
 a77 := Tryz.isAgg190
 z77 := Tryz.sizeOf190
 v77 := Tryz.zeroValue190 }
end Go.Proofs.YtcdpocffoapbeaaGreatDoor
namespace Go.Proofs.YtcdpocffoapbeaaGreatDoor
set_option linter.unusedVariables false
open Go.Shelf Go.RowKit Go.Pw Go.Vc Go.Cs Go.Lib Go.Cd Go.Mg Go.Sort
set_option linter.unusedVariables false
set_option maxRecDepth 100000
def Gr (w w' : World) : Prop := ∃ q os, w' = grow (w.drewN q) os
theorem Gr.refl (w : World) : Gr w w := ⟨0, #[], by unfold grow; simp [World.drewN_zero]⟩
theorem Gr.trans {a b c : World} (h : Gr a b) (k : Gr b c) : Gr a c := by
 obtain ⟨q, os, rfl⟩ := h
 obtain ⟨q2, os2, rfl⟩ := k
 refine ⟨q + q2, os ++ os2, ?_⟩
 rw [← World.drewN_drewN, ← grow_grow]; rfl
theorem Gr.drew (w : World) : Gr w w.drew := ⟨1, #[], by unfold grow; simp; rfl⟩
theorem Gr.alloc (w : World) (o : Obj) : Gr w (w.alloc o) := ⟨0, #[o], by rw [alloc_eq_grow]; rfl⟩
section
variable {w : World}
theorem zpX {b : Nat} (x y : Int) (hat : At w b 0 [.int .i64 x, .int .i64 y]) : Calls Tryz.prog 91 #[.slice (some ⟨b, 0, none⟩) 2 2] w fun e w' => e = .returned (.int .i64 (if x ≠ 0 then x else y)) ∧ w' = w := by
 refine zaa (args := [.slice (some ⟨b, 0, none⟩) 2 2]) Tryz.func91 rfl NL ?_; refine GW ?_
 have c0 : w.cell? ⟨b, 0 + 0, none⟩ = some (.int .i64 x) := hat 0 _ rfl
 have c1 : w.cell? ⟨b, 0 + 1, none⟩ = some (.int .i64 y) := hat 1 _ rfl
 refine Loop.intro (ι := Nat) (fun i => [(3, .int .i64 0), (6, .slice (some ⟨b, 0, none⟩) 2 2), (7, .int .i64 2), (8, .int .i64 (i : Nat))])
  (fun i wr => wr = w ∧ i ≤ 2 ∧ (1 ≤ i → x = 0) ∧ (2 ≤ i → y = 0)) (fun i => 2 - i) 0 ⟨rfl, rfl, rfl, rfl, trivial⟩ ⟨rfl, Nat.zero_le _, fun h => by omega, fun h => by omega⟩ ?_
 rintro i gg wr ⟨hW, hi, h1, h2⟩
 subst hW
 have hK := Kp.refl wr n_
 refine GW ?_
 have hc : i = 0 ∨ i = 1 ∨ i = 2 := by omega
 rcases hc with rfl | rfl | rfl
 ·by_cases hx : x = 0
  ·refine KGO ?_
   exact ⟨1, ⟨rfl, rfl, rfl, rfl, trivial⟩, ⟨rfl, by omega, fun _ => hx, fun h => by omega⟩, by dsimp only; omega⟩
  ·refine KGO ?_
   exact ⟨by rw [if_pos hx], rfl⟩
 ·have hx := h1 (by omega)
  by_cases hy : y = 0
  ·refine KGO ?_
   exact ⟨2, ⟨rfl, rfl, rfl, rfl, trivial⟩, ⟨rfl, by omega, fun _ => hx, fun _ => hy⟩, by dsimp only; omega⟩
  ·refine KGO ?_
   exact ⟨by rw [if_neg (by omega)], rfl⟩
 ·have hx := h1 (by omega)
  have hy := h2 (by omega)
  refine KGO ?_
  exact ⟨by rw [hx, hy]; rfl, rfl⟩
theorem zpR (x y : Int) : Calls Tryz.prog 92 #[.int .i64 x, .int .i64 y] w fun e w' => e = .returned (.int .i64 (cmpI x y)) ∧ w = w' := by
 refine zaa (args := [.int .i64 x, .int .i64 y]) Tryz.func92 rfl NL ?_; refine GW ?_
 refine CallS.of (Tryz.call137 _ _) (zhU x) ?_
 rintro e _ ⟨rfl, rfl⟩
 refine RT ?_
 refine CallS.of (Tryz.call137 _ _) (zhU y) ?_
 rintro e _ ⟨rfl, rfl⟩
 refine RT ?_
 unfold cmpI
 by_cases h1 : x < y
 ·refine KGO ?_
  exact ⟨by rw [if_pos h1], rfl⟩
 by_cases h2 : y < x
 ·refine KGO ?_
  exact ⟨by rw [if_neg h1, if_pos h2], rfl⟩
 ·refine KGO ?_
  exact ⟨by rw [if_neg h1, if_neg h2], rfl⟩
theorem zkJ (x y : Trm) : Calls Tryz.prog 51 #[.agg (tmC x).toArray, .agg (tmC y).toArray] w fun e w' => e = .returned (.int .i64 (cmpT x y)) ∧ Gr w w' := by
 refine zaa (args := [.agg (tmC x).toArray, .agg (tmC y).toArray]) Tryz.func51 rfl NL ?_; refine GW ?_
 have g1 := Gr.alloc w (.cells (List.toArray (tmC x)) 56)
 obtain ⟨a_b1, v_b1, k_w1, z_w1, r_w1⟩ := new5 w 56 (tmC x)
 generalize w.alloc (.cells (List.toArray (tmC x)) 56) = w1 at *
 generalize hs_b1 : w.heap.size = b1 at *
 have g2 := Gr.alloc w1 (.cells (List.toArray (tmC y)) 56)
 obtain ⟨a_b2, v_b2, k_w2, z_w2, r_w2⟩ := new5 w1 56 (tmC y)
 generalize w1.alloc (.cells (List.toArray (tmC y)) 56) = w2 at *
 generalize hs_b2 : w1.heap.size = b2 at *
 have G2 := g1.trans g2
 have a1 := zam a_b1 k_w2
 clear a_b1 g1 g2
 refine KGO ?_
 refine Draw.held (fun u => Kp w2 u n_ ∧ Gr w2 u) (fun _ => true) (by decide +kernel) ⟨(Kp.refl w2 n_).drew, Gr.drew w2⟩ ?_
 refine KGO ?_
 refine Held.one (by rfl) (fun u hu => (zam a1 hu.1) 0 _ rfl) ?_
 refine KGO ?_
 refine Held.one (by rfl) (fun u hu => (zam a_b2 hu.1) 0 _ rfl) ?_
 refine KGO ?_
 refine CallS.of (Tryz.call92 _ _) (zpR (w := w2.drew) x.field y.field) ?_
 rintro e _ ⟨rfl, rfl⟩
 have k23 : Kp w2 w2.drew n_ := (Kp.refl w2 n_).drew
 have g23 := Gr.drew w2
 obtain ⟨w3, hw3⟩ : ∃ w3, w2.drew = w3 := ⟨_, rfl⟩
 rw [hw3] at k23 g23 ⊢
 refine RT ?_
 refine ⟨⟨k23, g23⟩, ?_⟩
 refine KGO ?_
 refine Held.one (by rfl) (fun u hu => (zam a1 hu.1) 1 _ rfl) ?_
 refine KGO ?_
 refine Held.one (by rfl) (fun u hu => (zam a_b2 hu.1) 1 _ rfl) ?_
 refine KGO ?_
 refine CallS.of (Tryz.call93 _ _) (zhj (str x.word) (str y.word) w3) ?_
 rintro e _ ⟨rfl, rfl⟩
 refine RT ?_
 refine ⟨⟨k23, g23⟩, ?_⟩
 refine KGO ?_
 refine RunV.of (bs2I _ _ _) ?_
 have g4 := Gr.alloc w3 (.cells (List.toArray [.int .i64 (cmpI x.field y.field), .int .i64 (compareBytes (L (str x.word)) (L (str y.word)))]) 3)
 obtain ⟨a_b4, v_b4, k_w4, z_w4, r_w4⟩ := new5 w3 3 ([.int .i64 (cmpI x.field y.field), .int .i64 (compareBytes (L (str x.word)) (L (str y.word)))])
 generalize w3.alloc (.cells (List.toArray ([.int .i64 (cmpI x.field y.field), .int .i64 (compareBytes (L (str x.word)) (L (str y.word)))])) 3) = w4 at *
 generalize hs_b4 : w3.heap.size = b4 at *
 refine ⟨⟨k23.trans0 k_w4, g23.trans g4⟩, ?_⟩
 refine KGO ?_
 refine CallS.of (Tryz.call91 _ _) (zpX _ _ a_b4) ?_
 rintro e _ ⟨rfl, rfl⟩
 refine RT ?_
 refine ⟨⟨k23.trans0 k_w4, g23.trans g4⟩, ?_⟩
 refine KGO ?_
 exact ⟨rfl, G2.trans (g23.trans g4)⟩
end
end Go.Proofs.YtcdpocffoapbeaaGreatDoor
namespace Go.Vc
set_option linter.unusedVariables false
open Go Go.Pw Go.Sort Go.Proofs
set_option linter.unusedVariables false
section
variable {α : Type} [Inhabited α] {enc : α → List Value} {w : World} {g q k : Nat} {os : Array Obj} {e : TypeId}
theorem zfK (hk : ∀ x, (enc x).length = k) (l : List α) : flatK enc k l.toArray = (l.flatMap enc).toArray := by
 have hlen : (l.flatMap enc).length = l.length * k := zbr enc k hk l
 apply Array.ext
 ·rw [size_flatK]; simp only [List.size_toArray]; exact hlen.symm
 ·intro t h1 h2
  have ht : t < l.length * k := by rw [size_flatK] at h1; simpa using h1
  have hk0 : 0 < k := by
   rcases Nat.eq_zero_or_pos k with h | h
   ·subst h; simp at ht
   ·exact h
  have hi : t / k < l.length := Nat.div_lt_of_lt_mul (by rwa [Nat.mul_comm] at ht)
  have hm : t % k < k := Nat.mod_lt _ hk0
  have h3 := get_flatK enc k l.toArray t (by simpa using ht)
  rw [getElem!_pos _ t h1] at h3
  rw [h3]
  have hd := zcS enc k hk l (t / k)
  have e1 : (l.flatMap enc)[t]? = ((l.drop (t / k)).flatMap enc)[t % k]? := by
   rw [← hd, List.getElem?_drop, Nat.mul_comm, Nat.div_add_mod]
  rw [List.drop_eq_getElem_cons hi, List.flatMap_cons, List.getElem?_append_left (by rw [hk]; exact hm)] at e1
  have e2 : l.toArray[t / k]! = l[t / k] := by rw [getElem!_pos _ _ (by simpa using hi)]; simp
  rw [e2]
  have e3 : (l.flatMap enc)[t]? = some ((l.flatMap enc).toArray[t]) := by
   rw [List.getElem?_eq_getElem (by simpa using h2)]; simp
  rw [e3] at e1
  have e4 : (enc l[t / k])[t % k]? = some (enc l[t / k])[t % k]! := by
   rw [List.getElem?_eq_getElem (by rw [hk]; exact hm), getElem!_pos _ _ (by rw [hk]; exact hm)]
  rw [e4] at e1
  injection e1 with e1
  exact e1.symm
theorem zll {l : List α} {cells : List Value} (hk : ∀ x, (enc x).length = k) (h : VarK w g e cells) (ht : cells.take (l.length * k) = l.flatMap enc) : HoldsK enc k w g 0 l.toArray := by
 unfold HoldsK
 rw [zfK hk]
 exact zeM (enc := id) h (by rw [zbr enc k hk, ht, List.map_id])
theorem zni {B n cap : Nat} {xs : List Value} (hk : ∀ x, (enc x).length = k) (ho : w.ownsRow B e k (.slice (some ⟨g, 0, none⟩) n cap) n xs) (l : List α) (hl : l.length = n) :
  (sortWorldK enc k w g 0 q l.toArray os).ownsRow B e k (.slice (some ⟨g, 0, none⟩) n cap) n (l.flatMap enc) := by
 unfold sortWorldK putRowK
 rw [zfK hk]
 have hF : (l.flatMap enc).length = n * k := by rw [zbr enc k hk, hl]
 rcases ho.2 with ⟨h, _⟩ | ⟨g', cap', cur, h1, h2, h3, h4, h5, h6, h7⟩
 ·cases h
 ·injection h1 with h1 _ hc
  injection h1 with h1
  injection h1 with h1
  subst h1; subst hc
  refine ⟨hF, .inr ⟨g, cap, _, rfl, h2, zjj _ h3, by omega, h5, by simp [putCells, h6], ?_⟩⟩
  have := zjy (enc := id) cur (l.flatMap enc) (by rw [hF, h6]; exact Nat.mul_le_mul_right _ h4)
  rw [hF, List.map_id] at this
  exact this
theorem zkV (d : Array α) : Kp w (sortWorldK enc k w g 0 q d os) (one_ g) := zeP (enc := id) _
end
end Go.Vc
namespace Go.Proofs.YtcdpocffoapbeaaGreatDoor
set_option linter.unusedVariables false
open Go.Shelf Go.RowKit Go.Pw Go.Vc Go.Cs Go.Lib Go.Cd Go.Mg Go.Sort
set_option linter.unusedVariables false
set_option maxRecDepth 100000
instance : Inhabited Trm := ⟨⟨0, [], []⟩⟩
theorem zjC (x y : Trm) : ltOf cmpT x y = ltK x.key y.key := by
 have h := zdV x y
 unfold ltOf
 cases hk : ltK x.key y.key with
 | true => exact decide_eq_true (h.2 hk)
 | false => exact decide_eq_false fun e => by rw [h.1 e] at hk; cases hk
theorem swoT : SWO (ltOf cmpT) where
 irrefl x := by rw [zjC]; exact stoK.irr _
 trans x y z h1 h2 := by rw [zjC] at *; exact stoK.tr _ _ _ h1 h2
 ntrans x y z h1 h2 := by
  rw [zjC] at *
  cases h : ltK x.key z.key with
  | false => rfl
  | true =>
   cases h3 : ltK y.key x.key with
   | true =>
    have := stoK.tr _ _ _ h3 h
    rw [h2] at this; cases this
   | false =>
    have e := stoK.tri _ _ h1 h3
    rw [e] at h; rw [h2] at h; cases h
theorem zkP (blk off size : Nat) (w : World) : CmpLays Tryz.prog 51 #[] tmC 3 cmpT blk off size w := fun m os dk hs x y => zkJ x y
section
variable {w : World} {B : Nat}
theorem zpL {v : Value} (l : List Trm) (ho : OwnR 56 tmC 3 w B v l) (hl : l.length ≤ 17592186044416) :
  Calls Tryz.prog 50 #[v, .func (.func 51) #[] #[]] w fun e w' => e = .returned (.tuple #[]) ∧ ∃ l', l'.Perm l ∧ l'.Pairwise (fun a b => ltK b.key a.key = false) ∧ OwnR 56 tmC 3 w' B v l' ∧ Kp w w' (own_ v) := by
 rcases own_blockK ho with ⟨rfl, h0⟩ | ⟨g, cap, cells, rfl, hBg, hv, hnc, hcm, hcl, htk⟩
 ·obtain rfl : l = [] := List.eq_nil_of_length_eq_zero h0
  refine (AnyF.slices_SortFunc_none laysTm none 0 _ w).mono ?_
  rintro e w' ⟨rfl, rfl⟩
  exact ⟨rfl, [], .refl _, .nil, ho, Kp.refl _ _⟩
 ·refine (AnyQ.slices_SortFunc laysTm 3 Tryz.isAgg56 Tryz.sizeOf56 tmC lenTm (fun x v hv => by simp [tmC] at hv; rcases hv with rfl | rfl | rfl <;> rfl) cmpT swoT 51 #[] g 0 cap l.toArray w (fun _ _ => rfl) (zkP _ _ _ _) (zll lenTm hv htk) hv.lt (by simp; omega)).mono ?_
  rintro e w' ⟨rfl, d', n, os, ⟨hp1, _, hp3⟩, hs, rfl⟩
  have hsz : d'.size = l.length := by simpa using hp1
  have e1 : d'.extract 0 l.toArray.size = d' := by rw [← hp1]; exact Array.extract_size
  have e2 : l.toArray.extract 0 l.toArray.size = l.toArray := Array.extract_size
  rw [e1, e2] at hp3
  have hd : d'.toList.toArray = d' := by simp
  refine ⟨rfl, d'.toList, by simpa using hp3, ?_, ?_, ?_⟩
  ·rw [List.pairwise_iff_getElem]
   intro i j hi hj hij
   have hi' : i < d'.size := by simpa using hi
   have hj' : j < d'.size := by simpa using hj
   have h := hs i j (Nat.zero_le _) hij (by rw [List.size_toArray]; omega)
   rw [getElem!_pos d' j hj', getElem!_pos d' i hi', zjC] at h
   exact h
  ·have h := zni (q := n) (os := os) lenTm ho d'.toList (by simpa using hsz)
   rw [hd] at h
   unfold OwnR
   rw [show d'.toList.length = l.length by simpa using hsz]
   exact h
  ·exact (zkV d').mono fun q _ hq => by have hq : q = g := hq; rw [hq]; rfl
end
end Go.Proofs.YtcdpocffoapbeaaGreatDoor
namespace Go.Proofs.YtcdpocffoapbeaaGreatDoor
set_option linter.unusedVariables false
open Go.Shelf Go.RowKit Go.Pw Go.Vc Go.Cs Go.Lib Go.Cd Go.Mg
set_option linter.unusedVariables false
set_option maxRecDepth 100000
section
variable {κ : Type} [DecidableEq κ] {k : κ} {x : Value}
theorem zep : ∀ m : GM κ, (m.put k x).map (·.1) = if k ∈ m.map (·.1) then m.map (·.1) else m.map (·.1) ++ [k]
 | [] => by simp [GM.put]
 | (s, v) :: r => by
  unfold GM.put
  by_cases h : k = s
  ·subst h; simp
  ·rw [if_neg h, List.map_cons, zep r, List.map_cons]
   by_cases h2 : k ∈ r.map (·.1)
   ·rw [if_pos h2, if_pos (List.mem_cons_of_mem _ h2)]
   ·rw [if_neg h2, if_neg (fun e => by rcases List.mem_cons.1 e with e | e; exact h e; exact h2 e)]; rfl
theorem zeH {m : GM κ} (h : (m.map (·.1)).Nodup) : ((m.put k x).map (·.1)).Nodup := by
 rw [zep]
 split
 ·exact h
 ·rename_i hn
  exact List.nodup_append.2 ⟨h, by simp, fun a ha b hb => by rw [List.mem_singleton.1 hb]; exact fun e => hn (e ▸ ha)⟩
theorem ziX (m : GM κ) : (m.put k x).length ≤ m.length + 1 := by
 have := congrArg List.length (zep (k := k) (x := x) m)
 rw [List.length_map] at this
 rw [this]
 split <;> simp
theorem zlQ : ∀ {m : GM κ} {v : Value}, m.get k = some v → (k, v) ∈ m
 | (s, u) :: r, v, h => by
  unfold GM.get at h
  split at h
  ·rename_i e; injection h with h; subst h; subst e; exact List.mem_cons_self
  ·exact List.mem_cons_of_mem _ (zlQ h)
theorem ziE : ∀ {m : GM κ} {v : Value}, (m.map (·.1)).Nodup → (k, v) ∈ m → m.get k = some v
 | (s, u) :: r, v, hn, h => by
  rw [List.map_cons, List.nodup_cons] at hn
  unfold GM.get
  rcases List.mem_cons.1 h with h | h
  ·injection h with h1 h2; subst h1; subst h2; rw [if_pos rfl]
  ·rw [if_neg (fun e => hn.1 (by rw [← e]; exact List.mem_map.2 ⟨_, h, rfl⟩))]
   exact ziE hn.2 h
theorem zeq : ∀ {m : GM κ}, m.get k = none ↔ k ∉ m.map (·.1)
 | [] => by simp [GM.get]
 | (s, u) :: r => by
  unfold GM.get
  split
  ·rename_i e; subst e; simp
  ·rename_i e
   rw [zeq, List.map_cons, List.mem_cons, not_or]
   exact ⟨fun h => ⟨e, h⟩, fun h => h.2⟩
end
abbrev TM := Ky → Option (Nat × GM Int)
def valM (x : Nat × GM Int) : Value := .map (some x.1)
def rowM (M : TM) (k : Ky) (d : Int) : Option Value := (M k).bind fun x => x.2.get d
def upM (M : TM) (k : Ky) (x : Nat × GM Int) : TM := fun k' => if k' = k then some x else M k'
theorem zcB {κ : Type} {enc : κ → Value} {w : World} {B s n mb : Nat} {E : TypeId} {v : Value} {xs : List Value} {m : GM κ} (hm : GMapO enc w mb m) (h : w.ownsRow B E s v n xs) : ¬ own_ v mb := fun e => by
 obtain ⟨cs, z, hh, _⟩ := zak h e
 obtain ⟨es, cl, h1, _⟩ := hm
 rw [h1] at hh; cases hh
structure TmAt (w : World) (B tb : Nat) (m : GM Ky) (M : TM) (f : Ky → Int → List Int) (N : Nat) : Prop where
 sz : B ≤ w.heap.size
 tl : tb < B
 mp : GMapO encKy w tb m
 nd : (m.map (·.1)).Nodup
 gt : ∀ k, m.get k = (M k).map valM
 ln : m.length ≤ N
 ob : ∀ k x, M k = some x → B ≤ x.1 ∧ GMapO (Value.int .i64) w x.1 x.2 ∧ (x.2.map (·.1)).Nodup ∧ x.2.length ≤ N
 ne : ∀ k k' x x', M k = some x → M k' = some x' → k ≠ k' → x.1 ≠ x'.1
 rw : ∀ k d v, rowM M k d = some v → OwnI w B v (f k d) ∧ f k d ≠ []
 rn : ∀ k d, rowM M k d = none → f k d = []
 ap : ∀ k d k' d' v v', rowM M k d = some v → rowM M k' d' = some v' → (k ≠ k' ∨ d ≠ d') → Apart v v'
 fl : ∀ k d, (f k d).length ≤ N
theorem TmAt.keep {w w' : World} {c : Nat → Prop} {B tb N : Nat} {m : GM Ky} {M : TM} {f : Ky → Int → List Int} (h : TmAt w B tb m M f N) (k : Kp w w' c) (h1 : ¬ c tb)
  (h2 : ∀ q, q < w.heap.size → B ≤ q → c q → (∀ es cl, w.heap[q]? ≠ some (.map es cl)) ∧ ∀ cs z, w.heap[q]? ≠ some (.cells cs 3 z)) : TmAt w' B tb m M f N where
 sz := Nat.le_trans h.sz k.size
 tl := h.tl
 mp := h.mp.keep k h1
 nd := h.nd
 gt := h.gt
 ln := h.ln
 ob key x hx := by
  obtain ⟨o1, o2, o3, o4⟩ := h.ob key x hx
  refine ⟨o1, o2.keep k fun e => ?_, o3, o4⟩
  have hh := (h2 _ o2.g.lt o1 e).1
  obtain ⟨es, cl, hm, _⟩ := o2
  exact hh _ _ hm
 ne := h.ne
 rw key d v hv := by
  obtain ⟨r1, r2⟩ := h.rw key d v hv
  refine ⟨zay r1 k fun q hq e => ?_, r2⟩
  obtain ⟨cs, z, hh, hB, hlt⟩ := zak r1 hq
  exact (h2 q hlt hB e).2 _ _ hh
 rn := h.rn
 ap := h.ap
 fl := h.fl
theorem TmAt.keep0 {w w' : World} {B tb N : Nat} {m : GM Ky} {M : TM} {f : Ky → Int → List Int} (h : TmAt w B tb m M f N) (k : Kp w w' n_) : TmAt w' B tb m M f N := h.keep k id fun q _ _ e => e.elim
theorem TmAt.keepB {w w' : World} {c : Nat → Prop} {B tb N : Nat} {m : GM Ky} {M : TM} {f : Ky → Int → List Int} (h : TmAt w B tb m M f N) (k : Kp w w' c) (hc : ∀ q, c q → q < tb) : TmAt w' B tb m M f N :=
 h.keep k (fun e => by have := hc _ e; omega) fun q _ hB e => by have := hc q e; have := h.tl; omega
theorem TmAt.init (w : World) : TmAt (w.alloc (.map #[] 0)) (w.heap.size + 1) w.heap.size [] (fun _ => none) (fun _ _ => []) 0 where
 sz := by simp
 tl := Nat.lt_succ_self _
 mp := GMapO.new w
 nd := .nil
 gt _ := rfl
 ln := Nat.le_refl _
 ob _ _ h := by cases h
 ne _ _ _ _ h := by cases h
 rw _ _ _ h := by cases h
 rn _ _ _ := rfl
 ap _ _ _ _ _ _ h := by cases h
 fl _ _ := Nat.le_refl _
theorem TmAt.mono {w : World} {B tb N N' : Nat} {m : GM Ky} {M : TM} {f : Ky → Int → List Int} (h : TmAt w B tb m M f N) (hN : N ≤ N') : TmAt w B tb m M f N' :=
 { h with ln := Nat.le_trans h.ln hN, ob := fun k x hx => let ⟨a, b, c, d⟩ := h.ob k x hx; ⟨a, b, c, Nat.le_trans d hN⟩, fl := fun k d => Nat.le_trans (h.fl k d) hN }
theorem zgu {M : TM} {k : Ky} {ob : Nat} (h : M k = none) : rowM (upM M k (ob, [])) = rowM M := by
 funext k' d
 unfold rowM upM
 split
 ·rename_i e; subst e; rw [h]; rfl
 ·rfl
theorem TmAt.new {w w1 w2 : World} {B tb N : Nat} {m : GM Ky} {M : TM} {f : Ky → Int → List Int} (h : TmAt w B tb m M f N) {k : Ky} (hk : M k = none) {ob : Nat} (hob : w.heap.size ≤ ob) (k1 : Kp w w1 n_) (hn : GMapO (Value.int .i64) w1 ob ([] : GM Int))
  (hm : GMapO encKy w2 tb (m.put k (.map (some ob)))) (k2 : Kp w1 w2 (one_ tb)) : TmAt w2 B tb (m.put k (.map (some ob))) (upM M k (ob, [])) f (N + 1) := by
 have hB := h.sz
 have htl := h.tl
 have h1 := h.keep0 k1
 have hobs : ∀ k' x, M k' = some x → x.1 < ob := fun k' x hx => by have := (h.ob k' x hx).2.1.g.lt; omega
 refine ⟨Nat.le_trans h1.sz k2.size, h.tl, hm, zeH h.nd, fun k' => ?_, ?_, fun k' x hx => ?_, fun k' k'' x x' hx hx' hne => ?_, fun k' d v hv => ?_, fun k' d hv => ?_, fun k' d k'' d' v v' hv hv' hne => ?_, fun k' d => Nat.le_succ_of_le (h.fl k' d)⟩
 ·rw [GM.get_put]
  unfold upM
  split
  ·rfl
  ·exact h.gt k'
 ·have := ziX (k := k) (x := .map (some ob)) m; have := h.ln; omega
 ·unfold upM at hx
  split at hx
  ·injection hx with hx
   subst hx
   exact ⟨by dsimp only; omega, hn.keep k2 (fun e => by have e : ob = tb := e; omega), .nil, Nat.zero_le _⟩
  ·obtain ⟨o1, o2, o3, o4⟩ := h1.ob k' x hx
   exact ⟨o1, o2.keep k2 (fun e => by have e : x.1 = tb := e; omega), o3, by omega⟩
 ·unfold upM at hx hx'
  split at hx
  ·injection hx with hx
   subst hx
   rw [if_neg (by rename_i e; exact fun e2 => hne (e.trans e2.symm))] at hx'
   have := hobs _ _ hx'
   dsimp only; omega
  ·split at hx'
   ·injection hx' with hx'
    subst hx'
    have := hobs _ _ hx
    dsimp only; omega
   ·exact h.ne _ _ _ _ hx hx' hne
 ·rw [zgu hk] at hv
  obtain ⟨r1, r2⟩ := h1.rw k' d v hv
  exact ⟨zay r1 k2 fun q hq e => by
   have e : q = tb := e
   obtain ⟨_, _, _, hBq, _⟩ := zak r1 hq
   omega, r2⟩
 ·rw [zgu hk] at hv; exact h.rn k' d hv
 ·rw [zgu hk] at hv hv'; exact h.ap _ _ _ _ _ _ hv hv' hne
theorem zhb {M : TM} {k : Ky} {ob : Nat} {g : GM Int} {d : Int} {v : Value} (h : M k = some (ob, g)) (k' : Ky) (d' : Int) : rowM (upM M k (ob, g.put d v)) k' d' = if k' = k ∧ d' = d then some v else rowM M k' d' := by
 unfold rowM upM
 by_cases e : k' = k
 ·subst e
  rw [if_pos rfl, h]
  show (g.put d v).get d' = _
  rw [GM.get_put]
  by_cases e2 : d' = d
  ·rw [if_pos e2, if_pos ⟨rfl, e2⟩]
  ·rw [if_neg e2, if_neg (fun h => e2 h.2)]; rfl
 ·rw [if_neg e, if_neg (fun h => e h.1)]
theorem TmAt.row {w : World} {B tb N : Nat} {m : GM Ky} {M : TM} {f : Ky → Int → List Int} (h : TmAt w B tb m M f N) {k : Ky} {ob : Nat} {g : GM Int} (hk : M k = some (ob, g)) (d : Int) : OwnI w B ((g.get d).getD (.slice none 0 0)) (f k d) := by
 have e : rowM M k d = g.get d := by unfold rowM; rw [hk]; rfl
 cases hg : g.get d with
 | none => rw [h.rn k d (e.trans hg)]; exact World.ownsRow_nil _ _ _ _
 | some v => exact (h.rw k d v (e.trans hg)).1
theorem TmAt.put {w w1 w2 : World} {B tb N : Nat} {m : GM Ky} {M : TM} {f : Ky → Int → List Int} (h : TmAt w B tb m M f N) {k : Ky} {ob : Nat} {g : GM Int} (hk : M k = some (ob, g)) {d x : Int} {v' : Value}
  (ho : OwnI w1 B v' (f k d ++ [x])) (k1 : Kp w w1 (own_ ((g.get d).getD (.slice none 0 0)))) {n0 : Nat} (hb : v'.ownBlock = ((g.get d).getD (.slice none 0 0)).ownBlock ∨ v'.ownBlock = some n0) (hn0 : w.heap.size ≤ n0)
  (hm : GMapO (Value.int .i64) w2 ob (g.put d v')) (k2 : Kp w1 w2 (one_ ob)) : TmAt w2 B tb m (upM M k (ob, g.put d v')) (updF f k d x) (N + 1) := by
 have hrow := h.row hk d
 have hobk := h.ob k _ hk
 dsimp only at hobk
 have hB := h.sz
 have htl := h.tl
 have e : rowM M k d = g.get d := by unfold rowM; rw [hk]; rfl
 have cells1 : ∀ {u : Value} {l : List Int} {q : Nat}, OwnI w1 B u l → u.ownBlock = some q → q ≠ ob := fun hu hq e => by
  obtain ⟨cs, z, hh, _⟩ := zak hu hq
  have hm1 : GMapO (Value.int .i64) w1 ob g := hobk.2.1.keep k1 (zcB hobk.2.1 hrow)
  obtain ⟨es, cl, h1, _⟩ := hm1
  rw [e, h1] at hh; cases hh
 have old : ∀ k' d' v, rowM M k' d' = some v → ¬ (k' = k ∧ d' = d) → OwnI w1 B v (f k' d') ∧ Apart v ((g.get d).getD (.slice none 0 0)) := fun k' d' v hv hne => by
  have ap : Apart v ((g.get d).getD (.slice none 0 0)) := by
   cases hg : g.get d with
   | none => exact fun _ _ h => by cases h
   | some u => exact h.ap k' d' k d v u hv (e.trans hg) (by
     by_cases h1 : k' = k
     ·exact .inr fun h2 => hne ⟨h1, h2⟩
     ·exact .inl h1)
  exact ⟨zlF (h.rw k' d' v hv).1 k1 ap, ap⟩
 refine ⟨Nat.le_trans h.sz (Nat.le_trans k1.size k2.size), h.tl, ?_, h.nd, fun k' => ?_, Nat.le_succ_of_le h.ln, fun k' y hy => ?_, fun k' k'' y y' hy hy' hne => ?_, fun k' d' v hv => ?_, fun k' d' hv => ?_, fun k' d' k'' d'' v v2 hv hv2 hne => ?_, fun k' d' => ?_⟩
 ·exact (h.mp.keep k1 (zcB h.mp hrow)).keep k2 fun e => by have e : tb = ob := e; omega
 ·rw [h.gt k']
  unfold upM
  split
  ·rename_i e; subst e; rw [hk]; rfl
  ·rfl
 ·unfold upM at hy
  split at hy
  ·injection hy with hy
   subst hy
   exact ⟨hobk.1, hm, zeH hobk.2.2.1, by have := ziX (k := d) (x := v') g; have := hobk.2.2.2; dsimp only; omega⟩
  ·rename_i hne
   obtain ⟨o1, o2, o3, o4⟩ := h.ob k' y hy
   exact ⟨o1, (o2.keep k1 (zcB o2 hrow)).keep k2 fun e => h.ne _ _ _ _ hy hk hne e, o3, by omega⟩
 ·unfold upM at hy hy'
  split at hy
  ·injection hy with hy
   subst hy
   rw [if_neg (by rename_i e; exact fun e2 => hne (e.trans e2.symm))] at hy'
   rename_i e; exact h.ne k k'' (ob, g) y' hk hy' (fun e2 => hne (e.trans e2))
  ·split at hy'
   ·injection hy' with hy'
    subst hy'
    rename_i e1 e2
    exact h.ne k' k y (ob, g) hy hk e1
   ·exact h.ne _ _ _ _ hy hy' hne
 ·rw [zhb hk] at hv
  unfold updF
  split at hv
  ·rename_i hc
   injection hv with hv
   subst hv
   rw [if_pos hc]
   exact ⟨zay ho k2 fun q hq e => cells1 ho hq e, by simp⟩
  ·rename_i hc
   rw [if_neg hc]
   have h1 := (old k' d' v hv hc).1
   exact ⟨zay h1 k2 fun q hq e => cells1 h1 hq e, (h.rw k' d' v hv).2⟩
 ·rw [zhb hk] at hv
  split at hv
  ·cases hv
  ·rename_i hc
   unfold updF
   rw [if_neg hc]; exact h.rn k' d' hv
 ·rw [zhb hk] at hv hv2
  have app : ∀ {k' d' u}, rowM M k' d' = some u → ¬ (k' = k ∧ d' = d) → Apart v' u := fun {k' d' u} hu hc q h1 h2 => by
   have h3 := (old k' d' u hu hc).2
   rcases hb with hb | hb
   ·exact h3 q h2 (hb ▸ h1)
   ·obtain ⟨_, _, _, _, hlt⟩ := zak (h.rw k' d' u hu).1 h2
    rw [h1] at hb
    injection hb with hb
    omega
  split at hv
  ·rename_i hc
   injection hv with hv
   subst hv
   split at hv2
   ·rename_i hc2
    exfalso
    rcases hne with h2 | h2
    ·exact h2 (hc.1.trans hc2.1.symm)
    ·exact h2 (hc.2.trans hc2.2.symm)
   ·rename_i hc2; exact app hv2 hc2
  ·rename_i hc
   split at hv2
   ·injection hv2 with hv2
    subst hv2
    exact fun q h1 h2 => app hv hc q h2 h1
   ·exact h.ap _ _ _ _ _ _ hv hv2 hne
 ·unfold updF
  split
  ·rename_i hc
   obtain ⟨rfl, rfl⟩ := hc
   have := h.fl k' d'
   rw [List.length_append]; simp; omega
  ·exact Nat.le_succ_of_le (h.fl k' d')
end Go.Proofs.YtcdpocffoapbeaaGreatDoor
namespace Go.Pw
set_option linter.unusedVariables false
open Go
set_option linter.unusedVariables false
set_option linter.unusedSectionVars false
section
variable {P : Program} {ops : Array Oper} {S : World → Prop} {hs : Option Tmp → Bool}
variable {m : Array Nat} {a z : Nat}
theorem swapTI {i j : Nat} {K : Act → World → Prop} {c : Act} {w : World} (hw0 : S w) (hsx : ∀ p, ops[j]? = some p → NoSel p) (hsy : ∀ p, ops[i]? = some p → NoSel p) (hc : ∀ p o, ops[j]? = some p → ops[i]? = some o → commH P hs ops p o = true)
  (h : TIh P S hs ops j (TIh P S hs ops i K) c w) : TIh P S hs ops i (TIh P S hs ops j K) c w := by
 unfold TIh at h ⊢
 cases hi : ops[i]? with
 | none =>
  simp only [hi] at h ⊢; exact h
 | some o =>
  cases hj : ops[j]? with
  | none => simp only [hi, hj] at h ⊢; exact h
  | some p =>
   simp only [hi, hj] at h ⊢
   exact swapH hw0 (hsx p hj) (hsy o hi) (hc p o hj hi) h
end
end Go.Pw
namespace Go.Vc
set_option linter.unusedVariables false
open Go Go.Pw
def outK {ι : Type} (dl : DL) (slots : ι → List (Nat × Value)) (I : ι → World → Prop) : Exit → Fr → World → Prop
 | .normal, g, w => dsK dl g (Ret (∃ j, Agree g (slots j) ∧ I j w))
 | _, _, _ => False
theorem Draw.cut {P : Program} {n : Nat} {K : Exit → Fr → World → Prop} {id : Nat} {ops : Array Oper} {t : List It} {fg : Nat → Value} {dl : DL} {w : World} {ι : Type} (slots : ι → List (Nat × Value)) (I : ι → World → Prop)
  (h : Draw P n (outK dl slots I) id ops [] ⟨fg, dl⟩ w) (k : ∀ i g w, I i w → Sat P n K .normal t (setL (slots i) ⟨g, dl⟩) w) : Draw P n K id ops t ⟨fg, dl⟩ w :=
 ⟨fun hm hf => zeA (h.h hm hf) fun e a' w' he => by
  obtain ⟨g', hg', rfl, hk⟩ := he
  have hk : outK dl slots I e g' w' := hk
  cases e with
  | normal =>
   obtain ⟨hd, hk⟩ := zoE hk
   obtain ⟨j, h1, h2⟩ := Ret.h hk
   have := (k j g'.g w' h2).h
   rw [zov hd, ziB h1] at this
   exact ⟨g', hg', rfl, this hg'⟩
  | _ => exact hk.elim⟩
end Go.Vc
