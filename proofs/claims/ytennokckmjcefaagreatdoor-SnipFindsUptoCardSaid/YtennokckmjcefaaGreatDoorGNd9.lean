/- Helper lemmas that the proved statement rests on; no conditions of their own. -/
import Derived.Shelf.SlLaysF0
import Derived.Shelf.GgSortFunc.InsertionK
import Derived.Shelf.SlSortCmp.NoneTotal
import Derived.Test.YtennokckmjcefaaGreatDoorGNd2
set_option linter.unusedVariables false
set_option maxRecDepth 100000
namespace Go.Proofs.YtennokckmjcefaaGreatDoor
open Go.Shelf Go.RowKit Go.Pw Go.Vc Go.Cs Go.Lib Go.Cd Go.Mg
section
variable {w : World} {b : Nat} {sv dv : Sl} {l : List (Sv × Sgm)} {x : Ix}
theorem zqV (w : World) : RdS w ⟨⟨none, 0, 0⟩, ⟨none, 0, 0⟩⟩ ⟨[], []⟩ := OwS.rd (B := 0) ⟨World.ownsRow_nil _ _ _ _, World.ownsRow_nil _ _ _ _⟩
theorem zqj : Bd ⟨[], []⟩ 1000 20000 20000 := (znv 0 0 0).mono (by omega) (by omega) (by omega)
theorem build0Z (w : World) : (Instr.build 65 #[]).run Tryz.prog w = .ok (.agg (sgC ⟨⟨none, 0, 0⟩, ⟨none, 0, 0⟩⟩).toArray) w := by
 simp [Instr.build, go_sem, Tryz.runUnderlying65, sgC]
end
section
end
def SeenI (w : World) (mb : Nat) (F : List Int) : Prop := ∃ m, GMap (Value.int .i64) w mb m ∧ ∀ d, (m.get d).getD (.bool false) = .bool (decide (d ∈ F))
theorem SeenI.keep {w w' : World} {c : Nat → Prop} {mb : Nat} {F : List Int} (h : SeenI w mb F) (k : Kp w w' c) (hc : ¬ c mb) : SeenI w' mb F := by
 obtain ⟨m, h1, h2⟩ := h
 exact ⟨m, h1.keep k hc, h2⟩
section
end
section
end
structure Iw (x : Ix) (N Q Z : Nat) : Prop where
 ok : IxOk x
 wt : WtS 4000 x.segs N Q
 z : zX x.segs ≤ Z
theorem Iw.b {x : Ix} {N Q Z : Nat} (h : Iw x N Q Z) (hN : N ≤ 1000) (hQ : Q ≤ 20000) : IxB x := by
 obtain ⟨h1, h2, _, _⟩ := zpz h.ok h.wt
 exact ⟨h.ok, by omega, by omega, fun s hs => (h.wt.mem s hs).b.mono hN hQ hQ⟩
theorem Iw.mono {x : Ix} {N Q Z N' Q' Z' : Nat} (h : Iw x N Q Z) (h1 : N ≤ N') (h2 : Q ≤ Q') (h3 : Z ≤ Z') : Iw x N' Q' Z' := ⟨h.ok, h.wt.mono h1 h2, Nat.le_trans h.z h3⟩
theorem Iw.empty : Iw emptyX 0 0 0 := ⟨zgY.1, trivial, Nat.le_refl _⟩
def lenX (tx : List (List UInt8)) : Nat := (tx.getD 0 []).length + (tx.getD 1 []).length + (tx.getD 2 []).length + (tx.getD 3 []).length + (tx.getD 4 []).length + (tx.getD 5 []).length
theorem zgU {tx : List (List UInt8)} (h6 : tx.length = 6) : ∀ t ∈ tx, t.length ≤ lenX tx := by
 match tx, h6 with
 | [a, b, c, d, e, f], _ =>
  intro t ht
  simp only [List.mem_cons, List.not_mem_nil, or_false] at ht
  show _ ≤ a.length + b.length + c.length + d.length + e.length + f.length
  rcases ht with rfl | rfl | rfl | rfl | rfl | rfl <;> omega
theorem Iw.add {x : Ix} {N Q Z : Nat} (h : Iw x N Q Z) {doc : Int} {tx : List (List UInt8)} (h6 : tx.length = 6) (hL : lenX tx ≤ 1500) : Iw (addX x doc tx).2 (N + 5) (Q + (10 * lenX tx + 15)) (Z + (8 * lenX tx + 20)) := by
 have hm := zgU h6
 refine ⟨?_, ?_, ?_⟩
 ·by_cases h0 : (addX x doc tx).1 = 0
  ·exact (zpc h.ok (fun t ht => by have := hm t ht; omega) h0).1
  ·rw [zpq h0]; exact h.ok
 ·exact (zrb h.wt (L := lenX tx) hm (by omega) (by omega)).mono (Nat.le_refl _) (by omega)
 ·have h1 := z_add x doc tx
  have h2 := h.z
  unfold lenX
  omega
theorem Iw.drop {x : Ix} {N Q Z : Nat} (h : Iw x N Q Z) (doc : Int) : Iw (dropX x doc).2 N Q Z := ⟨(zlx h.ok doc).1, zpR h.wt doc, by rw [zqX]; exact h.z⟩
theorem Iw.step {x : Ix} {N Q Z : Nat} (h : Iw x N Q Z) : Iw (stepX x).2 N Q Z := ⟨(zmi h.ok).1, zqi h.wt, Nat.le_trans (zry x) h.z⟩
theorem Iw.len {x : Ix} {N Q Z : Nat} (h : Iw x N Q Z) (hN : N ≤ 1000) (hZ : Z ≤ 100000) : (serX x).length ≤ 9000000 := by
 have h1 := h.z
 have h2 := h.wt.docs
 obtain ⟨_, h3, _, _⟩ := zpz h.ok h.wt
 have := zoi h.ok (by omega) (by omega) (by omega)
 omega
def renTm : Go.Shelf.Ren := ⟨fun | 6 => 143 | 14 => 207 | 15 => 129 | 20 => 239 | 21 => 240 | 22 => 241 | 23 => 242 | 24 => 243 | 25 => 244 | 26 => 245 | 27 => 246 | 28 => 187 | 29 => 188 | 46 => 257 | 47 => 226 | 48 => 227 | 49 => 258 | 50 => 259 | 57 => 267 | n => n, fun | 0 => 0 | 3 => 3 | 4 => 4 | 5 => 5 | 9 => 9 | 22 => 63 | 24 => 141 | 25 => 172 | 39 => 153 | 45 => 197 | 46 => 198 | 50 => 104 | 53 => 204 | 55 => 206 | 66 => 236 | 70 => 234 | 76 => 259 | 77 => 61 | n => n, fun | n => n⟩
theorem laysTm : Go.Proofs.SlLaysF0.n6 Tryz.prog renTm := {
 mixed := by kernel_rfl
 f6 := ⟨Tryz.f143.name, by decide, Tryz.func143.trans (congrArg some (by kernel_rfl))⟩
 f14 := ⟨Tryz.f207.name, by decide, Tryz.func207.trans (congrArg some (by kernel_rfl))⟩
 f15 := Tryz.func129.trans (congrArg some (by kernel_rfl))
 f20 := ⟨Tryz.f239.name, by decide, Tryz.func239.trans (congrArg some (by kernel_rfl))⟩
 f21 := ⟨Tryz.f240.name, by decide, Tryz.func240.trans (congrArg some (by kernel_rfl))⟩
 f22 := ⟨Tryz.f241.name, by decide, Tryz.func241.trans (congrArg some (by kernel_rfl))⟩
 f23 := ⟨Tryz.f242.name, by decide, Tryz.func242.trans (congrArg some (by kernel_rfl))⟩
 f24 := ⟨Tryz.f243.name, by decide, Tryz.func243.trans (congrArg some (by kernel_rfl))⟩
 f25 := ⟨Tryz.f244.name, by decide, Tryz.func244.trans (congrArg some (by kernel_rfl))⟩
 f26 := ⟨Tryz.f245.name, by decide, Tryz.func245.trans (congrArg some (by kernel_rfl))⟩
 f27 := ⟨Tryz.f246.name, by decide, Tryz.func246.trans (congrArg some (by kernel_rfl))⟩
 f28 := Tryz.func187.trans (congrArg some (by kernel_rfl))
 f29 := Tryz.func188.trans (congrArg some (by kernel_rfl))
 f46 := ⟨Tryz.f257.name, by decide, Tryz.func257.trans (congrArg some (by kernel_rfl))⟩
 f47 := Tryz.func226.trans (congrArg some (by kernel_rfl))
 f48 := Tryz.func227.trans (congrArg some (by kernel_rfl))
 f49 := ⟨Tryz.f258.name, by decide, Tryz.func258.trans (congrArg some (by kernel_rfl))⟩
 f50 := ⟨Tryz.f259.name, by decide, Tryz.func259.trans (congrArg some (by kernel_rfl))⟩
 f57 := ⟨Tryz.f267.name, by decide, Tryz.func267.trans (congrArg some (by kernel_rfl))⟩
 t0 := Tryz.underlying0
 a0 := Tryz.isAgg0
 z0 := Tryz.sizeOf0
 v0 := Tryz.zeroValue0
 t3 := Tryz.underlying3
 a3 := Tryz.isAgg3
 z3 := Tryz.sizeOf3
 v3 := Tryz.zeroValue3
 t4 := Tryz.underlying4
 a4 := Tryz.isAgg4
 z4 := Tryz.sizeOf4
 v4 := Tryz.zeroValue4
 t5 := Tryz.underlying5
 a5 := Tryz.isAgg5
 z5 := Tryz.sizeOf5
 v5 := Tryz.zeroValue5
 t9 := Tryz.underlying9
 a9 := Tryz.isAgg9
 z9 := Tryz.sizeOf9
 v9 := Tryz.zeroValue9
 t22 := Tryz.underlying63
 a22 := Tryz.isAgg63
 z22 := Tryz.sizeOf63
 v22 := Tryz.zeroValue63
 t25 := Tryz.underlying172
 a25 := Tryz.isAgg172
 z25 := Tryz.sizeOf172
 v25 := Tryz.zeroValue172
 t39 := Tryz.underlying153
 a39 := Tryz.isAgg153
 z39 := Tryz.sizeOf153
 v39 := Tryz.zeroValue153
 t45 := Tryz.underlying197
 a45 := Tryz.isAgg197
 z45 := Tryz.sizeOf197
 v45 := Tryz.zeroValue197
 t46 := Tryz.underlying198
 a46 := Tryz.isAgg198
 z46 := Tryz.sizeOf198
 v46 := Tryz.zeroValue198
 t50 := Tryz.underlying104
 a50 := Tryz.isAgg104
 z50 := Tryz.sizeOf104
 v50 := Tryz.zeroValue104
 t53 := Tryz.underlying204
 a53 := Tryz.isAgg204
 z53 := Tryz.sizeOf204
 v53 := Tryz.zeroValue204
 t55 := Tryz.underlying206
 a55 := Tryz.isAgg206
 z55 := Tryz.sizeOf206
 v55 := Tryz.zeroValue206
 t66 := Tryz.underlying236
 a66 := Tryz.isAgg236
 z66 := Tryz.sizeOf236
 v66 := Tryz.zeroValue236
 t70 := Tryz.underlying234
 a70 := Tryz.isAgg234
 z70 := Tryz.sizeOf234
 v70 := Tryz.zeroValue234
 t76 := Tryz.underlying259
 a76 := Tryz.isAgg259
 z76 := Tryz.sizeOf259
 v76 := Tryz.zeroValue259
 t77 := Tryz.underlying61
 a77 := Tryz.isAgg61
 z77 := Tryz.sizeOf61
 v77 := Tryz.zeroValue61 }
end Go.Proofs.YtennokckmjcefaaGreatDoor
namespace Go.Proofs.YtennokckmjcefaaGreatDoor
open Go.Shelf Go.RowKit Go.Pw Go.Vc Go.Cs Go.Lib Go.Cd Go.Mg Go.Sort
def Gr (w w' : World) : Prop := ∃ q os, w' = grow (w.drewN q) os
theorem Gr.refl (w : World) : Gr w w := ⟨0, #[], by unfold grow; simp [World.drewN_zero]⟩
theorem Gr.trans {a b c : World} (h : Gr a b) (k : Gr b c) : Gr a c := by
 obtain ⟨q, os, rfl⟩ := h
 obtain ⟨q2, os2, rfl⟩ := k
 refine ⟨q + q2, os ++ os2, ?_⟩
 rw [← World.drewN_drewN, ← grow_grow]; rfl
theorem Gr.drew (w : World) : Gr w w.drew := ⟨1, #[], by unfold grow; simp; rfl⟩
theorem Gr.alloc (w : World) (o : Obj) : Gr w (w.alloc o) := ⟨0, #[o], by rw [alloc_eq_grow]; rfl⟩
section
variable {w : World}
theorem zqY {b : Nat} (x y : Int) (hat : At w b 0 [.int .i64 x, .int .i64 y]) : Calls Tryz.prog 208 #[.slice (some ⟨b, 0, none⟩) 2 2] w fun e w' => e = .returned (.int .i64 (if x ≠ 0 then x else y)) ∧ w' = w := by
 refine zaa (args := [.slice (some ⟨b, 0, none⟩) 2 2]) Tryz.func208 rfl NL ?_; refine GW ?_
 have c0 : w.cell? ⟨b, 0 + 0, none⟩ = some (.int .i64 x) := hat 0 _ rfl
 have c1 : w.cell? ⟨b, 0 + 1, none⟩ = some (.int .i64 y) := hat 1 _ rfl
 refine Loop.intro (ι := Nat) (fun i => [(3, .int .i64 0), (6, .slice (some ⟨b, 0, none⟩) 2 2), (7, .int .i64 2), (8, .int .i64 (i : Nat))])
  (fun i wr => wr = w ∧ i ≤ 2 ∧ (1 ≤ i → x = 0) ∧ (2 ≤ i → y = 0)) (fun i => 2 - i) 0 ⟨rfl, rfl, rfl, rfl, trivial⟩ ⟨rfl, Nat.zero_le _, fun h => by omega, fun h => by omega⟩ ?_
 rintro i gg wr ⟨hW, hi, h1, h2⟩
 subst hW
 have hK := Kp.refl wr n_
 refine GW ?_
 have hc : i = 0 ∨ i = 1 ∨ i = 2 := by omega
 rcases hc with rfl | rfl | rfl
 ·by_cases hx : x = 0
  ·refine KGO ?_
   exact ⟨1, ⟨rfl, rfl, rfl, rfl, trivial⟩, ⟨rfl, by omega, fun _ => hx, fun h => by omega⟩, by dsimp only; omega⟩
  ·refine KGO ?_
   exact ⟨by rw [if_pos hx], rfl⟩
 ·have hx := h1 (by omega)
  by_cases hy : y = 0
  ·refine KGO ?_
   exact ⟨2, ⟨rfl, rfl, rfl, rfl, trivial⟩, ⟨rfl, by omega, fun _ => hx, fun _ => hy⟩, by dsimp only; omega⟩
  ·refine KGO ?_
   exact ⟨by rw [if_neg (by omega)], rfl⟩
 ·have hx := h1 (by omega)
  have hy := h2 (by omega)
  refine KGO ?_
  exact ⟨by rw [hx, hy]; rfl, rfl⟩
theorem zrg (x y : Int) : Calls Tryz.prog 209 #[.int .i64 x, .int .i64 y] w fun e w' => e = .returned (.int .i64 (cmpI x y)) ∧ w = w' := by
 refine zaa (args := [.int .i64 x, .int .i64 y]) Tryz.func209 rfl NL ?_; refine GW ?_
 refine CallS.of (Tryz.call189 _ _) (zhO x) ?_
 rintro e _ ⟨rfl, rfl⟩
 refine RT ?_
 refine CallS.of (Tryz.call189 _ _) (zhO y) ?_
 rintro e _ ⟨rfl, rfl⟩
 refine RT ?_
 unfold cmpI
 by_cases h1 : x < y
 ·refine KGO ?_
  exact ⟨by rw [if_pos h1], rfl⟩
 by_cases h2 : y < x
 ·refine KGO ?_
  exact ⟨by rw [if_neg h1, if_pos h2], rfl⟩
 ·refine KGO ?_
  exact ⟨by rw [if_neg h1, if_neg h2], rfl⟩
theorem zkU (x y : Trm) : Calls Tryz.prog 144 #[.agg (tmC x).toArray, .agg (tmC y).toArray] w fun e w' => e = .returned (.int .i64 (cmpT x y)) ∧ Gr w w' := by
 refine zaa (args := [.agg (tmC x).toArray, .agg (tmC y).toArray]) Tryz.func144 rfl NL ?_; refine GW ?_
 have g1 := Gr.alloc w (.cells (List.toArray (tmC x)) 141)
 obtain ⟨a_b1, v_b1, k_w1, z_w1, r_w1⟩ := new5 w 141 (tmC x)
 generalize w.alloc (.cells (List.toArray (tmC x)) 141) = w1 at *
 generalize hs_b1 : w.heap.size = b1 at *
 have g2 := Gr.alloc w1 (.cells (List.toArray (tmC y)) 141)
 obtain ⟨a_b2, v_b2, k_w2, z_w2, r_w2⟩ := new5 w1 141 (tmC y)
 generalize w1.alloc (.cells (List.toArray (tmC y)) 141) = w2 at *
 generalize hs_b2 : w1.heap.size = b2 at *
 have G2 := g1.trans g2
 have a1 := zam a_b1 k_w2
 clear a_b1 g1 g2
 refine KGO ?_
 refine Draw.held (fun u => Kp w2 u n_ ∧ Gr w2 u) (fun _ => true) (by decide +kernel) ⟨(Kp.refl w2 n_).drew, Gr.drew w2⟩ ?_
 refine KGO ?_
 refine Held.one (by rfl) (fun u hu => (zam a1 hu.1) 0 _ rfl) ?_
 refine KGO ?_
 refine Held.one (by rfl) (fun u hu => (zam a_b2 hu.1) 0 _ rfl) ?_
 refine KGO ?_
 refine CallS.of (Tryz.call209 _ _) (zrg (w := w2.drew) x.field y.field) ?_
 rintro e _ ⟨rfl, rfl⟩
 have k23 : Kp w2 w2.drew n_ := (Kp.refl w2 n_).drew
 have g23 := Gr.drew w2
 obtain ⟨w3, hw3⟩ : ∃ w3, w2.drew = w3 := ⟨_, rfl⟩
 rw [hw3] at k23 g23 ⊢
 refine RT ?_
 refine ⟨⟨k23, g23⟩, ?_⟩
 refine KGO ?_
 refine Held.one (by rfl) (fun u hu => (zam a1 hu.1) 1 _ rfl) ?_
 refine KGO ?_
 refine Held.one (by rfl) (fun u hu => (zam a_b2 hu.1) 1 _ rfl) ?_
 refine KGO ?_
 refine CallS.of (Tryz.call210 _ _) (zhP (str x.word) (str y.word) w3) ?_
 rintro e _ ⟨rfl, rfl⟩
 refine RT ?_
 refine ⟨⟨k23, g23⟩, ?_⟩
 refine KGO ?_
 refine RunV.of (bs2I _ _ _) ?_
 have g4 := Gr.alloc w3 (.cells (List.toArray [.int .i64 (cmpI x.field y.field), .int .i64 (compareBytes (L (str x.word)) (L (str y.word)))]) 3)
 obtain ⟨a_b4, v_b4, k_w4, z_w4, r_w4⟩ := new5 w3 3 ([.int .i64 (cmpI x.field y.field), .int .i64 (compareBytes (L (str x.word)) (L (str y.word)))])
 generalize w3.alloc (.cells (List.toArray ([.int .i64 (cmpI x.field y.field), .int .i64 (compareBytes (L (str x.word)) (L (str y.word)))])) 3) = w4 at *
 generalize hs_b4 : w3.heap.size = b4 at *
 refine ⟨⟨k23.trans0 k_w4, g23.trans g4⟩, ?_⟩
 refine KGO ?_
 refine CallS.of (Tryz.call208 _ _) (zqY _ _ a_b4) ?_
 rintro e _ ⟨rfl, rfl⟩
 refine RT ?_
 refine ⟨⟨k23.trans0 k_w4, g23.trans g4⟩, ?_⟩
 refine KGO ?_
 exact ⟨rfl, G2.trans (g23.trans g4)⟩
end
end Go.Proofs.YtennokckmjcefaaGreatDoor
namespace Go.Vc
open Go Go.Pw Go.Sort Go.Proofs
section
variable {α : Type} [Inhabited α] {enc : α → List Value} {w : World} {g q k : Nat} {os : Array Obj} {e : TypeId}
theorem zgd (hk : ∀ x, (enc x).length = k) (l : List α) : flatK enc k l.toArray = (l.flatMap enc).toArray := by
 have hlen : (l.flatMap enc).length = l.length * k := zaW enc k hk l
 apply Array.ext
 ·rw [size_flatK]; simp only [List.size_toArray]; exact hlen.symm
 ·intro t h1 h2
  have ht : t < l.length * k := by rw [size_flatK] at h1; simpa using h1
  have hk0 : 0 < k := by
   rcases Nat.eq_zero_or_pos k with h | h
   ·subst h; simp at ht
   ·exact h
  have hi : t / k < l.length := Nat.div_lt_of_lt_mul (by rwa [Nat.mul_comm] at ht)
  have hm : t % k < k := Nat.mod_lt _ hk0
  have h3 := get_flatK enc k l.toArray t (by simpa using ht)
  rw [getElem!_pos _ t h1] at h3
  rw [h3]
  have hd := zcn enc k hk l (t / k)
  have e1 : (l.flatMap enc)[t]? = ((l.drop (t / k)).flatMap enc)[t % k]? := by
   rw [← hd, List.getElem?_drop, Nat.mul_comm, Nat.div_add_mod]
  rw [List.drop_eq_getElem_cons hi, List.flatMap_cons, List.getElem?_append_left (by rw [hk]; exact hm)] at e1
  have e2 : l.toArray[t / k]! = l[t / k] := by rw [getElem!_pos _ _ (by simpa using hi)]; simp
  rw [e2]
  have e3 : (l.flatMap enc)[t]? = some ((l.flatMap enc).toArray[t]) := by
   rw [List.getElem?_eq_getElem (by simpa using h2)]; simp
  rw [e3] at e1
  have e4 : (enc l[t / k])[t % k]? = some (enc l[t / k])[t % k]! := by
   rw [List.getElem?_eq_getElem (by rw [hk]; exact hm), getElem!_pos _ _ (by rw [hk]; exact hm)]
  rw [e4] at e1
  injection e1 with e1
  exact e1.symm
theorem zkG {l : List α} {cells : List Value} (hk : ∀ x, (enc x).length = k) (h : VarK w g e cells) (ht : cells.take (l.length * k) = l.flatMap enc) : HoldsK enc k w g 0 l.toArray := by
 unfold HoldsK
 rw [zgd hk]
 exact zfc (enc := id) h (by rw [zaW enc k hk, ht, List.map_id])
theorem znL {B n cap : Nat} {xs : List Value} (hk : ∀ x, (enc x).length = k) (ho : w.ownsRow B e k (.slice (some ⟨g, 0, none⟩) n cap) n xs) (l : List α) (hl : l.length = n) :
  (sortWorldK enc k w g 0 q l.toArray os).ownsRow B e k (.slice (some ⟨g, 0, none⟩) n cap) n (l.flatMap enc) := by
 unfold sortWorldK putRowK
 rw [zgd hk]
 have hF : (l.flatMap enc).length = n * k := by rw [zaW enc k hk, hl]
 rcases ho.2 with ⟨h, _⟩ | ⟨g', cap', cur, h1, h2, h3, h4, h5, h6, h7⟩
 ·cases h
 ·injection h1 with h1 _ hc
  injection h1 with h1
  injection h1 with h1
  subst h1; subst hc
  refine ⟨hF, .inr ⟨g, cap, _, rfl, h2, ziY _ h3, by omega, h5, by simp [putCells, h6], ?_⟩⟩
  have := zjk (enc := id) cur (l.flatMap enc) (by rw [hF, h6]; exact Nat.mul_le_mul_right _ h4)
  rw [hF, List.map_id] at this
  exact this
theorem zko (d : Array α) : Kp w (sortWorldK enc k w g 0 q d os) (one_ g) := zfg (enc := id) _
end
end Go.Vc
namespace Go.Proofs.YtennokckmjcefaaGreatDoor
open Go.Shelf Go.RowKit Go.Pw Go.Vc Go.Cs Go.Lib Go.Cd Go.Mg Go.Sort
instance : Inhabited Trm := ⟨⟨0, [], []⟩⟩
theorem zji (x y : Trm) : ltOf cmpT x y = ltK x.key y.key := by
 have h := zeO x y
 unfold ltOf
 cases hk : ltK x.key y.key with
 | true => exact decide_eq_true (h.2 hk)
 | false => exact decide_eq_false fun e => by rw [h.1 e] at hk; cases hk
theorem swoT : SWO (ltOf cmpT) where
 irrefl x := by rw [zji]; exact stoK.irr _
 trans x y z h1 h2 := by rw [zji] at *; exact stoK.tr _ _ _ h1 h2
 ntrans x y z h1 h2 := by
  rw [zji] at *
  cases h : ltK x.key z.key with
  | false => rfl
  | true =>
   cases h3 : ltK y.key x.key with
   | true =>
    have := stoK.tr _ _ _ h3 h
    rw [h2] at this; cases this
   | false =>
    have e := stoK.tri _ _ h1 h3
    rw [e] at h; rw [h2] at h; cases h
theorem zkH (blk off size : Nat) (w : World) : CmpLays Tryz.prog 144 #[] tmC 3 cmpT blk off size w := fun m os dk hs x y => zkU x y
section
variable {w : World} {B : Nat}
theorem zrB {v : Value} (l : List Trm) (ho : OwnR 141 tmC 3 w B v l) (hl : l.length ≤ 17592186044416) :
  Calls Tryz.prog 143 #[v, .func (.func 144) #[] #[]] w fun e w' => e = .returned (.tuple #[]) ∧ ∃ l', l'.Perm l ∧ l'.Pairwise (fun a b => ltK b.key a.key = false) ∧ OwnR 141 tmC 3 w' B v l' ∧ Kp w w' (own_ v) := by
 rcases own_blockK ho with ⟨rfl, h0⟩ | ⟨g, cap, cells, rfl, hBg, hv, hnc, hcm, hcl, htk⟩
 ·obtain rfl : l = [] := List.eq_nil_of_length_eq_zero h0
  refine (AnyF.slices_SortFunc_none laysTm none 0 _ w).mono ?_
  rintro e w' ⟨rfl, rfl⟩
  exact ⟨rfl, [], .refl _, .nil, ho, Kp.refl _ _⟩
 ·refine (AnyQ.slices_SortFunc laysTm 3 Tryz.isAgg141 Tryz.sizeOf141 tmC lenTm (fun x v hv => by simp [tmC] at hv; rcases hv with rfl | rfl | rfl <;> rfl) cmpT swoT 144 #[] g 0 cap l.toArray w (fun _ _ => rfl) (zkH _ _ _ _) (zkG lenTm hv htk) hv.lt (by simp; omega)).mono ?_
  rintro e w' ⟨rfl, d', n, os, ⟨hp1, _, hp3⟩, hs, rfl⟩
  have hsz : d'.size = l.length := by simpa using hp1
  have e1 : d'.extract 0 l.toArray.size = d' := by rw [← hp1]; exact Array.extract_size
  have e2 : l.toArray.extract 0 l.toArray.size = l.toArray := Array.extract_size
  rw [e1, e2] at hp3
  have hd : d'.toList.toArray = d' := by simp
  refine ⟨rfl, d'.toList, by simpa using hp3, ?_, ?_, ?_⟩
  ·rw [List.pairwise_iff_getElem]
   intro i j hi hj hij
   have hi' : i < d'.size := by simpa using hi
   have hj' : j < d'.size := by simpa using hj
   have h := hs i j (Nat.zero_le _) hij (by rw [List.size_toArray]; omega)
   rw [getElem!_pos d' j hj', getElem!_pos d' i hi', zji] at h
   exact h
  ·have h := znL (q := n) (os := os) lenTm ho d'.toList (by simpa using hsz)
   rw [hd] at h
   unfold OwnR
   rw [show d'.toList.length = l.length by simpa using hsz]
   exact h
  ·exact (zko d').mono fun q _ hq => by have hq : q = g := hq; rw [hq]; rfl
end
end Go.Proofs.YtennokckmjcefaaGreatDoor
namespace Go.Proofs.YtennokckmjcefaaGreatDoor
open Go.Shelf Go.RowKit Go.Pw Go.Vc Go.Cs Go.Lib Go.Cd Go.Mg
section
variable {κ : Type} [DecidableEq κ] {k : κ} {x : Value}
theorem zex : ∀ m : GM κ, (m.put k x).map (·.1) = if k ∈ m.map (·.1) then m.map (·.1) else m.map (·.1) ++ [k]
 | [] => by simp [GM.put]
 | (s, v) :: r => by
  unfold GM.put
  by_cases h : k = s
  ·subst h; simp
  ·rw [if_neg h, List.map_cons, zex r, List.map_cons]
   by_cases h2 : k ∈ r.map (·.1)
   ·rw [if_pos h2, if_pos (List.mem_cons_of_mem _ h2)]
   ·rw [if_neg h2, if_neg (fun e => by rcases List.mem_cons.1 e with e | e; exact h e; exact h2 e)]; rfl
theorem zfb {m : GM κ} (h : (m.map (·.1)).Nodup) : ((m.put k x).map (·.1)).Nodup := by
 rw [zex]
 split
 ·exact h
 ·rename_i hn
  exact List.nodup_append.2 ⟨h, by simp, fun a ha b hb => by rw [List.mem_singleton.1 hb]; exact fun e => hn (e ▸ ha)⟩
theorem ziT (m : GM κ) : (m.put k x).length ≤ m.length + 1 := by
 have := congrArg List.length (zex (k := k) (x := x) m)
 rw [List.length_map] at this
 rw [this]
 split <;> simp
theorem get_mem : ∀ {m : GM κ} {v : Value}, m.get k = some v → (k, v) ∈ m
 | (s, u) :: r, v, h => by
  unfold GM.get at h
  split at h
  ·rename_i e; injection h with h; subst h; subst e; exact List.mem_cons_self
  ·exact List.mem_cons_of_mem _ (get_mem h)
theorem ziD : ∀ {m : GM κ} {v : Value}, (m.map (·.1)).Nodup → (k, v) ∈ m → m.get k = some v
 | (s, u) :: r, v, hn, h => by
  rw [List.map_cons, List.nodup_cons] at hn
  unfold GM.get
  rcases List.mem_cons.1 h with h | h
  ·injection h with h1 h2; subst h1; subst h2; rw [if_pos rfl]
  ·rw [if_neg (fun e => hn.1 (by rw [← e]; exact List.mem_map.2 ⟨_, h, rfl⟩))]
   exact ziD hn.2 h
theorem zeB : ∀ {m : GM κ}, m.get k = none ↔ k ∉ m.map (·.1)
 | [] => by simp [GM.get]
 | (s, u) :: r => by
  unfold GM.get
  split
  ·rename_i e; subst e; simp
  ·rename_i e
   rw [zeB, List.map_cons, List.mem_cons, not_or]
   exact ⟨fun h => ⟨e, h⟩, fun h => h.2⟩
end
abbrev TM := Ky → Option (Nat × GM Int)
def valM (x : Nat × GM Int) : Value := .map (some x.1)
def rowM (M : TM) (k : Ky) (d : Int) : Option Value := (M k).bind fun x => x.2.get d
def upM (M : TM) (k : Ky) (x : Nat × GM Int) : TM := fun k' => if k' = k then some x else M k'
theorem zeb {κ : Type} {enc : κ → Value} {w : World} {B s n mb : Nat} {E : TypeId} {v : Value} {xs : List Value} {m : GM κ} (hm : GMapO enc w mb m) (h : w.ownsRow B E s v n xs) : ¬ own_ v mb := fun e => by
 obtain ⟨cs, z, hh, _⟩ := zar h e
 obtain ⟨es, cl, h1, _⟩ := hm
 rw [h1] at hh; cases hh
structure TmAt (w : World) (B tb : Nat) (m : GM Ky) (M : TM) (f : Ky → Int → List Int) (N : Nat) : Prop where
 sz : B ≤ w.heap.size
 tl : tb < B
 mp : GMapO encKy w tb m
 nd : (m.map (·.1)).Nodup
 gt : ∀ k, m.get k = (M k).map valM
 ln : m.length ≤ N
 ob : ∀ k x, M k = some x → B ≤ x.1 ∧ GMapO (Value.int .i64) w x.1 x.2 ∧ (x.2.map (·.1)).Nodup ∧ x.2.length ≤ N
 ne : ∀ k k' x x', M k = some x → M k' = some x' → k ≠ k' → x.1 ≠ x'.1
 rw : ∀ k d v, rowM M k d = some v → OwnI w B v (f k d) ∧ f k d ≠ []
 rn : ∀ k d, rowM M k d = none → f k d = []
 ap : ∀ k d k' d' v v', rowM M k d = some v → rowM M k' d' = some v' → (k ≠ k' ∨ d ≠ d') → Apart v v'
 fl : ∀ k d, (f k d).length ≤ N
theorem TmAt.keep {w w' : World} {c : Nat → Prop} {B tb N : Nat} {m : GM Ky} {M : TM} {f : Ky → Int → List Int} (h : TmAt w B tb m M f N) (k : Kp w w' c) (h1 : ¬ c tb)
  (h2 : ∀ q, q < w.heap.size → B ≤ q → c q → (∀ es cl, w.heap[q]? ≠ some (.map es cl)) ∧ ∀ cs z, w.heap[q]? ≠ some (.cells cs 3 z)) : TmAt w' B tb m M f N where
 sz := Nat.le_trans h.sz k.size
 tl := h.tl
 mp := h.mp.keep k h1
 nd := h.nd
 gt := h.gt
 ln := h.ln
 ob key x hx := by
  obtain ⟨o1, o2, o3, o4⟩ := h.ob key x hx
  refine ⟨o1, o2.keep k fun e => ?_, o3, o4⟩
  have hh := (h2 _ o2.g.lt o1 e).1
  obtain ⟨es, cl, hm, _⟩ := o2
  exact hh _ _ hm
 ne := h.ne
 rw key d v hv := by
  obtain ⟨r1, r2⟩ := h.rw key d v hv
  refine ⟨zaj r1 k fun q hq e => ?_, r2⟩
  obtain ⟨cs, z, hh, hB, hlt⟩ := zar r1 hq
  exact (h2 q hlt hB e).2 _ _ hh
 rn := h.rn
 ap := h.ap
 fl := h.fl
theorem TmAt.keep0 {w w' : World} {B tb N : Nat} {m : GM Ky} {M : TM} {f : Ky → Int → List Int} (h : TmAt w B tb m M f N) (k : Kp w w' n_) : TmAt w' B tb m M f N := h.keep k id fun q _ _ e => e.elim
theorem TmAt.keepB {w w' : World} {c : Nat → Prop} {B tb N : Nat} {m : GM Ky} {M : TM} {f : Ky → Int → List Int} (h : TmAt w B tb m M f N) (k : Kp w w' c) (hc : ∀ q, c q → q < tb) : TmAt w' B tb m M f N :=
 h.keep k (fun e => by have := hc _ e; omega) fun q _ hB e => by have := hc q e; have := h.tl; omega
theorem TmAt.init (w : World) : TmAt (w.alloc (.map #[] 0)) (w.heap.size + 1) w.heap.size [] (fun _ => none) (fun _ _ => []) 0 where
 sz := by simp
 tl := Nat.lt_succ_self _
 mp := GMapO.new w
 nd := .nil
 gt _ := rfl
 ln := Nat.le_refl _
 ob _ _ h := by cases h
 ne _ _ _ _ h := by cases h
 rw _ _ _ h := by cases h
 rn _ _ _ := rfl
 ap _ _ _ _ _ _ h := by cases h
 fl _ _ := Nat.le_refl _
theorem TmAt.mono {w : World} {B tb N N' : Nat} {m : GM Ky} {M : TM} {f : Ky → Int → List Int} (h : TmAt w B tb m M f N) (hN : N ≤ N') : TmAt w B tb m M f N' :=
 { h with ln := Nat.le_trans h.ln hN, ob := fun k x hx => let ⟨a, b, c, d⟩ := h.ob k x hx; ⟨a, b, c, Nat.le_trans d hN⟩, fl := fun k d => Nat.le_trans (h.fl k d) hN }
theorem zgW {M : TM} {k : Ky} {ob : Nat} (h : M k = none) : rowM (upM M k (ob, [])) = rowM M := by
 funext k' d
 unfold rowM upM
 split
 ·rename_i e; subst e; rw [h]; rfl
 ·rfl
theorem TmAt.new {w w1 w2 : World} {B tb N : Nat} {m : GM Ky} {M : TM} {f : Ky → Int → List Int} (h : TmAt w B tb m M f N) {k : Ky} (hk : M k = none) {ob : Nat} (hob : w.heap.size ≤ ob) (k1 : Kp w w1 n_) (hn : GMapO (Value.int .i64) w1 ob ([] : GM Int))
  (hm : GMapO encKy w2 tb (m.put k (.map (some ob)))) (k2 : Kp w1 w2 (one_ tb)) : TmAt w2 B tb (m.put k (.map (some ob))) (upM M k (ob, [])) f (N + 1) := by
 have hB := h.sz
 have htl := h.tl
 have h1 := h.keep0 k1
 have hobs : ∀ k' x, M k' = some x → x.1 < ob := fun k' x hx => by have := (h.ob k' x hx).2.1.g.lt; omega
 refine ⟨Nat.le_trans h1.sz k2.size, h.tl, hm, zfb h.nd, fun k' => ?_, ?_, fun k' x hx => ?_, fun k' k'' x x' hx hx' hne => ?_, fun k' d v hv => ?_, fun k' d hv => ?_, fun k' d k'' d' v v' hv hv' hne => ?_, fun k' d => Nat.le_succ_of_le (h.fl k' d)⟩
 ·rw [GM.get_put]
  unfold upM
  split
  ·rfl
  ·exact h.gt k'
 ·have := ziT (k := k) (x := .map (some ob)) m; have := h.ln; omega
 ·unfold upM at hx
  split at hx
  ·injection hx with hx
   subst hx
   exact ⟨by dsimp only; omega, hn.keep k2 (fun e => by have e : ob = tb := e; omega), .nil, Nat.zero_le _⟩
  ·obtain ⟨o1, o2, o3, o4⟩ := h1.ob k' x hx
   exact ⟨o1, o2.keep k2 (fun e => by have e : x.1 = tb := e; omega), o3, by omega⟩
 ·unfold upM at hx hx'
  split at hx
  ·injection hx with hx
   subst hx
   rw [if_neg (by rename_i e; exact fun e2 => hne (e.trans e2.symm))] at hx'
   have := hobs _ _ hx'
   dsimp only; omega
  ·split at hx'
   ·injection hx' with hx'
    subst hx'
    have := hobs _ _ hx
    dsimp only; omega
   ·exact h.ne _ _ _ _ hx hx' hne
 ·rw [zgW hk] at hv
  obtain ⟨r1, r2⟩ := h1.rw k' d v hv
  exact ⟨zaj r1 k2 fun q hq e => by
   have e : q = tb := e
   obtain ⟨_, _, _, hBq, _⟩ := zar r1 hq
   omega, r2⟩
 ·rw [zgW hk] at hv; exact h.rn k' d hv
 ·rw [zgW hk] at hv hv'; exact h.ap _ _ _ _ _ _ hv hv' hne
theorem zgr {M : TM} {k : Ky} {ob : Nat} {g : GM Int} {d : Int} {v : Value} (h : M k = some (ob, g)) (k' : Ky) (d' : Int) : rowM (upM M k (ob, g.put d v)) k' d' = if k' = k ∧ d' = d then some v else rowM M k' d' := by
 unfold rowM upM
 by_cases e : k' = k
 ·subst e
  rw [if_pos rfl, h]
  show (g.put d v).get d' = _
  rw [GM.get_put]
  by_cases e2 : d' = d
  ·rw [if_pos e2, if_pos ⟨rfl, e2⟩]
  ·rw [if_neg e2, if_neg (fun h => e2 h.2)]; rfl
 ·rw [if_neg e, if_neg (fun h => e h.1)]
theorem TmAt.row {w : World} {B tb N : Nat} {m : GM Ky} {M : TM} {f : Ky → Int → List Int} (h : TmAt w B tb m M f N) {k : Ky} {ob : Nat} {g : GM Int} (hk : M k = some (ob, g)) (d : Int) : OwnI w B ((g.get d).getD (.slice none 0 0)) (f k d) := by
 have e : rowM M k d = g.get d := by unfold rowM; rw [hk]; rfl
 cases hg : g.get d with
 | none => rw [h.rn k d (e.trans hg)]; exact World.ownsRow_nil _ _ _ _
 | some v => exact (h.rw k d v (e.trans hg)).1
theorem TmAt.put {w w1 w2 : World} {B tb N : Nat} {m : GM Ky} {M : TM} {f : Ky → Int → List Int} (h : TmAt w B tb m M f N) {k : Ky} {ob : Nat} {g : GM Int} (hk : M k = some (ob, g)) {d x : Int} {v' : Value}
  (ho : OwnI w1 B v' (f k d ++ [x])) (k1 : Kp w w1 (own_ ((g.get d).getD (.slice none 0 0)))) {n0 : Nat} (hb : v'.ownBlock = ((g.get d).getD (.slice none 0 0)).ownBlock ∨ v'.ownBlock = some n0) (hn0 : w.heap.size ≤ n0)
  (hm : GMapO (Value.int .i64) w2 ob (g.put d v')) (k2 : Kp w1 w2 (one_ ob)) : TmAt w2 B tb m (upM M k (ob, g.put d v')) (updF f k d x) (N + 1) := by
 have hrow := h.row hk d
 have hobk := h.ob k _ hk
 dsimp only at hobk
 have hB := h.sz
 have htl := h.tl
 have e : rowM M k d = g.get d := by unfold rowM; rw [hk]; rfl
 have cells1 : ∀ {u : Value} {l : List Int} {q : Nat}, OwnI w1 B u l → u.ownBlock = some q → q ≠ ob := fun hu hq e => by
  obtain ⟨cs, z, hh, _⟩ := zar hu hq
  have hm1 : GMapO (Value.int .i64) w1 ob g := hobk.2.1.keep k1 (zeb hobk.2.1 hrow)
  obtain ⟨es, cl, h1, _⟩ := hm1
  rw [e, h1] at hh; cases hh
 have old : ∀ k' d' v, rowM M k' d' = some v → ¬ (k' = k ∧ d' = d) → OwnI w1 B v (f k' d') ∧ Apart v ((g.get d).getD (.slice none 0 0)) := fun k' d' v hv hne => by
  have ap : Apart v ((g.get d).getD (.slice none 0 0)) := by
   cases hg : g.get d with
   | none => exact fun _ _ h => by cases h
   | some u => exact h.ap k' d' k d v u hv (e.trans hg) (by
     by_cases h1 : k' = k
     ·exact .inr fun h2 => hne ⟨h1, h2⟩
     ·exact .inl h1)
  exact ⟨zno (h.rw k' d' v hv).1 k1 ap, ap⟩
 refine ⟨Nat.le_trans h.sz (Nat.le_trans k1.size k2.size), h.tl, ?_, h.nd, fun k' => ?_, Nat.le_succ_of_le h.ln, fun k' y hy => ?_, fun k' k'' y y' hy hy' hne => ?_, fun k' d' v hv => ?_, fun k' d' hv => ?_, fun k' d' k'' d'' v v2 hv hv2 hne => ?_, fun k' d' => ?_⟩
 ·exact (h.mp.keep k1 (zeb h.mp hrow)).keep k2 fun e => by have e : tb = ob := e; omega
 ·rw [h.gt k']
  unfold upM
  split
  ·rename_i e; subst e; rw [hk]; rfl
  ·rfl
 ·unfold upM at hy
  split at hy
  ·injection hy with hy
   subst hy
   exact ⟨hobk.1, hm, zfb hobk.2.2.1, by have := ziT (k := d) (x := v') g; have := hobk.2.2.2; dsimp only; omega⟩
  ·rename_i hne
   obtain ⟨o1, o2, o3, o4⟩ := h.ob k' y hy
   exact ⟨o1, (o2.keep k1 (zeb o2 hrow)).keep k2 fun e => h.ne _ _ _ _ hy hk hne e, o3, by omega⟩
 ·unfold upM at hy hy'
  split at hy
  ·injection hy with hy
   subst hy
   rw [if_neg (by rename_i e; exact fun e2 => hne (e.trans e2.symm))] at hy'
   rename_i e; exact h.ne k k'' (ob, g) y' hk hy' (fun e2 => hne (e.trans e2))
  ·split at hy'
   ·injection hy' with hy'
    subst hy'
    rename_i e1 e2
    exact h.ne k' k y (ob, g) hy hk e1
   ·exact h.ne _ _ _ _ hy hy' hne
 ·rw [zgr hk] at hv
  unfold updF
  split at hv
  ·rename_i hc
   injection hv with hv
   subst hv
   rw [if_pos hc]
   exact ⟨zaj ho k2 fun q hq e => cells1 ho hq e, by simp⟩
  ·rename_i hc
   rw [if_neg hc]
   have h1 := (old k' d' v hv hc).1
   exact ⟨zaj h1 k2 fun q hq e => cells1 h1 hq e, (h.rw k' d' v hv).2⟩
 ·rw [zgr hk] at hv
  split at hv
  ·cases hv
  ·rename_i hc
   unfold updF
   rw [if_neg hc]; exact h.rn k' d' hv
 ·rw [zgr hk] at hv hv2
  have app : ∀ {k' d' u}, rowM M k' d' = some u → ¬ (k' = k ∧ d' = d) → Apart v' u := fun {k' d' u} hu hc q h1 h2 => by
   have h3 := (old k' d' u hu hc).2
   rcases hb with hb | hb
   ·exact h3 q h2 (hb ▸ h1)
   ·obtain ⟨_, _, _, _, hlt⟩ := zar (h.rw k' d' u hu).1 h2
    rw [h1] at hb
    injection hb with hb
    omega
  split at hv
  ·rename_i hc
   injection hv with hv
   subst hv
   split at hv2
   ·rename_i hc2
    exfalso
    rcases hne with h2 | h2
    ·exact h2 (hc.1.trans hc2.1.symm)
    ·exact h2 (hc.2.trans hc2.2.symm)
   ·rename_i hc2; exact app hv2 hc2
  ·rename_i hc
   split at hv2
   ·injection hv2 with hv2
    subst hv2
    exact fun q h1 h2 => app hv hc q h2 h1
   ·exact h.ap _ _ _ _ _ _ hv hv2 hne
 ·unfold updF
  split
  ·rename_i hc
   obtain ⟨rfl, rfl⟩ := hc
   have := h.fl k' d'
   rw [List.length_append]; simp; omega
  ·exact Nat.le_succ_of_le (h.fl k' d')
end Go.Proofs.YtennokckmjcefaaGreatDoor
namespace Go.Pw
open Go
set_option linter.unusedSectionVars false
section
variable {P : Program} {ops : Array Oper} {S : World → Prop} {hs : Option Tmp → Bool}
variable {m : Array Nat} {a z : Nat}
theorem swapTI {i j : Nat} {K : Act → World → Prop} {c : Act} {w : World} (hw0 : S w) (hsx : ∀ p, ops[j]? = some p → NoSel p) (hsy : ∀ p, ops[i]? = some p → NoSel p) (hc : ∀ p o, ops[j]? = some p → ops[i]? = some o → commH P hs ops p o = true)
  (h : TIh P S hs ops j (TIh P S hs ops i K) c w) : TIh P S hs ops i (TIh P S hs ops j K) c w := by
 unfold TIh at h ⊢
 cases hi : ops[i]? with
 | none =>
  simp only [hi] at h ⊢; exact h
 | some o =>
  cases hj : ops[j]? with
  | none => simp only [hi, hj] at h ⊢; exact h
  | some p =>
   simp only [hi, hj] at h ⊢
   exact swapH hw0 (hsx p hj) (hsy o hi) (hc p o hj hi) h
end
end Go.Pw
namespace Go.Vc
open Go Go.Pw
def outK {ι : Type} (dl : DL) (slots : ι → List (Nat × Value)) (I : ι → World → Prop) : Exit → Fr → World → Prop
 | .normal, g, w => dsK dl g (Ret (∃ j, Agree g (slots j) ∧ I j w))
 | _, _, _ => False
theorem Draw.cut {P : Program} {n : Nat} {K : Exit → Fr → World → Prop} {id : Nat} {ops : Array Oper} {t : List It} {fg : Nat → Value} {dl : DL} {w : World} {ι : Type} (slots : ι → List (Nat × Value)) (I : ι → World → Prop)
  (h : Draw P n (outK dl slots I) id ops [] ⟨fg, dl⟩ w) (k : ∀ i g w, I i w → Sat P n K .normal t (setL (slots i) ⟨g, dl⟩) w) : Draw P n K id ops t ⟨fg, dl⟩ w :=
 ⟨fun hm hf => zeA (h.h hm hf) fun e a' w' he => by
  obtain ⟨g', hg', rfl, hk⟩ := he
  have hk : outK dl slots I e g' w' := hk
  cases e with
  | normal =>
   obtain ⟨hd, hk⟩ := zpb hk
   obtain ⟨j, h1, h2⟩ := Ret.h hk
   have := (k j g'.g w' h2).h
   rw [zpg hd, zin h1] at this
   exact ⟨g', hg', rfl, this hg'⟩
  | _ => exact hk.elim⟩
end Go.Vc
