/- Helper text of this claim: lemmas and contracts that the proved statement rests on; no conditions of its own. -/
import Derived.Test.YtcdpocffoapbeaaGreatDoorGMh6
namespace Go.Proofs.YtcdpocffoapbeaaGreatDoor
set_option linter.unusedVariables false
set_option maxHeartbeats 4000000
open Go.Shelf Go.RowKit Go.Pw Go.Vc Go.Cs Go.Lib Go.Cd
set_option linter.unusedVariables false
set_option maxRecDepth 100000
abbrev byC (c : UInt8) : List Value := [.int .u8 c.toNat]
theorem zmB (l : List UInt8) : l.flatMap byC = Go.Lib.byteCells l := by
 induction l with
 | nil => rfl
 | cons c l ih => simp only [List.flatMap_cons, ih]; rfl
theorem tyB : RowTy 109 5 byC 1 1 := ⟨Tryz.underlying109, ⟨_, byteInfo, rfl⟩, by decide, fun _ => rfl, fun x u hu => by rw [List.mem_singleton.1 hu]; rfl⟩
theorem bs1B (c : UInt8) (w : World) : (Instr.buildSlice 109 1 [(0, .int .u8 c.toNat)].toArray).run Tryz.prog w = .ok (.slice (some ⟨w.heap.size, 0, none⟩) 1 1) (w.alloc (.cells (List.toArray (byC c)) 5)) := by
 simp [Instr.buildSlice, go_sem, Tryz.runUnderlying109, byC]
abbrev OwnB8 (w : World) (B : Nat) (v : Value) (l : List UInt8) : Prop := w.ownsRow B 5 1 v l.length (l.flatMap byC)
section
variable {w : World} {b : Nat}
theorem zey (n : Nat) (hn : n < 2 ^ 63) : Calls Tryz.prog 86 #[.int .i64 n] w fun e w' => e = .returned (.string (str (numE n))) ∧ Kp w w' n_ := by
 refine zaa (args := [.int .i64 n]) Tryz.func86 rfl NL ?_; refine GW ?_
 refine KGO ?_
 refine Loop.intro (ι := Nat × List UInt8 × Option Addr × Nat) (fun i => [(0, .int .i64 (i.1 : Nat)), (3, .slice i.2.2.1 i.2.1.length i.2.2.2)])
  (fun i wr => Kp w wr n_ ∧ OwnB8 wr w.heap.size (.slice i.2.2.1 i.2.1.length i.2.2.2) i.2.1 ∧ i.2.1 ++ numE i.1 = numE n ∧ i.1 < 2 ^ 63) (fun i => i.1) (n, [], none, 0) ⟨rfl, rfl, trivial⟩
  ⟨Kp.refl _ _, World.ownsRow_nil _ _ _ _, rfl, hn⟩ ?_
 rintro ⟨m, pre, a, c⟩ g wr ⟨hK, ho, he, hm⟩
 dsimp only at ho he hm ⊢
 refine GW ?_
 have hlen := congrArg List.length he
 have hnl := zdP hn
 have hml := zcW m
 rw [List.length_append] at hlen
 by_cases hlt : 128 ≤ m
 ·refine KGO ?_
  rw [zgt]
  refine KGO ?_
  rw [show ((m % 128 : Nat) : Int) + 128 = ((m % 128 + 128 : Nat) : Int) by omega, zgO (by omega)]
  refine RunV.of (bs1B _ _) ?_
  have k4 : Kp wr (wr.alloc (.cells (List.toArray (byC (b8 (m % 128 + 128)))) 5)) n_ := (Kp.refl _ _).alloc _
  have h4 := zeo wr 5 (byC (b8 (m % 128 + 128)))
  have o4 := zac ho k4
  generalize wr.alloc (.cells (List.toArray (byC (b8 (m % 128 + 128)))) 5) = w4 at *
  generalize wr.heap.size = g4 at *
  refine KGO ?_
  have K4 := hK.trans0 k4
  refine tyB.app1 (b8 (m % 128 + 128)) o4 K4.size h4 (by omega) (by omega) fun v5 w5 o5 k5 => ?_
  obtain ⟨a5, c5, rfl⟩ := zab o5
  have K5 := zaz o4 k5 K4 (Nat.le_refl _)
  refine KGO ?_
  rw [zje]
  refine KGO ?_
  rw [zjH hlt hm] at he
  exact ⟨(m / 128, pre ++ [b8 (m % 128 + 128)], a5, c5), ⟨v_int (zaW (by omega) (by omega)), rfl, trivial⟩, ⟨K5, o5, by rw [← he]; simp, by omega⟩, by dsimp only; omega⟩
 ·refine KGO ?_
  rw [zgO (by omega)]
  refine RunV.of (bs1B _ _) ?_
  have k4 : Kp wr (wr.alloc (.cells (List.toArray (byC (b8 m))) 5)) n_ := (Kp.refl _ _).alloc _
  have h4 := zeo wr 5 (byC (b8 m))
  have o4 := zac ho k4
  generalize wr.alloc (.cells (List.toArray (byC (b8 m))) 5) = w4 at *
  generalize wr.heap.size = g4 at *
  refine KGO ?_
  have K4 := hK.trans0 k4
  refine tyB.app1 (b8 m) o4 K4.size h4 (by omega) (by omega) fun v5 w5 o5 k5 => ?_
  obtain ⟨a5, c5, rfl⟩ := zab o5
  have K5 := zaz o4 k5 K4 (Nat.le_refl _)
  refine KGO ?_
  rw [zfV (by omega)] at he
  rw [he] at o5 ⊢
  have o6 : w5.ownsRow w.heap.size 5 1 (.slice a5 (numE n).length c5) (numE n).length (Go.Lib.byteCells (numE n)) := by rw [← zmB]; exact o5
  refine RunV.str (l := numE n) Tryz.underlying109 Tryz.underlying5 Tryz.underlying9 o6 ?_
  refine KGO ?_
  exact ⟨rfl, K5⟩
theorem zla (s : ByteArray) (w : World) : (Instr.build 177 [(0, .string s)].toArray).run Tryz.prog w = .ok (.agg #[.string s, .bool false]) w := by
 simp [Instr.build, go_sem, Tryz.runUnderlying177]
theorem zlS (s : ByteArray) : Calls Tryz.prog 120 #[.string s] w fun e w' => e = .returned (.pointer (some ⟨w.heap.size, 0, none⟩)) ∧ VarK w' w.heap.size 177 (rdC (some (L s))) ∧ Kp w w' n_ := by
 refine zaa (args := [.string s]) Tryz.func120 rfl NL ?_; refine GW ?_
 refine RunV.of (zla s w) ?_
 refine GW ?_
 refine ⟨rfl, ?_, (Kp.refl _ _).alloc _⟩
 exact VarK.new w 177 [.string s, .bool false]
theorem zhr (s : St) (h : VarK w b 177 (rdC s)) (hs : ∀ u, s = some u → u.length ≤ 140737488355328) : Calls Tryz.prog 123 #[.pointer (some ⟨b, 0, none⟩)] w fun e w' => e = .returned (.bool (decide (s = some []))) ∧ Kp w w' n_ := by
 cases s with
 | none =>
  have ha : At w b 0 [.string ⟨#[]⟩, .bool true] := h.at
  refine zaa (args := [.pointer (some ⟨b, 0, none⟩)]) Tryz.func123 rfl NL ?_; refine GW ?_
  refine KGO ?_
  exact ⟨rfl, Kp.refl _ _⟩
 | some u =>
  have ha : At w b 0 [.string (str u), .bool false] := h.at
  have hsz : (str u).size = u.length := rfl
  refine zaa (args := [.pointer (some ⟨b, 0, none⟩)]) Tryz.func123 rfl NL ?_; refine GW ?_
  by_cases hu : u.length = 0
  ·refine KGO ?_
   refine ⟨zai ?_, Kp.refl _ _⟩
   rw [hsz, hu, List.eq_nil_of_length_eq_zero hu]; rfl
  ·refine KGO ?_
   refine ⟨zai ?_, Kp.refl _ _⟩
   rw [hsz]
   have : u ≠ [] := fun e => hu (by rw [e]; rfl)
   simp [this, hu]
end
section
end
end Go.Proofs.YtcdpocffoapbeaaGreatDoor
namespace Go.Proofs.YtcdpocffoapbeaaGreatDoor
set_option linter.unusedVariables false
set_option maxHeartbeats 4000000
open Go.RowKit Go.Pw Go.Vc Go.Cs Go.Lib
set_option linter.unusedVariables false
set_option maxRecDepth 100000
theorem zjM {α : Type} (f : α → List Value) (n : Nat) (hf : ∀ x, (f x).length = n) (u : Value) : ∀ (l : List α) (i j : Nat) (x y : α), l[i]? = some x → j < n → f y = (f x).set j u → (l.flatMap f).set (i * n + j) u = (l.set i y).flatMap f
 | [], i, j, x, y, h, _, _ => by simp at h
 | a :: r, 0, j, x, y, h, hj, he => by
  simp at h; subst h
  rw [List.flatMap_cons, List.set_append_left _ _ (by rw [hf]; omega), List.set_cons_zero, List.flatMap_cons, he]
  simp
 | a :: r, i + 1, j, x, y, h, hj, he => by
  rw [List.flatMap_cons, List.set_append_right _ _ (by rw [hf, Nat.add_mul]; omega), hf, show (i + 1) * n + j - n = i * n + j by rw [Nat.add_mul]; omega, zjM f n hf u r i j x y (by simpa using h) hj he]
  simp
def mk0 (p : Nat × Nat) : Wd := ([], p.1, p.2)
theorem zdd (a b : Int) (w : World) : (Instr.build 128 [(1, .int .i64 a), (2, .int .i64 b)].toArray).run Tryz.prog w = .ok (.agg #[.string ⟨#[]⟩, .int .i64 a, .int .i64 b]) w := by
 simp [Instr.build, Instr.fill, go_sem, Tryz.runUnderlying128]
theorem zka {w : World} {B g cap : Nat} {l : List Wd} (h : Wds w B (.slice (some ⟨g, 0, none⟩) l.length cap) l) {i : Nat} {x y : Wd} (hi : l[i]? = some x) (j : Nat) (hj : j < 3) (u : Value) (he : wordCells y = (wordCells x).set j u) :
  Wds (w.setCell ⟨g, 0 + i * 3 + j, none⟩ u) B (.slice (some ⟨g, 0, none⟩) l.length cap) (l.set i y) := by
 have h1 := (World.ownsRow.stored h (0 + i * 3 + j) u).1
 unfold Wds
 rw [List.length_set, ← zjM wordCells 3 (fun _ => rfl) u l i j x y hi hj he]
 rw [Nat.zero_add] at h1 ⊢
 exact h1
def half (l : List UInt8) (ps : List (Nat × Nat)) (i : Nat) : List Wd := (ps.take i).map (mk l) ++ (ps.drop i).map mk0
theorem zkl (l : List UInt8) (ps : List (Nat × Nat)) (i : Nat) (hi : i ≤ ps.length) : (half l ps i).length = ps.length := by
 unfold half; simp; omega
theorem zmb (l : List UInt8) (ps : List (Nat × Nat)) (i : Nat) (hi : i < ps.length) : (half l ps i)[i]? = some (mk0 ps[i]) := by
 unfold half
 rw [List.getElem?_append_right (by simp; omega)]
 simp [Nat.min_eq_left (Nat.le_of_lt hi), hi]
theorem znO (l : List UInt8) (ps : List (Nat × Nat)) (i : Nat) (hi : i < ps.length) : (half l ps i).set i (mk l ps[i]) = half l ps (i + 1) := by
 unfold half
 rw [List.set_append_right _ _ (by simp; omega), List.drop_eq_getElem_cons hi, List.take_succ_eq_append_getElem hi]
 rw [List.length_map, List.length_take, Nat.min_eq_left (Nat.le_of_lt hi), Nat.sub_self, List.map_cons, List.set_cons_zero, List.map_append, List.append_assoc]
 rfl
section
variable {w : World}
theorem ziH (s : ByteArray) (hs : s.size ≤ 10000000) : Calls Tryz.prog 119 #[.string s] w fun e w' => ∃ v, e = .returned v ∧ Wds w' w.heap.size v (wordsL (L s)) ∧ Kp w w' n_ := by
 have hl := L_len s
 have hul := zhB (L s)
 have hun := zfS (L s)
 have hcl := zgy (L s)
 have hW := us_W (L s)
 have hfin := (zmh (us (L s)) (fun q hq => (hcl q hq).1) 0 []).1
 rw [List.nil_append] at hfin
 have hbd := zmW (L s)
 rw [zib]
 rw [zgv] at hfin hW hcl
 rw [zgv] at hbd
 rw [zgv]
 refine zaa (args := [.string s]) Tryz.func119 rfl NL ?_; refine GW ?_
 refine CallS.of (Tryz.call152 _ _) (zff (w := w) s (by omega)) ?_
 rintro e w1 ⟨v1, rfl, hU, k1⟩
 generalize units (L s) = U at *
 obtain ⟨au, cu, rfl, hrd⟩ := zir hU
 refine RT ?_
 refine GO ?_
 refine Loop.intro (ι := Nat × Nat × Bool × Option Addr × Nat × List (Nat × Nat)) (fun i => [(0, .string s), (3, .slice au U.length cu), (4, .slice i.2.2.2.1 i.2.2.2.2.2.length i.2.2.2.2.1), (5, .int .i64 (i.2.1 : Nat)), (6, .bool i.2.2.1), (7, .int .i64 (i.1 : Nat))])
  (fun i wr => Kp w1 wr n_ ∧ i.1 ≤ U.length ∧ Wds wr w1.heap.size (.slice i.2.2.2.1 i.2.2.2.2.2.length i.2.2.2.2.1) (i.2.2.2.2.2.map mk0) ∧
   refW ((U.drop i.1).map fun u => (clsN (decodeL u), u.length)) i.2.1 i.2.2.2.2.2 i.2.2.1 = wd (U.map fun u => (clsN (decodeL u), u.length)) 0 none ∧
   i.2.1 + W ((U.drop i.1).map fun u => (clsN (decodeL u), u.length)) = s.size ∧ (∀ p ∈ i.2.2.2.2.2, p.1 ≤ p.2 ∧ p.2 ≤ i.2.1) ∧ i.2.2.2.2.2.length ≤ i.1 ∧ (i.2.2.1 = true → i.2.2.2.2.2 ≠ [])) (fun i => U.length - i.1) (0, 0, false, none, 0, []) ⟨rfl, rfl, rfl, rfl, rfl, rfl, trivial⟩
  ⟨Kp.refl _ _, Nat.zero_le _, World.ownsRow_nil _ _ _ _, hfin, by rw [List.drop_zero, hW, hl]; simp, by simp, Nat.le_refl _, by simp⟩ ?_
 rintro ⟨n, at_, op, a, cap, ps⟩ g wr ⟨hK, hn, hv, he, hat, hps, hpl, hop⟩
 dsimp only at hn hv he hat hps hpl hop ⊢
 refine GW ?_
 by_cases hlt : n < U.length
 ·obtain ⟨gu, rfl, hg, hau⟩ := hrd (by omega)
  have c0 : wr.cell? ⟨gu, 0 + n, none⟩ = some (.string (str U[n])) := zmt (zbc hau hK) hlt
  have c0d : wr.drew.cell? ⟨gu, 0 + n, none⟩ = some (.string (str U[n])) := c0
  have hu := hun U[n] (List.getElem_mem hlt)
  have hk2 := (hcl (clsN (decodeL U[n]), U[n].length) (List.mem_map_of_mem (List.getElem_mem hlt))).1
  rw [List.drop_eq_getElem_cons hlt, List.map_cons, refW] at he
  rw [List.drop_eq_getElem_cons hlt, List.map_cons, W_cons] at hat
  have hul4 := zkh _ hu
  have hof := zoi (w := wr) U[n] hu hul4
  generalize U[n] = u at *
  have hsz : (str u).size = u.length := zcQ u
  dsimp only at hk2 hat
  generalize clsN (decodeL u) = k at *
  refine GO ?_
  refine CallS.of (Tryz.call153 _ _) hof ?_
  rintro e w2 ⟨rfl, rfl⟩
  refine RT ?_
  have c00 : w1.cell? ⟨gu, 0 + n, none⟩ = some (.string (str u)) := (hK.cell (p := ⟨gu, 0 + n, none⟩) hg id).symm.trans c0
  rcases (show k = 0 ∨ k = 1 ∨ k = 2 by omega) with rfl | rfl | rfl
  ·rw [if_neg (by omega), if_neg (by omega)] at he
   refine GO ?_
   exact ⟨(n + 1, at_ + u.length, false, a, cap, ps), ⟨rfl, rfl, rfl, v_int (by rw [hsz]; simp), rfl, v_int (by simp), trivial⟩, ⟨hK.drew, by dsimp only; omega, hv, he, by dsimp only; omega, fun p hp => by have := hps p hp; dsimp only; omega, by dsimp only; omega, fun h => by cases h⟩, by dsimp only; omega⟩
  ·cases op with
   | false =>
    rw [if_neg (by simp), if_pos (by omega)] at he
    refine GO ?_
    rw [show ((at_ : Int) + ((str u).size : Nat)) = ((at_ + u.length : Nat) : Int) by rw [hsz]; rfl]
    refine RunV.of (zdd _ _ _) ?_
    refine GW ?_
    refine RunV.of (zbY _ _ _ _) ?_
    refine GW ?_
    refine zeB (w := wr.drew) (B := w1.heap.size) hv (Nat.le_trans hK.size (Kp.refl wr n_).drew.size) (mk0 (at_, at_ + u.length)) (by rw [List.length_map]; omega) fun v' w3 h3 g3 => ?_
    have K3 : Kp w1 w3 n_ := (hK.drew.alloc _).own (zac (w := wr.drew) hv ((Kp.refl _ _).alloc _)) (Nat.le_refl _) g3
    have e3 : List.map mk0 ps ++ [mk0 (at_, at_ + u.length)] = List.map mk0 (ps ++ [(at_, at_ + u.length)]) := by simp
    rw [e3] at h3
    obtain ⟨a3, c3, rfl⟩ : ∃ a c, v' = .slice a (ps ++ [(at_, at_ + u.length)]).length c := by
     obtain ⟨a, c, e⟩ := zab h3
     exact ⟨a, c, by rw [e, List.length_map]⟩
    have c3 : w3.cell? ⟨gu, 0 + n, none⟩ = some (.string (str u)) := (K3.cell (p := ⟨gu, 0 + n, none⟩) hg id).trans c00
    refine GO ?_
    exact ⟨(n + 1, at_ + u.length, true, a3, _, ps ++ [(at_, at_ + u.length)]), ⟨rfl, rfl, rfl, v_int (by rw [hsz]; simp), rfl, v_int (by simp), trivial⟩, ⟨K3, by dsimp only; omega, h3, he, by dsimp only; omega, fun p hp => by
     dsimp only at hp ⊢
     rcases List.mem_append.1 hp with h | h
     ·have := hps p h; omega
     ·simp at h; subst h; dsimp only; omega, by dsimp only; rw [List.length_append]; show ps.length + 1 ≤ _; omega, fun _ => by simp⟩, by dsimp only; omega⟩
   | true =>
    obtain ⟨C, q, hq⟩ : ∃ C q, ps = C ++ [q] := ⟨ps.dropLast, ps.getLast (hop rfl), (List.dropLast_concat_getLast (hop rfl)).symm⟩
    have hpq := hps q (by rw [hq]; simp)
    have hlC : ps.length = C.length + 1 := by rw [hq]; simp
    have hrd2 := zir hv
    obtain ⟨ag, ac, hae, hrd2⟩ := hrd2
    injection hae with ha1 ha2 ha3
    subst ha1
    obtain ⟨go, rfl, hgo, hat2⟩ := hrd2 (by rw [List.length_map]; omega)
    have hi1 : C.length < (List.map mk0 ps).length := by rw [List.length_map]; omega
    have hcs := zgz hat2 hi1
    have hqe : (List.map mk0 ps)[C.length] = mk0 q := by simp [hq]
    rw [hqe] at hcs
    have d1 : wr.drew.cell? ⟨go, 0 + C.length * 3 + 1, none⟩ = some (.int .i64 (q.1 : Nat)) := hcs 1 _ rfl
    have d2 : wr.drew.cell? ⟨go, 0 + C.length * 3 + 2, none⟩ = some (.int .i64 (q.2 : Nat)) := hcs 2 _ rfl
    rw [show ((ps.length : Nat) : Int) - 1 = ((C.length : Nat) : Int) by omega]
    have he1 : ps.getLastD (0, 0) = q := by rw [hq, List.getLastD_concat]
    have he2 : ps.dropLast = C := by rw [hq, List.dropLast_concat]
    rw [he1, he2] at he
    by_cases h40 : q.2 - q.1 + u.length ≤ 40
    ·rw [if_pos ⟨rfl, rfl, h40⟩] at he
     have d3 : wr.drew.drew.cell? ⟨go, 0 + C.length * 3 + 2, none⟩ = some (.int .i64 (q.2 : Nat)) := d2
     have d4 : wr.drew.drew.cell? ⟨gu, 0 + n, none⟩ = some (.string (str u)) := c0
     refine GO ?_
     rw [show ((q.2 : Nat) : Int) + ((str u).size : Nat) = ((q.2 + u.length : Nat) : Int) by rw [hsz]; rfl]
     have hvn : wr.drew.drew.ownsRow w1.heap.size 128 3 (.slice (some ⟨go, 0, none⟩) ps.length cap) ps.length ((ps.map mk0).flatMap wordCells) := by
      have h := hv
      unfold Wds at h
      rw [List.length_map] at h
      exact h
     refine Store.one (by rfl) ⟨rfl, by simp, by simp⟩ d3 (World.ownsRow.frozenAt hvn _) ?_
     have hv2 := zka (w := wr.drew.drew) (B := w1.heap.size) (g := go) (cap := cap) (l := List.map mk0 ps) (by rw [List.length_map]; exact hv) (i := C.length) (x := mk0 q) (y := mk0 (q.1, q.2 + u.length)) (by rw [List.getElem?_eq_getElem hi1, hqe]) 2 (by omega) (.int .i64 ((q.2 + u.length : Nat) : Int)) rfl
     have hset : (List.map mk0 ps).set C.length (mk0 (q.1, q.2 + u.length)) = List.map mk0 (C ++ [(q.1, q.2 + u.length)]) := by
      rw [hq, List.map_append, List.set_append_right _ _ (by simp)]; simp
     rw [hset, List.length_map] at hv2
     have hgb : w1.heap.size ≤ go := (hv.lt go rfl).1
     have K3 : Kp w1 (wr.drew.drew.setCell ⟨go, 0 + C.length * 3 + 2, none⟩ (.int .i64 ((q.2 + u.length : Nat) : Int))) n_ := hK.drew.drew.setCell (p := ⟨go, 0 + C.length * 3 + 2, none⟩) (.inr hgb) _
     generalize wr.drew.drew.setCell ⟨go, 0 + C.length * 3 + 2, none⟩ (.int .i64 ((q.2 + u.length : Nat) : Int)) = w3 at *
     have c3 : w3.cell? ⟨gu, 0 + n, none⟩ = some (.string (str u)) := (K3.cell (p := ⟨gu, 0 + n, none⟩) hg id).trans c00
     have hl3 : ps.length = (C ++ [(q.1, q.2 + u.length)]).length := by rw [hlC]; simp
     rw [hl3]
     refine GO ?_
     exact ⟨(n + 1, at_ + u.length, true, _, cap, C ++ [(q.1, q.2 + u.length)]), ⟨rfl, rfl, rfl, v_int (by rw [hsz]; simp), rfl, v_int (by simp), trivial⟩, ⟨K3, by dsimp only; omega, by dsimp only; rw [← hl3]; exact hv2, he, by dsimp only; omega, fun p hp => by
      dsimp only at hp ⊢
      rcases List.mem_append.1 hp with h | h
      ·have := hps p (by rw [hq]; simp [h]); omega
      ·simp at h; subst h; dsimp only; omega, by dsimp only; rw [← hl3]; omega, fun _ => by simp⟩, by dsimp only; omega⟩
    ·rw [if_neg (fun h => h40 h.2.2), if_pos (by omega)] at he
     refine GO ?_
     rw [show ((at_ : Int) + ((str u).size : Nat)) = ((at_ + u.length : Nat) : Int) by rw [hsz]; rfl]
     refine RunV.of (zdd _ _ _) ?_
     refine GW ?_
     refine RunV.of (zbY _ _ _ _) ?_
     refine GW ?_
     refine zeB (w := wr.drew) (B := w1.heap.size) hv (Nat.le_trans hK.size (Kp.refl wr n_).drew.size) (mk0 (at_, at_ + u.length)) (by rw [List.length_map]; omega) fun v' w3 h3 g3 => ?_
     have K3 : Kp w1 w3 n_ := (hK.drew.alloc _).own (zac (w := wr.drew) hv ((Kp.refl _ _).alloc _)) (Nat.le_refl _) g3
     have e3 : List.map mk0 ps ++ [mk0 (at_, at_ + u.length)] = List.map mk0 (ps ++ [(at_, at_ + u.length)]) := by simp
     rw [e3] at h3
     obtain ⟨a3, c3, rfl⟩ : ∃ a c, v' = .slice a (ps ++ [(at_, at_ + u.length)]).length c := by
      obtain ⟨a, c, e⟩ := zab h3
      exact ⟨a, c, by rw [e, List.length_map]⟩
     have c3 : w3.cell? ⟨gu, 0 + n, none⟩ = some (.string (str u)) := (K3.cell (p := ⟨gu, 0 + n, none⟩) hg id).trans c00
     refine GO ?_
     exact ⟨(n + 1, at_ + u.length, true, a3, _, ps ++ [(at_, at_ + u.length)]), ⟨rfl, rfl, rfl, v_int (by rw [hsz]; simp), rfl, v_int (by simp), trivial⟩, ⟨K3, by dsimp only; omega, h3, he, by dsimp only; omega, fun p hp => by
      dsimp only at hp ⊢
      rcases List.mem_append.1 hp with h | h
      ·have := hps p h; omega
      ·simp at h; subst h; dsimp only; omega, by dsimp only; rw [List.length_append]; show ps.length + 1 ≤ _; omega, fun _ => by simp⟩, by dsimp only; omega⟩
  ·rw [if_neg (by omega), if_pos (by omega)] at he
   refine GO ?_
   rw [show ((at_ : Int) + ((str u).size : Nat)) = ((at_ + u.length : Nat) : Int) by rw [hsz]; rfl]
   refine RunV.of (zdd _ _ _) ?_
   refine GW ?_
   refine RunV.of (zbY _ _ _ _) ?_
   refine GW ?_
   refine zeB (w := wr.drew) (B := w1.heap.size) hv (Nat.le_trans hK.size (Kp.refl wr n_).drew.size) (mk0 (at_, at_ + u.length)) (by rw [List.length_map]; omega) fun v' w3 h3 g3 => ?_
   have K3 : Kp w1 w3 n_ := (hK.drew.alloc _).own (zac (w := wr.drew) hv ((Kp.refl _ _).alloc _)) (Nat.le_refl _) g3
   have e3 : List.map mk0 ps ++ [mk0 (at_, at_ + u.length)] = List.map mk0 (ps ++ [(at_, at_ + u.length)]) := by simp
   rw [e3] at h3
   obtain ⟨a3, c3, rfl⟩ : ∃ a c, v' = .slice a (ps ++ [(at_, at_ + u.length)]).length c := by
    obtain ⟨a, c, e⟩ := zab h3
    exact ⟨a, c, by rw [e, List.length_map]⟩
   have c3 : w3.cell? ⟨gu, 0 + n, none⟩ = some (.string (str u)) := (K3.cell (p := ⟨gu, 0 + n, none⟩) hg id).trans c00
   refine GO ?_
   exact ⟨(n + 1, at_ + u.length, false, a3, _, ps ++ [(at_, at_ + u.length)]), ⟨rfl, rfl, rfl, v_int (by rw [hsz]; simp), rfl, v_int (by simp), trivial⟩, ⟨K3, by dsimp only; omega, h3, he, by dsimp only; omega, fun p hp => by
    dsimp only at hp ⊢
    rcases List.mem_append.1 hp with h | h
    ·have := hps p h; omega
    ·simp at h; subst h; dsimp only; omega, by dsimp only; rw [List.length_append]; show ps.length + 1 ≤ _; omega, fun _ => by simp⟩, by dsimp only; omega⟩
 ·refine GO ?_
  have hnn : n = U.length := by omega
  subst hnn
  rw [List.drop_length, List.map_nil, refW] at he
  rw [← he] at hbd ⊢
  have hvn : wr.ownsRow w1.heap.size 128 3 (.slice a ps.length cap) ps.length ((half (L s) ps 0).flatMap wordCells) := by
   have h := hv
   unfold Wds at h
   rw [List.length_map] at h
   exact h
  have hpsz : ∀ p ∈ ps, p.1 ≤ p.2 ∧ p.2 ≤ s.size := fun p hp => by have := hps p hp; omega
  clear hv hfin hps he hcl hbd hop hat
  refine Loop.intro (ι := Nat) (fun i => [(0, .string s), (4, .slice a ps.length cap), (10, .int .i64 (i : Nat))])
   (fun i wr => Kp w1 wr n_ ∧ i ≤ ps.length ∧ wr.ownsRow w1.heap.size 128 3 (.slice a ps.length cap) ps.length ((half (L s) ps i).flatMap wordCells)) (fun i => ps.length - i) 0 ⟨rfl, rfl, rfl, trivial⟩
   ⟨hK, Nat.zero_le _, hvn⟩ ?_
  rintro i g2 wr2 ⟨hK2, hi, hv2⟩
  refine GW ?_
  by_cases hlt2 : i < ps.length
  ·obtain ⟨go, rfl, hgb, hgo, hat2⟩ := zbH hv2 (by omega)
   have hlh := zkl (L s) ps i hi
   have hih : i < (half (L s) ps i).length := by omega
   have hcs := zgz hat2 hih
   have hqe : (half (L s) ps i)[i] = mk0 ps[i] := by
    have h1 := zmb (L s) ps i hlt2
    rw [List.getElem?_eq_getElem hih] at h1
    exact Option.some.inj h1
   rw [hqe] at hcs
   have hpp := hpsz ps[i] (List.getElem_mem hlt2)
   have hset := znO (L s) ps i hlt2
   have hgx := zmb (L s) ps i hlt2
   generalize ps[i] = q at *
   have f0 : ∀ u, Kp wr2 u n_ → u.cell? ⟨go, 0 + i * 3 + 0, none⟩ = some (.string ⟨#[]⟩) := fun u k => zbc hcs k 0 _ rfl
   have f1 : ∀ u, Kp wr2 u n_ → u.cell? ⟨go, 0 + i * 3 + 1, none⟩ = some (.int .i64 (q.1 : Nat)) := fun u k => zbc hcs k 1 _ rfl
   have f2 : ∀ u, Kp wr2 u n_ → u.cell? ⟨go, 0 + i * 3 + 2, none⟩ = some (.int .i64 (q.2 : Nat)) := fun u k => zbc hcs k 2 _ rfl
   refine GO ?_
   have d1 : wr2.drew.cell? ⟨go, 0 + i * 3 + 1, none⟩ = some (.int .i64 (q.1 : Nat)) := f1 _ (Kp.refl _ _).drew
   have d2 : wr2.drew.cell? ⟨go, 0 + i * 3 + 2, none⟩ = some (.int .i64 (q.2 : Nat)) := f2 _ (Kp.refl _ _).drew
   obtain ⟨hp1, hp2⟩ := hpp
   refine GO ?_
   have hLx : L (s.extract q.1 q.2) = cutL (L s) q := L_extract s q.1 q.2
   refine CallS.of (Tryz.call154 _ _) (zkS (w := wr2.drew) (s.extract q.1 q.2) (by rw [ByteArray.size_extract]; omega)) ?_
   rintro e w3 ⟨rfl, k3⟩
   rw [hLx]
   have k3' : Kp wr2 w3 n_ := (Kp.refl _ _).drew.trans0 k3
   refine RT ?_
   refine GO ?_
   have hv3 : w3.ownsRow w1.heap.size 128 3 (.slice (some ⟨go, 0, none⟩) ps.length cap) ps.length ((half (L s) ps i).flatMap wordCells) := zac hv2 k3'
   refine Store.one (by rfl) ⟨rfl, by simp, by simp⟩ (f0 w3 k3') (World.ownsRow.frozenAt hv3 _) ?_
   have hv4 := zka (w := w3) (B := w1.heap.size) (g := go) (cap := cap) (l := half (L s) ps i) (by rw [← hlh] at hv3; exact hv3) (i := i) (x := mk0 q) (y := mk (L s) q) hgx 0 (by omega) (.string (str (foldL (cutL (L s) q)))) rfl
   rw [hset] at hv4
   have K4 : Kp w1 (w3.setCell ⟨go, 0 + i * 3 + 0, none⟩ (.string (str (foldL (cutL (L s) q))))) n_ := (hK2.trans0 k3').setCell (p := ⟨go, 0 + i * 3 + 0, none⟩) (.inr hgb) _
   have hv5 : (w3.setCell ⟨go, 0 + i * 3 + 0, none⟩ (.string (str (foldL (cutL (L s) q))))).ownsRow w1.heap.size 128 3 (.slice (some ⟨go, 0, none⟩) ps.length cap) ps.length ((half (L s) ps (i + 1)).flatMap wordCells) := by
    have hl5 := zkl (L s) ps (i + 1) (by omega)
    unfold Wds at hv4
    rw [hl5, hlh] at hv4
    exact hv4
   generalize w3.setCell ⟨go, 0 + i * 3 + 0, none⟩ (.string (str (foldL (cutL (L s) q)))) = w4 at *
   refine GO ?_
   exact ⟨i + 1, ⟨rfl, rfl, v_int (by simp), trivial⟩, ⟨K4, by omega, hv5⟩, by dsimp only; omega⟩
  ·refine GO ?_
   have e : i = ps.length := by omega
   subst e
   refine ⟨_, rfl, ?_, k1.trans0 hK2⟩
   unfold Wds
   rw [List.length_map]
   have hh : half (L s) ps ps.length = ps.map (mk (L s)) := by unfold half; simp
   rw [hh] at hv2
   exact zar hv2 k1.size
end
section
variable {w : World}
theorem zlk (s : ByteArray) (hs : s.size ≤ 10000000) : Calls Tryz.prog 77 #[.string s] w fun e w' => ∃ v, e = .returned v ∧ Txs w' w.heap.size v (listL (L s)) ∧ Kp w w' n_ := by
 have hLs : (L s).length = s.size := by simp [L]
 have hwl := zcR (L s)
 refine zaa (args := [.string s]) Tryz.func77 rfl NL ?_; refine GW ?_
 refine GO ?_
 refine CallS.of (Tryz.call119 _ _) (ziH s hs) ?_
 rintro e w1 ⟨v, rfl, hW, k1⟩
 unfold listL
 generalize wordsL (L s) = W at *
 obtain ⟨a, cap, rfl, hr⟩ := zir hW
 refine RT ?_
 refine GO ?_
 refine Loop.intro (ι := Nat × Option Addr × Nat × List (List UInt8)) (fun i => [(3, .slice a W.length cap), (4, .slice i.2.1 i.2.2.2.length i.2.2.1), (5, .int .i64 (i.1 : Nat))])
  (fun i wr => Kp w1 wr n_ ∧ i.1 ≤ W.length ∧ i.2.2.2 = (W.take i.1).map (·.1) ∧ Txs wr w1.heap.size (.slice i.2.1 i.2.2.2.length i.2.2.1) i.2.2.2) (fun i => W.length - i.1) (0, none, 0, []) ⟨rfl, rfl, rfl, trivial⟩
  ⟨Kp.refl _ _, Nat.zero_le _, rfl, ?_⟩ ?_
 ·exact World.ownsRow_nil _ _ _ _
 rintro ⟨i, va, vc, l⟩ gg wr ⟨hK1, hi, hl, hT⟩
 dsimp only at hi hl hT ⊢
 have hll : l.length = i := by rw [hl]; simp; omega
 refine GW ?_
 by_cases hlt : i < W.length
 ·obtain ⟨g1, rfl, b1, h1⟩ := hr (by omega)
  have c1 : wr.cell? ⟨g1, 0 + i * 3, none⟩ = some (.string (str W[i].1)) := zgz (zbc h1 hK1) hlt 0 _ rfl
  refine GO ?_
  refine RunV.of (zdY _ _) ?_
  refine GW ?_
  refine zgs hT hK1.size W[i].1 (by omega) fun v' w3 h3 g3 => ?_
  obtain ⟨a3, c3, rfl⟩ : ∃ a c, v' = .slice a (l ++ [W[i].1]).length c := zab h3
  refine GO ?_
  have K3 : Kp w1 w3 n_ := (hK1.alloc _).own (zac hT ((Kp.refl _ _).alloc _)) (Nat.le_refl _) g3
  exact ⟨(i + 1, a3, c3, l ++ [W[i].1]), ⟨rfl, rfl, v_int (by simp), trivial⟩, ⟨K3, by dsimp only; omega, by dsimp only; rw [List.take_succ_eq_append_getElem hlt, List.map_append, hl]; rfl, h3⟩, by dsimp only; omega⟩
 ·refine GO ?_
  have e : i = W.length := by omega
  rw [e, List.take_length] at hl
  refine ⟨_, rfl, ?_, k1.trans0 hK1⟩
  rw [← hl]
  exact zar hT k1.size
end
end Go.Proofs.YtcdpocffoapbeaaGreatDoor
namespace Go.Proofs.YtcdpocffoapbeaaGreatDoor
set_option linter.unusedVariables false
set_option maxHeartbeats 4000000
open Go.Shelf Go.RowKit Go.Pw Go.Vc Go.Cs Go.Lib Go.Cd Go.Mg
set_option linter.unusedVariables false
set_option maxRecDepth 100000
section
variable {w : World}
theorem zkE {v : Value} (l : List Pst) (hv : RowP w v l) (hl : l.length ≤ 1000000000000) (hpn : ∀ p ∈ l, p.places.length ≤ 17592186044416) : Calls Tryz.prog 85 #[v] w fun e w' => e = .returned (.bool (rightP l)) ∧ Kp w w' n_ := by
 obtain ⟨lx, rfl, hv⟩ := hv
 rw [List.length_map] at hl
 have hpn : ∀ x ∈ lx, x.p.places.length ≤ 17592186044416 := fun x hx => hpn x.p (List.mem_map_of_mem hx)
 have hv0 := hv
 obtain ⟨⟨a, ca, rfl, hra⟩, hpl, _, _⟩ := hv
 refine zaa (args := [.slice a lx.length ca]) Tryz.func85 rfl NL ?_; refine GW ?_
 refine Loop.intro (ι := Nat × Int) (fun i => [(0, .slice a lx.length ca), (2, .bool false), (3, .int .i64 i.2), (4, .int .i64 (i.1 : Nat))])
  (fun i wr => Kp w wr n_ ∧ i.1 ≤ lx.length ∧ (∀ x ∈ lx.take i.1, okPl x.p = true) ∧ 0 ≤ i.2 ∧ i.2 ≤ 1099511627776 ∧ Mg.risesB 1 (lx.map (·.p.doc)) = Mg.risesB (i.2 + 1) ((lx.drop i.1).map (·.p.doc))) (fun i => lx.length - i.1) (0, 0) ⟨rfl, rfl, rfl, rfl, trivial⟩ ⟨Kp.refl _ _, Nat.zero_le _, by simp, by decide, by decide, rfl⟩ ?_
 rintro ⟨i, doc⟩ gg wr ⟨hK, hi, ht, hd0, hd1, hd⟩
 dsimp only at hi ht hd0 hd1 hd ⊢
 have hmm : (lx.map (·.p)).map (·.doc) = lx.map (·.p.doc) := by rw [List.map_map]; rfl
 have hno2 : Mg.risesB 1 (lx.map (·.p.doc)) = false → rightP (lx.map (·.p)) = false := fun h => by
  unfold rightP; rw [hmm, h, Bool.and_false]
 refine GW ?_
 by_cases hlt : i < lx.length
 ·obtain ⟨ga, oa, rfl, hga, hata⟩ := hra (by omega)
  have hpi := hpl lx[i] (List.getElem_mem hlt)
  have hno : okPl lx[i].p = false → rightP (lx.map (·.p)) = false := fun h => by
   unfold rightP
   rw [List.all_eq_false.2 ⟨lx[i].p, List.mem_map_of_mem (List.getElem_mem hlt), by rw [h]; decide⟩]; rfl
  have hn := RowO.len hpi
  have hpni := hpn _ (List.getElem_mem hlt)
  rw [List.drop_eq_getElem_cons hlt, List.map_cons, Mg.risesB] at hd
  by_cases h1 : lx[i].p.doc ≤ doc
  ·refine KGO ?_
   exact ⟨zai (hno2 (by rw [hd, decide_eq_false (by omega)]; rfl)).symm, hK⟩
  by_cases h2 : 1099511627776 < lx[i].p.doc
  ·refine KGO ?_
   exact ⟨zai (hno2 (by rw [hd, decide_eq_false (by omega)]; rfl)).symm, hK⟩
  refine KGO ?_
  rw [hn]
  by_cases h0 : lx[i].p.places.length = 0
  ·refine KGO ?_
   exact ⟨zai (hno (by unfold okPl; rw [List.eq_nil_of_length_eq_zero h0]; rfl)).symm, hK⟩
  refine KGO ?_
  have hok : okPl lx[i].p = Mg.risesB 0 lx[i].p.places := by
   unfold okPl
   rw [show lx[i].p.places.isEmpty = false from by cases h : lx[i].p.places with | nil => rw [h] at h0; exact absurd rfl h0 | cons => rfl]; rfl
  obtain ⟨pa, pc, hpe, hpr⟩ := hpi
  have hsl : lx[i].h = ⟨pa, lx[i].p.places.length, pc⟩ := by
   have e := hpe
   unfold Sl.v at e
   injection e with e1 e2 e3
   cases hh : lx[i].h with
   | mk x1 x2 x3 => rw [hh] at e1 e2 e3; dsimp only at e1 e2 e3; rw [e1, e2, e3]
  generalize hPL : lx[i].p.places = PL at *
  refine Loop.intro (ι := Nat × Int) (fun k => [(0, .slice (some ⟨ga, oa, none⟩) lx.length ca), (2, .bool false), (3, .int .i64 lx[i].p.doc), (4, .int .i64 (i : Nat)), (5, .int .i64 k.2), (6, .int .i64 (k.1 : Nat))])
   (fun k wq => Kp w wq n_ ∧ k.1 ≤ PL.length ∧ -1 ≤ k.2 ∧ k.2 ≤ 1099511627776 ∧ Mg.risesB 0 PL = Mg.risesB (k.2 + 1) (PL.drop k.1)) (fun k => PL.length - k.1) (0, -1) ⟨rfl, rfl, rfl, rfl, rfl, rfl, trivial⟩ ⟨hK, Nat.zero_le _, by decide, by decide, rfl⟩ ?_
  rintro ⟨k, pt⟩ gg2 wq ⟨hK2, hk, hp0, hp1, hpd⟩
  dsimp only at hk hp0 hp1 hpd ⊢
  refine GW ?_
  by_cases hlk : k < PL.length
  ·obtain ⟨gp, op, rfl, hgp, hatp⟩ := hpr (by omega)
   have cp := zaX hatp hlk
   rw [List.drop_eq_getElem_cons hlk, Mg.risesB] at hpd
   have hrow : ∀ q : Nat, lx[i].h.n = q → True := fun _ _ => trivial
   refine KGO ?_
   rw [hsl]
   dsimp only
   by_cases h3 : PL[k] ≤ pt
   ·refine KGO ?_
    exact ⟨zai (hno (by rw [hok, hpd, decide_eq_false (by omega)]; rfl)).symm, hK2⟩
   by_cases h4 : 1099511627776 < PL[k]
   ·refine KGO ?_
    exact ⟨zai (hno (by rw [hok, hpd, decide_eq_false (by omega)]; rfl)).symm, hK2⟩
   refine KGO ?_
   exact ⟨(k + 1, PL[k]), ⟨rfl, rfl, rfl, rfl, rfl, v_int (by simp), trivial⟩, ⟨hK2, by omega, by dsimp only; omega, by dsimp only; omega, by rw [hpd, decide_eq_true (by omega)]; rfl⟩, by dsimp only; omega⟩
  ·rw [List.drop_eq_nil_of_le (by omega)] at hpd
   refine KGO ?_
   exact ⟨(i + 1, lx[i].p.doc), ⟨rfl, rfl, rfl, v_int (by simp), trivial⟩, ⟨hK2, by omega, fun x hx => by
    rw [List.take_succ_eq_append_getElem hlt, List.mem_append, List.mem_singleton] at hx
    rcases hx with hx | rfl
    ·exact ht x hx
    ·rw [hok, hpd]; rfl, by dsimp only; omega, by dsimp only; omega, by rw [hd, decide_eq_true (by omega)]; rfl⟩, by dsimp only; omega⟩
 ·rw [List.take_of_length_le (by omega)] at ht
  rw [List.drop_eq_nil_of_le (by omega)] at hd
  refine KGO ?_
  exact ⟨zai (by
   unfold rightP
   rw [List.all_eq_true.2 (fun p hp => by obtain ⟨x, hx, rfl⟩ := List.mem_map.1 hp; exact ht x hx), hmm, hd]; rfl), hK⟩
end
section
variable {w : World}
theorem zbw {v : Value} (l : List Pst) (hv : RowP w v l) (hl : l.length ≤ 1000000000000) (hpn : ∀ p ∈ l, p.places.length ≤ 17592186044416) (hsz : 9 * (encN 0 l).length + 9 ≤ 140737488355328) :
  Calls Tryz.prog 45 #[v] w fun e w' => e = .returned (.string (str (encP l))) ∧ Kp w w' n_ := by
 have hv0 := hv
 obtain ⟨lx, rfl, hv⟩ := hv
 rw [List.length_map] at hl
 obtain ⟨⟨a, ca, rfl, hra⟩, hpl, _, _⟩ := hv
 refine zaa (args := [.slice a lx.length ca]) Tryz.func45 rfl NL ?_; refine GW ?_
 refine CallS.of (Tryz.call85 _ _) (zkE (w := w) (lx.map (·.p)) hv0 (by rw [List.length_map]; exact hl) hpn) ?_
 rintro e w1 ⟨rfl, k1⟩
 refine RT ?_
 cases hq : rightP (lx.map (·.p)) with
 | false =>
  refine KGO ?_
  exact ⟨by unfold encP; rw [hq]; rfl, k1⟩
 | true =>
 refine KGO ?_
 have hr := zbv.1 hq
 have hdl := zes hq
 have hel := zcH (lx.map (·.p))
 have het := zcp hq
 rw [List.length_map] at het
 obtain ⟨tot, htot⟩ : ∃ t, encP (lx.map (·.p)) = t := ⟨_, rfl⟩
 rw [htot] at hel het
 refine CallS.of (Tryz.call86 _ _) (zey (w := w1) lx.length (by omega)) ?_
 rintro e w2 ⟨rfl, k2⟩
 have J2 := k1.trans0 k2
 refine RT ?_
 refine Loop.intro (ι := Nat × Int × List UInt8) (fun i => [(0, .slice a lx.length ca), (4, .string (str i.2.2)), (5, .int .i64 i.2.1), (6, .int .i64 (i.1 : Nat))])
  (fun i wr => Kp w wr n_ ∧ i.1 ≤ lx.length ∧ 0 ≤ i.2.1 ∧ i.2.1 ≤ 1099511627776 ∧ Mg.risesB i.2.1 ((lx.drop i.1).map (·.p.doc)) = true ∧ i.2.2 ++ (encN i.2.1 ((lx.drop i.1).map (·.p))).flatMap numE = tot) (fun i => lx.length - i.1) (0, 0, numE lx.length)
  ⟨rfl, rfl, rfl, rfl, trivial⟩ ⟨J2, Nat.zero_le _, Int.le_refl 0, (by decide : (0:Int) ≤ 1099511627776), by have := zbi hr.2 (show (0 : Int) ≤ 1 by decide); rw [List.map_map] at this; exact this, het.symm⟩ ?_
 rintro ⟨i, d, pre⟩ gg wr ⟨hK, hi, hd0, hdm, hrs, hpre⟩
 dsimp only at hi hd0 hdm hrs hpre ⊢
 refine GW ?_
 by_cases hlt : i < lx.length
 rotate_left
 ·refine KGO ?_
  rw [List.drop_eq_nil_of_le (by omega)] at hpre
  exact ⟨by rw [htot, ← hpre]; simp [encN], hK⟩
 obtain ⟨ga, oa, rfl, hga, hata⟩ := hra (by omega)
 have hpi := hpl lx[i] (List.getElem_mem hlt)
 have hri := hr.1 lx[i].p (List.mem_map_of_mem (List.getElem_mem hlt))
 have hpni := hpn lx[i].p (List.mem_map_of_mem (List.getElem_mem hlt))
 rw [List.drop_eq_getElem_cons hlt, List.map_cons] at hrs hpre
 rw [Mg.risesB, Bool.and_eq_true, decide_eq_true_eq] at hrs
 rw [encN] at hpre
 obtain ⟨⟨h1, h2⟩, hrs⟩ := hrs
 have hn : lx[i].h.n = lx[i].p.places.length := RowO.len hpi
 have hle := congrArg List.length hpre
 simp only [List.flatMap_cons, List.length_append] at hle
 have e1 : lx[i].p.doc - d = (((lx[i].p.doc - d).toNat : Nat) : Int) := by omega
 obtain ⟨pa, pc, hpe, hpr⟩ := hpi
 have hsl : lx[i].h = ⟨pa, lx[i].p.places.length, pc⟩ := by
  have e := hpe
  unfold Sl.v at e
  injection e with e1 e2 e3
  cases hh : lx[i].h with
  | mk x1 x2 x3 => rw [hh] at e1 e2 e3; dsimp only at e1 e2 e3; rw [e1, e2, e3]
 have hs1 : (str pre).size = pre.length := rfl
 obtain ⟨X, hX⟩ : ∃ X, str pre = X := ⟨_, rfl⟩
 rw [hX] at hs1 ⊢
 have hax : At wr ga (oa + i * 2) (prC lx[i]) := by
  have := zgA lenPr (zam hata hK) i
  rw [List.drop_eq_getElem_cons hlt] at this
  exact zbR this
 have hk0 := (Kp.refl wr n_).drew
 refine KGO ?_
 refine Draw.held (fun u => Kp wr u n_) (fun _ => true) (by decide +kernel) hk0 ?_
 refine KGO ?_
 rw [e1]
 refine CallS.of (Tryz.call86 _ _) (zey (w := wr.drew) (lx[i].p.doc - d).toNat (by omega)) ?_
 rintro e w3 ⟨rfl, k3⟩
 have J3 := hk0.trans0 k3
 refine RT ?_
 refine ⟨J3, ?_⟩
 have hs2 : (str (numE (lx[i].p.doc - d).toNat)).size = (numE (lx[i].p.doc - d).toNat).length := rfl
 have hs3 : (str (numE lx[i].p.places.length)).size = (numE lx[i].p.places.length).length := rfl
 have hXA : X ++ str (numE (lx[i].p.doc - d).toNat) = str (pre ++ numE (lx[i].p.doc - d).toNat) := by rw [← hX]; exact (zdU _ _).symm
 have hs4 : (str (pre ++ numE (lx[i].p.doc - d).toNat)).size = (pre ++ numE (lx[i].p.doc - d).toNat).length := rfl
 rw [List.length_append] at hs4
 refine KGO ?_
 refine RunV.cat (by omega) ?_
 rw [hXA]
 have hXB : str (pre ++ numE (lx[i].p.doc - d).toNat) ++ str (numE lx[i].p.places.length) = str (pre ++ numE (lx[i].p.doc - d).toNat ++ numE lx[i].p.places.length) := (zdU _ _).symm
 obtain ⟨Y, hY⟩ : ∃ Y, str (pre ++ numE (lx[i].p.doc - d).toNat) = Y := ⟨_, rfl⟩
 rw [hY] at hs4 hXB ⊢
 refine KGO ?_
 rw [hn]
 refine CallS.of (Tryz.call86 _ _) (zey (w := w3) lx[i].p.places.length (by omega)) ?_
 rintro e w4 ⟨rfl, k4⟩
 have J4 := J3.trans0 k4
 refine RT ?_
 refine ⟨J4, ?_⟩
 refine KGO ?_
 refine RunV.cat (by omega) ?_
 rw [hXB]
 refine KGO ?_
 rw [List.flatMap_cons, List.flatMap_cons, ← List.append_assoc, ← List.append_assoc] at hpre
 clear hle hs1 hs2 hs3 hs4 hXA hXB
 generalize pre ++ numE (lx[i].p.doc - d).toNat ++ numE lx[i].p.places.length = pre1 at *
 have J4w := hK.trans0 J4
 clear J3 J4 k3 k4 hax hk0
 generalize hPL : lx[i].p.places = PL at *
 refine Loop.intro (ι := Nat × Int × List UInt8) (fun k => [(0, .slice (some ⟨ga, oa, none⟩) lx.length ca), (4, .string (str k.2.2)), (5, .int .i64 lx[i].p.doc), (6, .int .i64 (i : Nat)), (7, .int .i64 k.2.1), (8, .int .i64 (k.1 : Nat))])
  (fun k wq => Kp w wq n_ ∧ k.1 ≤ PL.length ∧ 0 ≤ k.2.1 ∧ k.2.1 ≤ 1099511627776 ∧ Mg.risesB k.2.1 (PL.drop k.1) = true ∧ k.2.2 ++ (difs k.2.1 (PL.drop k.1) ++ encN lx[i].p.doc ((lx.drop (i + 1)).map (·.p))).flatMap numE = tot) (fun k => PL.length - k.1) (0, 0, pre1)
  ⟨rfl, rfl, rfl, rfl, rfl, rfl, trivial⟩ ⟨J4w, Nat.zero_le _, Int.le_refl 0, (by decide : (0:Int) ≤ 1099511627776), hri.2, hpre⟩ ?_
 clear hpre J4w
 rintro ⟨k, pt, pre2⟩ gg2 wq ⟨hK2, hk, hp0, hp1, hpr2, hpre⟩
 dsimp only at hk hp0 hp1 hpr2 hpre ⊢
 have hax : At wq ga (oa + i * 2) (prC lx[i]) := by
  have := zgA lenPr (zam hata hK2) i
  rw [List.drop_eq_getElem_cons hlt] at this
  exact zbR this
 refine GW ?_
 by_cases hlk : k < PL.length
 rotate_left
 ·rw [List.drop_eq_nil_of_le (by omega)] at hpre
  refine KGO ?_
  exact ⟨(i + 1, lx[i].p.doc, pre2), ⟨rfl, rfl, rfl, v_int (by simp), trivial⟩, ⟨hK2, by omega, by dsimp only; omega, by dsimp only; omega, zbi hrs (by dsimp only; omega), by simpa [difs] using hpre⟩, by dsimp only; omega⟩
 obtain ⟨gp, op, rfl, hgp, hatp⟩ := hpr (by omega)
 have cp := zaX (zam hatp hK2) hlk
 rw [List.drop_eq_getElem_cons hlk] at hpre hpr2
 rw [Mg.risesB, Bool.and_eq_true, decide_eq_true_eq] at hpr2
 rw [difs, List.cons_append, List.flatMap_cons, ← List.append_assoc] at hpre
 obtain ⟨⟨h3, h4⟩, hpr3⟩ := hpr2
 have hle := congrArg List.length hpre
 simp only [List.length_append] at hle
 have e2 : PL[k] - pt = (((PL[k] - pt).toNat : Nat) : Int) := by omega
 have hs1 : (str pre2).size = pre2.length := rfl
 have hs2 : (str (numE (PL[k] - pt).toNat)).size = (numE (PL[k] - pt).toNat).length := rfl
 have hXA : str pre2 ++ str (numE (PL[k] - pt).toNat) = str (pre2 ++ numE (PL[k] - pt).toNat) := (zdU _ _).symm
 obtain ⟨X, hX⟩ : ∃ X, str pre2 = X := ⟨_, rfl⟩
 rw [hX] at hs1 hXA ⊢
 have hk0 := (Kp.refl wq n_).drew
 refine KGO ?_
 rw [hsl]
 dsimp only
 refine KGO ?_
 rw [e2]
 refine CallS.of (Tryz.call86 _ _) (zey (w := wq) (PL[k] - pt).toNat (by omega)) ?_
 rintro e w3 ⟨rfl, k3⟩
 have J3 := hK2.trans0 k3
 refine RT ?_
 refine RunV.cat (by omega) ?_
 rw [hXA]
 refine KGO ?_
 rw [hsl]
 dsimp only
 refine KGO ?_
 exact ⟨(k + 1, PL[k], pre2 ++ numE (PL[k] - pt).toNat), ⟨rfl, rfl, rfl, rfl, rfl, v_int (by simp), trivial⟩, ⟨J3, by omega, by dsimp only; omega, by dsimp only; omega, zbi hpr3 (by dsimp only; omega), hpre⟩, by dsimp only; omega⟩
end
end Go.Proofs.YtcdpocffoapbeaaGreatDoor
