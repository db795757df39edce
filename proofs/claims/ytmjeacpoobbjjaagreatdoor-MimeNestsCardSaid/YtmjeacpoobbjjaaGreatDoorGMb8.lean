/- Helper lemmas that the proved statement rests on; no conditions of their own. -/
import Derived.Test.YtmjeacpoobbjjaaGreatDoorGMb6
set_option linter.unusedVariables false
set_option maxHeartbeats 16000000
set_option maxRecDepth 100000
namespace Go.Proofs.YtmjeacpoobbjjaaGreatDoor
open Go.Shelf Go.RowKit Go.Pw Go.Vc Go.Cs Go.Lib Go.Tk Go.Hd Go.Ty Go.Me
def fitsM (n : Nat) (p : Prt) : Bool := decide (0 ≤ p.from ∧ p.from ≤ p.body ∧ p.body ≤ p.to ∧ p.to ≤ n)
def rawM (s : List UInt8) (p : Prt) : List UInt8 := if fitsM s.length p = true then (s.take p.to.toNat).drop p.from.toNat else []
def bodyM (s : List UInt8) (p : Prt) : List UInt8 := if fitsM s.length p = true then (s.take p.to.toNat).drop p.body.toNat else []
def headM (s : List UInt8) (p : Prt) : List Fld := if fitsM s.length p = true then (parH ((s.take p.to.toNat).drop p.from.toNat)).1 else []
section
variable {w : World}
theorem zgr (s : List UInt8) (p : Prt) (sl : Sl) (hs : s.length ≤ 1000000000) (w : World) : Calls Tryz.prog 36 #[.string (str s), .agg (ptC p sl.v).toArray] w fun e w' => e = .returned (.bool (fitsM s.length p)) ∧ Kp w w' n_ := by
 have hz := zae s
 obtain ⟨an, nn, cn⟩ := sl
 unfold fitsM
 refine zaa (args := [.string (str s), .agg (ptC p (.slice an nn cn)).toArray]) Tryz.func36 rfl NL ?_; refine GW ?_
 obtain ⟨a_b3, v_b3, k_w1, z_w1, r_w1⟩ := new5 w 26 (ptC p (.slice an nn cn))
 generalize w.alloc (.cells (List.toArray (ptC p (.slice an nn cn))) 26) = w1 at *
 generalize hs_b3 : w.heap.size = b3 at *
 have a3 : At w1 b3 0 (ptC p (.slice an nn cn)) := a_b3
 have q3 := Kp.refl w1 n_
 by_cases h1 : 0 ≤ p.from
 ·by_cases h2 : p.from ≤ p.body
  ·by_cases h3 : p.body ≤ p.to
   ·refine KGO ?_
    refine ⟨?_, k_w1⟩
    congr 2
    rw [Bool.eq_iff_iff, decide_eq_true_eq, decide_eq_true_eq, hz]
    exact ⟨fun h => ⟨h1, h2, h3, h⟩, fun h => h.2.2.2⟩
   ·rw [decide_eq_false (fun e => h3 e.2.2.1)]
    refine KGO ?_
    exact ⟨rfl, k_w1⟩
  ·rw [decide_eq_false (fun e => h2 e.2.1)]
   refine KGO ?_
   exact ⟨rfl, k_w1⟩
 ·rw [decide_eq_false (fun e => h1 e.1)]
  refine KGO ?_
  exact ⟨rfl, k_w1⟩
theorem zik (s : List UInt8) (p : Prt) (sl : Sl) (hs : s.length ≤ 1000000000) (w : World) : Calls Tryz.prog 16 #[.string (str s), .agg (ptC p sl.v).toArray] w fun e w' => e = .returned (.string (str (rawM s p))) ∧ Kp w w' n_ := by
 have hz := zae s
 obtain ⟨an, nn, cn⟩ := sl
 unfold rawM
 refine zaa (args := [.string (str s), .agg (ptC p (.slice an nn cn)).toArray]) Tryz.func16 rfl NL ?_; refine GW ?_
 obtain ⟨a_b3, v_b3, k_w1, z_w1, r_w1⟩ := new5 w 26 (ptC p (.slice an nn cn))
 generalize w.alloc (.cells (List.toArray (ptC p (.slice an nn cn))) 26) = w1 at *
 generalize hs_b3 : w.heap.size = b3 at *
 have a3 : At w1 b3 0 (ptC p (.slice an nn cn)) := a_b3
 have q3 := Kp.refl w1 n_
 refine KGO ?_
 refine CallS.of (Tryz.call36 _ _) (zgr s p ⟨an, nn, cn⟩ hs w1) ?_
 rintro e w2 ⟨rfl, k2⟩
 have K2 := k_w1.trans0 k2
 refine RT ?_
 cases hf : fitsM s.length p
 ·rw [if_neg (by simp)]
  refine KGO ?_
  exact ⟨rfl, K2⟩
 ·rw [if_pos rfl]
  have hfb : 0 ≤ p.from ∧ p.from ≤ p.body ∧ p.body ≤ p.to ∧ p.to ≤ s.length := of_decide_eq_true hf
  obtain ⟨x, hx⟩ : ∃ x : Nat, p.from = (x : Int) := ⟨(p.from).toNat, by omega⟩
  obtain ⟨t, ht⟩ : ∃ t : Nat, p.to = (t : Int) := ⟨p.to.toNat, by omega⟩
  rw [hx, ht, Int.toNat_natCast, Int.toNat_natCast]
  have a4 := (v_b3.keep0 k2).at
  have q4 := Kp.refl w2 n_
  clear a3 q3
  refine KGO ?_
  rw [hx, ht]
  refine Cut.both (l := x) (h := t) (by omega) (by omega) ?_
  refine GW ?_
  refine KGO ?_
  rw [zbc]
  exact ⟨rfl, K2⟩
theorem zgo (s : List UInt8) (p : Prt) (sl : Sl) (hs : s.length ≤ 1000000000) (w : World) : Calls Tryz.prog 18 #[.string (str s), .agg (ptC p sl.v).toArray] w fun e w' => e = .returned (.string (str (bodyM s p))) ∧ Kp w w' n_ := by
 have hz := zae s
 obtain ⟨an, nn, cn⟩ := sl
 unfold bodyM
 refine zaa (args := [.string (str s), .agg (ptC p (.slice an nn cn)).toArray]) Tryz.func18 rfl NL ?_; refine GW ?_
 obtain ⟨a_b3, v_b3, k_w1, z_w1, r_w1⟩ := new5 w 26 (ptC p (.slice an nn cn))
 generalize w.alloc (.cells (List.toArray (ptC p (.slice an nn cn))) 26) = w1 at *
 generalize hs_b3 : w.heap.size = b3 at *
 have a3 : At w1 b3 0 (ptC p (.slice an nn cn)) := a_b3
 have q3 := Kp.refl w1 n_
 refine KGO ?_
 refine CallS.of (Tryz.call36 _ _) (zgr s p ⟨an, nn, cn⟩ hs w1) ?_
 rintro e w2 ⟨rfl, k2⟩
 have K2 := k_w1.trans0 k2
 refine RT ?_
 cases hf : fitsM s.length p
 ·rw [if_neg (by simp)]
  refine KGO ?_
  exact ⟨rfl, K2⟩
 ·rw [if_pos rfl]
  have hfb : 0 ≤ p.from ∧ p.from ≤ p.body ∧ p.body ≤ p.to ∧ p.to ≤ s.length := of_decide_eq_true hf
  obtain ⟨x, hx⟩ : ∃ x : Nat, p.body = (x : Int) := ⟨(p.body).toNat, by omega⟩
  obtain ⟨t, ht⟩ : ∃ t : Nat, p.to = (t : Int) := ⟨p.to.toNat, by omega⟩
  rw [hx, ht, Int.toNat_natCast, Int.toNat_natCast]
  have a4 := (v_b3.keep0 k2).at
  have q4 := Kp.refl w2 n_
  clear a3 q3
  refine KGO ?_
  rw [hx, ht]
  refine Cut.both (l := x) (h := t) (by omega) (by omega) ?_
  refine GW ?_
  refine KGO ?_
  rw [zbc]
  exact ⟨rfl, K2⟩
theorem zkV (s : List UInt8) (p : Prt) (sl : Sl) (hm : MaxL w) (hs : s.length ≤ 100000000) : Calls Tryz.prog 14 #[.string (str s), .agg (ptC p sl.v).toArray] w fun e w' => ∃ v, e = .returned v ∧ OwnFd w' w.heap.size v (headM s p) ∧ Kp w w' n_ := by
 have hz := zae s
 obtain ⟨an, nn, cn⟩ := sl
 unfold headM
 refine zaa (args := [.string (str s), .agg (ptC p (.slice an nn cn)).toArray]) Tryz.func14 rfl NL ?_; refine GW ?_
 obtain ⟨a_b3, v_b3, k_w1, z_w1, r_w1⟩ := new5 w 26 (ptC p (.slice an nn cn))
 generalize w.alloc (.cells (List.toArray (ptC p (.slice an nn cn))) 26) = w1 at *
 generalize hs_b3 : w.heap.size = b3 at *
 have a3 : At w1 b3 0 (ptC p (.slice an nn cn)) := a_b3
 have q3 := Kp.refl w1 n_
 refine KGO ?_
 refine CallS.of (Tryz.call36 _ _) (zgr s p ⟨an, nn, cn⟩ (by omega) w1) ?_
 rintro e w2 ⟨rfl, k2⟩
 have K2 := k_w1.trans0 k2
 refine RT ?_
 cases hf : fitsM s.length p
 ·rw [if_neg (by simp)]
  refine KGO ?_
  exact ⟨_, rfl, World.ownsRow_nil _ _ _ _, K2⟩
 ·rw [if_pos rfl]
  have hfb : 0 ≤ p.from ∧ p.from ≤ p.body ∧ p.body ≤ p.to ∧ p.to ≤ s.length := of_decide_eq_true hf
  obtain ⟨x, hx⟩ : ∃ x : Nat, p.from = (x : Int) := ⟨(p.from).toNat, by omega⟩
  obtain ⟨t, ht⟩ : ∃ t : Nat, p.to = (t : Int) := ⟨p.to.toNat, by omega⟩
  rw [hx, ht, Int.toNat_natCast, Int.toNat_natCast]
  have a4 := (v_b3.keep0 k2).at
  have q4 := Kp.refl w2 n_
  clear a3 q3
  refine KGO ?_
  rw [hx, ht]
  refine Cut.both (l := x) (h := t) (by omega) (by omega) ?_
  refine GW ?_
  refine KGO ?_
  rw [zbc]
  have hul : ((s.take t).drop x).length ≤ s.length := by rw [List.length_drop, List.length_take]; omega
  refine CallS.of (Tryz.call28 _ _) (zhe (w := w2) ((s.take t).drop x) (hm.keep K2) (by omega)) ?_
  rintro e w3 ⟨v, rfl, ov, k3⟩
  obtain ⟨av, cv, rfl⟩ := zad ov
  refine RT ?_
  refine KGO ?_
  exact ⟨_, rfl, zan ov (by have := K2.size; omega), K2.trans0 k3⟩
end
end Go.Proofs.YtmjeacpoobbjjaaGreatDoor
namespace Go.Me
open Go Go.Cs Go.Tk Go.Hd Go.Ty
def lowB (b : List UInt8) : Prop := ∀ c ∈ b, 97 ≤ c.toNat ∧ c.toNat ≤ 122
theorem lowB.no {b : List UInt8} (h : lowB b) (c : UInt8) (hc : c.toNat < 97) : c ∉ b := fun e => by have := h c e; omega
def kidsM (l : List Prt) (i : Int) : List Nat := (List.range l.length).filter fun k => decide ((l[k]?.map (·.up)) = some i)
end Go.Me
namespace Go.Proofs.YtmjeacpoobbjjaaGreatDoor
open Go.Shelf Go.RowKit Go.Pw Go.Vc Go.Cs Go.Lib Go.Tk Go.Hd Go.Ty Go.Me
def kidsI (l : List PI) (i : Int) : List Int := (kidsM (l.map (·.1)) i).map fun k : Nat => (k : Int)
theorem zhP (l : List Prt) (i : Int) (n : Nat) (h : n < l.length) : ((List.range (n + 1)).filter fun k => decide ((l[k]?.map (·.up)) = some i)) = ((List.range n).filter fun k => decide ((l[k]?.map (·.up)) = some i)) ++ (if l[n].up = i then [n] else []) := by
 rw [List.range_succ, List.filter_append]
 congr 1
 rw [List.filter_cons, List.getElem?_eq_getElem h]
 by_cases hp : l[n].up = i
 ·simp [hp]
 ·simp [hp]
theorem bs1Num (x : Int) (w : World) : (Instr.buildSlice 36 1 [(0, .int .i64 x)].toArray).run Tryz.prog w = .ok (.slice (some ⟨w.heap.size, 0, none⟩) 1 1) (w.alloc (.cells (List.toArray [.int .i64 x]) 3)) := by
 simp [Instr.buildSlice, go_sem, Tryz.runUnderlying36]
section
variable {w : World}
theorem zin {v : Value} (l : List PI) (i : Int) (hr : RowO w v ptE l) (hl : l.length ≤ 1000000000) : Calls Tryz.prog 21 #[v, .int .i64 i] w fun e w' => ∃ v', e = .returned v' ∧ OwnI w' w.heap.size v' (kidsI l i) ∧ Kp w w' n_ := by
 obtain ⟨a, cap, rfl, hr⟩ := hr
 have hll : (l.map (·.1)).length = l.length := List.length_map _
 refine zaa (args := [.slice a l.length cap, .int .i64 i]) Tryz.func21 rfl NL ?_; refine GW ?_
 refine Loop.intro (ι := Nat × Value) (fun j => [(1, .int .i64 i), (5, j.2), (8, .slice a l.length cap), (9, .int .i64 (l.length : Nat)), (10, .int .i64 (j.1 : Nat))])
  (fun j wr => Kp w wr n_ ∧ OwnI wr w.heap.size j.2 (((List.range j.1).filter fun k => decide ((((l.map (·.1))[k]?).map (·.up)) = some i)).map fun k : Nat => (k : Int)) ∧ j.1 ≤ l.length) (fun j => l.length - j.1) (0, .slice none 0 0) ⟨rfl, rfl, rfl, rfl, rfl, trivial⟩
  ⟨Kp.refl _ _, World.ownsRow_nil _ _ _ _, Nat.zero_le _⟩ ?_
 rintro ⟨j, vo⟩ g wr ⟨hK, ho, hj⟩
 dsimp only at ho hj ⊢
 obtain ⟨ao, co, rfl⟩ := zad ho
 refine GW ?_
 by_cases hlt : j < l.length
 ·obtain ⟨gb, o, rfl, hgb, hat⟩ := hr (by omega)
  have hat := zar hat hK
  have q0 := Kp.refl wr n_
  have hsn := zhP (l.map (·.1)) i j (by omega)
  have hup : ((l.map (·.1))[j]'(by omega)) = l[j].1 := List.getElem_map ..
  rw [hup] at hsn
  have hfl : (((List.range j).filter fun k => decide ((((l.map (·.1))[k]?).map (·.up)) = some i)).map fun k : Nat => (k : Int)).length ≤ j := by
   rw [List.length_map]
   exact Nat.le_trans (List.length_filter_le _ _) (by rw [List.length_range]; exact Nat.le_refl _)
  refine KGO ?_
  obtain ⟨X, hX⟩ : ∃ X : PI, X = l[j] := ⟨_, rfl⟩
  rw [← hX] at hsn ⊢
  obtain ⟨a_b1, v_b1, k_w1, z_w1, r_w1⟩ := new5 wr 26 ([.int .i64 0, .int .i64 0, .int .i64 0, .int .i64 0, .int .i64 0, .string ⟨#[]⟩, .string ⟨#[]⟩, .slice none 0 0, .string ⟨#[]⟩])
  generalize wr.alloc (.cells (List.toArray ([.int .i64 0, .int .i64 0, .int .i64 0, .int .i64 0, .int .i64 0, .string ⟨#[]⟩, .string ⟨#[]⟩, .slice none 0 0, .string ⟨#[]⟩])) 26) = w1 at *
  generalize hs_b1 : wr.heap.size = b1 at *
  refine KGO ?_
  refine SVK (ptE X) v_b1 fun w3 v3 k3 => ?_
  have kr3 := zab k_w1 k3 (by omega)
  have K3 := hK.trans0 kr3
  have o3 := zai ho kr3
  have a3 : At w3 b1 0 (ptC X.1 X.2.v) := v3.at
  have r3 := Kp.refl w3 n_
  by_cases hi : X.1.up = i
  ·rw [if_pos hi] at hsn
   refine KGO ?_
   refine RunV.of (bs1Num (j : Nat) _) ?_
   obtain ⟨a_b4, v_b4, k_w4, z_w4, r_w4⟩ := new5 w3 3 ([.int .i64 (j : Nat)])
   generalize w3.alloc (.cells (List.toArray ([.int .i64 (j : Nat)])) 3) = w4 at *
   generalize hs_b4 : w3.heap.size = b4 at *
   refine KGO ?_
   refine tyI.app1 ((j : Nat) : Int) (zai o3 k_w4) (by have := K3.size; omega) a_b4 (by omega) (by omega) fun v5 w5 o5 k5 => ?_
   have K5 : Kp w w5 n_ := (K3.trans0 k_w4).trans k5 fun q hq e => by
    obtain ⟨_, _, _, h3, _⟩ := zah o3 e
    omega
   obtain ⟨a5, c5, rfl⟩ := zad o5
   refine KGO ?_
   exact ⟨(j + 1, _), ⟨rfl, rfl, rfl, rfl, v_int (by simp), trivial⟩, ⟨K5, by dsimp only; rw [hsn, List.map_append]; exact o5, hlt⟩, by dsimp only; omega⟩
  ·rw [if_neg hi, List.append_nil] at hsn
   refine KGO ?_
   exact ⟨(j + 1, _), ⟨rfl, rfl, rfl, rfl, v_int (by simp), trivial⟩, ⟨K3, by dsimp only; rw [hsn]; exact o3, hlt⟩, by dsimp only; omega⟩
 ·obtain rfl : j = l.length := by omega
  refine KGO ?_
  refine ⟨_, rfl, ?_, hK⟩
  unfold kidsI kidsM
  rw [hll]
  exact ho
def leafM (l : List PI) (i : Int) : Bool := decide (0 ≤ i ∧ i < l.length) && decide ((kidsI l i).length = 0)
theorem zgC {v : Value} (l : List PI) (i : Int) (hr : RowO w v ptE l) (hl : l.length ≤ 1000000000) : Calls Tryz.prog 23 #[v, .int .i64 i] w fun e w' => e = .returned (.bool (leafM l i)) ∧ Kp w w' n_ := by
 have hr0 := hr
 obtain ⟨a, cap, rfl, hr⟩ := hr
 unfold leafM
 refine zaa (args := [.slice a l.length cap, .int .i64 i]) Tryz.func23 rfl NL ?_; refine GW ?_
 by_cases h1 : 0 ≤ i
 ·by_cases h2 : i < l.length
  ·have e1 : decide (0 ≤ i ∧ i < (l.length : Int)) = true := decide_eq_true ⟨h1, h2⟩
   rw [e1, Bool.true_and]
   refine KGO ?_
   refine CallS.of (Tryz.call21 _ _) (zin (w := w) l i hr0 hl) ?_
   rintro e w1 ⟨v1, rfl, o1, k1⟩
   obtain ⟨a1, c1, rfl⟩ := zad o1
   refine RT ?_
   refine KGO ?_
   refine ⟨?_, k1⟩
   congr 2
   rw [Bool.eq_iff_iff, beq_iff_eq, decide_eq_true_eq]
   omega
  ·have e1 : decide (0 ≤ i ∧ i < (l.length : Int)) = false := decide_eq_false (fun e => h2 e.2)
   rw [e1, Bool.false_and]
   refine KGO ?_
   exact ⟨rfl, Kp.refl _ _⟩
 ·have e1 : decide (0 ≤ i ∧ i < (l.length : Int)) = false := decide_eq_false (fun e => h1 e.1)
  rw [e1, Bool.false_and]
  refine KGO ?_
  exact ⟨rfl, Kp.refl _ _⟩
end
section
variable {w : World}
theorem zfT {va vb : Value} (la lb : List Int) (ha : RowI w va la) (hb : RowI w vb lb) (hl : la.length ≤ 1000000) (hl2 : lb.length ≤ 1000000) :
  Calls Tryz.prog 20 #[va, vb] w fun e w' => e = .returned (.bool (decide (la = lb))) ∧ Kp w w' n_ := by
 obtain ⟨a, ca, rfl, hra⟩ := ha
 obtain ⟨b, cb, rfl, hrb⟩ := hb
 refine zaa (args := [.slice a la.length ca, .slice b lb.length cb]) Tryz.func20 rfl NL ?_; refine GW ?_
 by_cases hn : la.length = lb.length
 rotate_left
 ·refine KGO ?_
  refine ⟨zeW ?_, Kp.refl _ _⟩
  exact (decide_eq_false fun h => hn (by rw [h])).symm
 refine KGO ?_
 refine Loop.intro (ι := Nat) (fun i => [(0, .slice a la.length ca), (1, .slice b lb.length cb), (5, .int .i64 (i : Nat))])
  (fun i wr => Kp w wr n_ ∧ i ≤ la.length ∧ la.take i = lb.take i) (fun i => la.length - i) 0 ⟨rfl, rfl, rfl, trivial⟩ ⟨Kp.refl _ _, Nat.zero_le _, rfl⟩ ?_
 rintro i gg wr ⟨hK, hi, ht⟩
 refine GW ?_
 by_cases hlt : i < la.length
 ·have hlt2 : i < lb.length := by omega
  obtain ⟨ga, oa, rfl, hga, hata⟩ := hra (by omega)
  obtain ⟨gb, ob, rfl, hgb, hatb⟩ := hrb (by omega)
  have ca := zkH hata hlt
  have cb := zkH hatb hlt2
  by_cases he : la[i] = lb[i]
  ·rw [he] at ca
   refine KGO ?_
   exact ⟨i + 1, ⟨rfl, rfl, v_int (by simp), trivial⟩, ⟨hK.drew, by omega, by rw [List.take_succ_eq_append_getElem hlt, List.take_succ_eq_append_getElem hlt2, ht, he]⟩, by dsimp only; omega⟩
  ·refine KGO ?_
   refine ⟨zeW ?_, hK.drew⟩
   exact (decide_eq_false fun h => he (by subst h; rfl)).symm
 ·refine KGO ?_
  refine ⟨zeW ?_, hK⟩
  rw [List.take_of_length_le (by omega), List.take_of_length_le (by omega)] at ht
  exact (decide_eq_true ht).symm
end
def smA : List UInt8 := [67, 111, 110, 116, 101, 110, 116, 45, 84, 121, 112, 101, 58, 32, 109, 117, 108, 116, 105, 112, 97, 114, 116, 47, 109, 105, 120, 101, 100, 59, 32, 98, 111, 117, 110, 100, 97, 114, 121, 61, 98, 10, 10, 112, 114, 101, 10, 45, 45, 98, 10, 67, 111, 110, 116, 101, 110, 116, 45, 84, 121, 112, 101, 58, 32, 116, 101, 120, 116, 47, 120, 10, 10, 111, 110, 101, 10, 45, 45, 98, 32, 13, 10, 10, 116, 119, 111, 13, 10, 45, 45, 98, 45, 45, 10, 45, 45, 98, 10, 10, 112, 111, 115, 116]
def smB : List UInt8 := [67, 111, 110, 116, 101, 110, 116, 45, 84, 121, 112, 101, 58, 32, 109, 117, 108, 116, 105, 112, 97, 114, 116, 47, 100, 105, 103, 101, 115, 116, 59, 32, 98, 111, 117, 110, 100, 97, 114, 121, 61, 98, 10, 67, 111, 110, 116, 101, 110, 116, 45, 84, 114, 97, 110, 115, 102, 101, 114, 45, 69, 110, 99, 111, 100, 105, 110, 103, 58, 32, 55, 66, 73, 84, 32, 40, 120, 41, 10, 10, 45, 45, 98, 10, 10, 83, 117, 98, 106, 101, 99, 116, 58, 32, 97, 10, 10, 99]
def smP : List Prt := [⟨-1, 0, 0, 43, 104, ⟨sMultipart, [109, 105, 120, 101, 100], [(sBoundary, [98])]⟩, []⟩, ⟨0, 1, 51, 73, 76, ⟨tText, [120], []⟩, []⟩, ⟨0, 1, 83, 84, 87, ⟨tText, tPlain, []⟩, []⟩]
def smQ : List Prt := [⟨-1, 0, 0, 80, 98, ⟨sMultipart, sDigest, [(sBoundary, [98])]⟩, [55, 98, 105, 116]⟩, ⟨0, 1, 84, 85, 98, ⟨sMessage, sRfc, []⟩, []⟩, ⟨1, 2, 85, 97, 98, ⟨tText, tPlain, []⟩, []⟩]
theorem zll : parseM smA = smP := by decide +kernel
theorem zkO : parseM smB = smQ := by decide +kernel
theorem map3 {l : List PI} {a b c : Prt} (h : l.map (·.1) = [a, b, c]) : ∃ x y z : Sl, l = [(a, x), (b, y), (c, z)] := by
 match l, h with
 | [(a', x), (b', y), (c', z)], h =>
  simp only [List.map_cons, List.map_nil, List.cons.injEq, and_true] at h
  obtain ⟨rfl, rfl, rfl⟩ := h
  exact ⟨x, y, z, rfl⟩
theorem bs2I (x y : Int) (w : World) : (Instr.buildSlice 36 2 [(0, .int .i64 x), (1, .int .i64 y)].toArray).run Tryz.prog w = .ok (.slice (some ⟨w.heap.size, 0, none⟩) 2 2) (w.alloc (.cells (List.toArray [.int .i64 x, .int .i64 y]) 3)) := by
 simp [Instr.buildSlice, Instr.fill, go_sem, Tryz.runUnderlying36]
theorem zii (a b : Int) (w : World) : (Instr.build 26 [(2, .int .i64 a), (4, .int .i64 b)].toArray).run Tryz.prog w = .ok (.agg (ptC ⟨0, 0, a, 0, b, ⟨[], [], []⟩, []⟩ (.slice none 0 0)).toArray) w := by
 simp [Instr.build, go_sem, Tryz.runUnderlying26, ptC]
 rfl
section
variable {w : World}
theorem zhR (hT : Tabs w) (hm : MaxL w) (hE : ErrL w) : Calls Tryz.prog 9 #[] w fun e w' => e = .returned (.bool true) ∧ Kp w w' n_ := by
 refine zaa (args := []) Tryz.func9 rfl NL ?_; refine GW ?_
 refine CallS.of (Tryz.call11 _ _) (zeO (w := w) smA hT hm hE (by decide)) ?_
 rintro e w1 ⟨v, l, rfl, ps, hl, k1⟩
 rw [zll] at hl
 obtain ⟨x0, x1, x2, rfl⟩ := map3 hl
 obtain ⟨av, cv, rfl⟩ := zad ps.row
 obtain ⟨g, rfl, hB, hg, hat⟩ := zfA ps.row (by show 0 < 3; decide)
 have hrow := zap ps.row
 have hln : [((⟨-1, 0, 0, 43, 104, ⟨sMultipart, [109, 105, 120, 101, 100], [(sBoundary, [98])]⟩, []⟩ : Prt), x0), (⟨0, 1, 51, 73, 76, ⟨tText, [120], []⟩, []⟩, x1), (⟨0, 1, 83, 84, 87, ⟨tText, tPlain, []⟩, []⟩, x2)].length = 3 := rfl
 obtain ⟨LL, hLL⟩ : ∃ LL, LL = [((⟨-1, 0, 0, 43, 104, ⟨sMultipart, [109, 105, 120, 101, 100], [(sBoundary, [98])]⟩, []⟩ : Prt), x0), (⟨0, 1, 51, 73, 76, ⟨tText, [120], []⟩, []⟩, x1), (⟨0, 1, 83, 84, 87, ⟨tText, tPlain, []⟩, []⟩, x2)] := ⟨_, rfl⟩
 have hk0 : kidsI LL 0 = [1, 2] := by rw [hLL]; show (kidsM smP 0).map _ = _; decide +kernel
 have hf0 : leafM LL 0 = false := by
  unfold leafM; rw [hk0, hLL]; rfl
 have hf2 : leafM LL 2 = true := by
  have h2 : kidsI LL 2 = [] := by rw [hLL]; show (kidsM smP 2).map _ = _; decide +kernel
  unfold leafM; rw [h2, hLL]; rfl
 have hf3 : leafM LL 3 = false := by
  unfold leafM; rw [hLL]; rfl
 have hcells : ∃ z0 z1 z2 : Value, LL.flatMap ptE = [.int .i64 (-1), .int .i64 0, .int .i64 0, .int .i64 43, .int .i64 104, .string (str sMultipart), .string (str [109, 105, 120, 101, 100]), z0, .string (str []), .int .i64 0, .int .i64 1, .int .i64 51, .int .i64 73, .int .i64 76, .string (str tText), .string (str [120]), z1, .string (str []), .int .i64 0, .int .i64 1, .int .i64 83, .int .i64 84, .int .i64 87, .string (str tText), .string (str tPlain), z2, .string (str [])] := ⟨x0.v, x1.v, x2.v, by rw [hLL]; rfl⟩
 have hA1 : ∀ {u : World}, At u g 0 (LL.flatMap ptE) → At u g (0 + 1 * 9) (ptC ⟨0, 1, 51, 73, 76, ⟨tText, [120], []⟩, []⟩ x1.v) := fun {u} h => at_hd (c := ptE) (x := (⟨0, 1, 51, 73, 76, ⟨tText, [120], []⟩, []⟩, x1)) (by rw [hLL] at h; exact zcM lenPt h 1)
 have hA2 : ∀ {u : World}, At u g 0 (LL.flatMap ptE) → At u g (0 + 2 * 9) (ptC ⟨0, 1, 83, 84, 87, ⟨tText, tPlain, []⟩, []⟩ x2.v) := fun {u} h => at_hd (c := ptE) (x := (⟨0, 1, 83, 84, 87, ⟨tText, tPlain, []⟩, []⟩, x2)) (by rw [hLL] at h; exact zcM lenPt h 2)
 rw [← hLL] at hat hrow hln ⊢
 obtain ⟨z0, z1, z2, hcells⟩ := hcells
 have hl3 : LL.length ≤ 1000000000 := by omega
 refine RT ?_
 refine KGO ?_
 refine CallS.of (Tryz.call21 _ _) (zin (w := w1) LL 0 hrow hl3) ?_
 rintro e w2 ⟨v2, rfl, o2, k2⟩
 rw [hk0] at o2
 obtain ⟨a2, c2, rfl⟩ := zad o2
 have hat2 := zar hat k2
 have hc2 : At w2 g 0 _ := hcells ▸ hat2
 refine RT ?_
 refine KGO ?_
 refine Load.one (by rfl) (hc2 10 _ rfl) ?_
 refine KGO ?_
 refine Load.one (by rfl) (hc2 15 _ rfl) ?_
 refine KGO ?_
 refine Load.agg (ptC ⟨0, 1, 51, 73, 76, ⟨tText, [120], []⟩, []⟩ x1.v) (by rfl) (by rfl) (by rfl) (hA1 hat2) ?_
 refine KGO ?_
 refine CallS.of (Tryz.call18 _ _) (zgo smA ⟨0, 1, 51, 73, 76, ⟨tText, [120], []⟩, []⟩ x1 (by decide) w2) ?_
 rintro e w3 ⟨rfl, k3⟩
 rw [show bodyM smA ⟨0, 1, 51, 73, 76, ⟨tText, [120], []⟩, []⟩ = [111, 110, 101] by decide +kernel]
 have hat3 := zar hat2 k3
 refine RT ?_
 refine KGO ?_
 refine Load.agg (ptC ⟨0, 1, 83, 84, 87, ⟨tText, tPlain, []⟩, []⟩ x2.v) (by rfl) (by rfl) (by rfl) (hA2 hat3) ?_
 refine KGO ?_
 refine CallS.of (Tryz.call18 _ _) (zgo smA ⟨0, 1, 83, 84, 87, ⟨tText, tPlain, []⟩, []⟩ x2 (by decide) w3) ?_
 rintro e w4 ⟨rfl, k4⟩
 rw [show bodyM smA ⟨0, 1, 83, 84, 87, ⟨tText, tPlain, []⟩, []⟩ = [116, 119, 111] by decide +kernel]
 have hat4 := zar hat3 k4
 refine RT ?_
 refine KGO ?_
 refine Load.agg (ptC ⟨0, 1, 83, 84, 87, ⟨tText, tPlain, []⟩, []⟩ x2.v) (by rfl) (by rfl) (by rfl) (hA2 hat4) ?_
 refine KGO ?_
 refine CallS.of (Tryz.call16 _ _) (zik smA ⟨0, 1, 83, 84, 87, ⟨tText, tPlain, []⟩, []⟩ x2 (by decide) w4) ?_
 rintro e w5 ⟨rfl, k5⟩
 rw [show rawM smA ⟨0, 1, 83, 84, 87, ⟨tText, tPlain, []⟩, []⟩ = [10, 116, 119, 111] by decide +kernel]
 have hat5 := zar hat4 k5
 refine RT ?_
 refine KGO ?_
 refine Load.agg (ptC ⟨0, 1, 51, 73, 76, ⟨tText, [120], []⟩, []⟩ x1.v) (by rfl) (by rfl) (by rfl) (hA1 hat5) ?_
 refine KGO ?_
 have K5 : Kp w w5 n_ := (((k1.trans0 k2).trans0 k3).trans0 k4).trans0 k5
 refine CallS.of (Tryz.call14 _ _) (zkV (w := w5) smA ⟨0, 1, 51, 73, 76, ⟨tText, [120], []⟩, []⟩ x1 (hm.keep K5) (by decide)) ?_
 rintro e w6 ⟨v6, rfl, o6, k6⟩
 have hhl : (headM smA ⟨0, 1, 51, 73, 76, ⟨tText, [120], []⟩, []⟩).length = 1 := by decide +kernel
 obtain ⟨a6, c6, rfl⟩ := zad o6
 rw [hhl]
 have K6 := K5.trans0 k6
 have hat6 := zar hat5 k6
 refine RT ?_
 refine KGO ?_
 refine CallS.of (Tryz.call11 _ _) (zeO (w := w6) smB (hT.keep K6) (hm.keep K6) (hE.keep K6) (by decide)) ?_
 rintro e w7 ⟨v7, l7, rfl, ps7, hl7, k7⟩
 rw [zkO] at hl7
 obtain ⟨y0, y1, y2, rfl⟩ := map3 hl7
 obtain ⟨av7, cv7, rfl⟩ := zad ps7.row
 obtain ⟨g7, rfl, hB7, hg7, hat7⟩ := zfA ps7.row (by show 0 < 3; decide)
 have hln7 : [((⟨-1, 0, 0, 80, 98, ⟨sMultipart, sDigest, [(sBoundary, [98])]⟩, [55, 98, 105, 116]⟩ : Prt), y0), (⟨0, 1, 84, 85, 98, ⟨sMessage, sRfc, []⟩, []⟩, y1), (⟨1, 2, 85, 97, 98, ⟨tText, tPlain, []⟩, []⟩, y2)].length = 3 := rfl
 obtain ⟨MM, hMM⟩ : ∃ MM, MM = [((⟨-1, 0, 0, 80, 98, ⟨sMultipart, sDigest, [(sBoundary, [98])]⟩, [55, 98, 105, 116]⟩ : Prt), y0), (⟨0, 1, 84, 85, 98, ⟨sMessage, sRfc, []⟩, []⟩, y1), (⟨1, 2, 85, 97, 98, ⟨tText, tPlain, []⟩, []⟩, y2)] := ⟨_, rfl⟩
 have hcells7 : ∃ z0 z1 z2 : Value, MM.flatMap ptE = [.int .i64 (-1), .int .i64 0, .int .i64 0, .int .i64 80, .int .i64 98, .string (str sMultipart), .string (str sDigest), z0, .string (str [55, 98, 105, 116]), .int .i64 0, .int .i64 1, .int .i64 84, .int .i64 85, .int .i64 98, .string (str sMessage), .string (str sRfc), z1, .string (str []), .int .i64 1, .int .i64 2, .int .i64 85, .int .i64 97, .int .i64 98, .string (str tText), .string (str tPlain), z2, .string (str [])] := ⟨y0.v, y1.v, y2.v, by rw [hMM]; rfl⟩
 rw [← hMM] at hat7 hln7 ⊢
 obtain ⟨y0', y1', y2', hcells7⟩ := hcells7
 have hc7 : At w7 g7 0 _ := hcells7 ▸ hat7
 have K7 := K6.trans0 k7
 have k17 := (((((k2.trans0 k3).trans0 k4).trans0 k5).trans0 k6).trans0 k7)
 have k27 := ((((k3.trans0 k4).trans0 k5).trans0 k6).trans0 k7)
 have o7 := zai o2 k27
 have hrow7 := hrow.keep k17
 refine RT ?_
 refine KGO ?_
 refine RunV.of (bs2I 1 2 _) ?_
 obtain ⟨a_b8, v_b8, k_w8, z_w8, r_w8⟩ := new5 w7 3 ([.int .i64 1, .int .i64 2])
 generalize w7.alloc (.cells (List.toArray ([.int .i64 1, .int .i64 2])) 3) = w8 at *
 generalize hs_b8 : w7.heap.size = b8 at *
 have hri : RowI w8 (.slice (some ⟨b8, 0, none⟩) 2 2) [1, 2] := ⟨_, _, rfl, fun _ => ⟨b8, 0, rfl, v_b8.lt, a_b8⟩⟩
 refine KGO ?_
 refine CallS.of (Tryz.call20 _ _) (zfT (w := w8) [1, 2] [1, 2] (zap (zai o7 k_w8)) hri (by decide) (by decide)) ?_
 rintro e w9 ⟨rfl, k9⟩
 rw [show decide (([1, 2] : List Int) = [1, 2]) = true from rfl]
 refine RT ?_
 refine KGO ?_
 refine CallS.of (Tryz.call23 _ _) (zgC (w := w9) LL 2 ((hrow7.keep k_w8).keep k9) hl3) ?_
 rintro e wa ⟨rfl, ka⟩
 rw [hf2]
 refine RT ?_
 refine KGO ?_
 refine CallS.of (Tryz.call23 _ _) (zgC (w := wa) LL 0 (((hrow7.keep k_w8).keep k9).keep ka) hl3) ?_
 rintro e wb ⟨rfl, kb⟩
 rw [hf0]
 refine RT ?_
 refine KGO ?_
 refine CallS.of (Tryz.call23 _ _) (zgC (w := wb) LL 3 ((((hrow7.keep k_w8).keep k9).keep ka).keep kb) hl3) ?_
 rintro e wc ⟨rfl, kc⟩
 rw [hf3]
 have k7c := (((k_w8.trans0 k9).trans0 ka).trans0 kb).trans0 kc
 have hcc := zar hc7 k7c
 have Kc := K7.trans0 k7c
 clear hat7 hc7 hat hat2 hat3 hat4 hat5 hat6 hc2
 refine RT ?_
 refine KGO ?_
 refine Load.one (by rfl) (hcc 14 _ rfl) ?_
 refine KGO ?_
 refine Load.one (by rfl) (hcc 19 _ rfl) ?_
 refine KGO ?_
 refine RunV.of (zii 5 4 _) ?_
 refine KGO ?_
 refine CallS.of (Tryz.call16 _ _) (zik smA ⟨0, 0, 5, 0, 4, ⟨[], [], []⟩, []⟩ ⟨none, 0, 0⟩ (by decide) wc) ?_
 rintro e wd ⟨rfl, kd⟩
 rw [show rawM smA ⟨0, 0, 5, 0, 4, ⟨[], [], []⟩, []⟩ = [] by decide +kernel]
 refine RT ?_
 refine KGO ?_
 exact ⟨rfl, Kc.trans0 kd⟩
end
end Go.Proofs.YtmjeacpoobbjjaaGreatDoor
namespace Go.Me
open Go Go.Cs Go.Tk Go.Hd Go.Ty
theorem zgw {l : List Prt} {p : Prt} {j : Nat} (hj : j < l.length) (hp : p.up ≠ (j : Int)) : lastA (l ++ [p]) j = lastA l j := by
 unfold lastA
 rw [List.foldl_append, List.foldl_cons, List.foldl_nil, if_neg hp, List.getElem?_append_left hj]
theorem zjr {l : List Prt} {p : Prt} {j : Nat} (hj : j < l.length) (hp : p.up = (j : Int)) : lastA (l ++ [p]) j = p.to + 1 := by
 have := zec (m := []) hj hp (fun x hx => by cases hx)
 rwa [List.append_nil] at this
theorem zlP {l : List Prt} {j k : Nat} (hu : ∀ (i : Nat) (q : Prt), l[i]? = some q → q.up < (i : Int)) (h : Anc l j k) : j ≤ k := by
 induction h with
 | here => exact Nat.le_refl _
 | up h1 h2 h3 ih => have := hu _ _ h1; omega
theorem Good.take {n : Nat} {l : List Prt} (h : Good n l) : ∀ i, 0 < i → i ≤ l.length → Good n (l.take i) := by
 induction h with
 | root h1 h2 h3 h4 h5 =>
  intro i hi hl
  obtain rfl : i = 1 := by simp at hl; omega
  exact .root h1 h2 h3 h4 h5
 | snoc h1 h2 ih =>
  rename_i l p
  intro i hi hl
  rw [List.length_append, List.length_singleton] at hl
  rcases Nat.lt_or_ge l.length i with h | h
  ·rw [List.take_of_length_le (by rw [List.length_append, List.length_singleton]; omega)]
   exact .snoc h1 h2
  ·rw [List.take_append_of_le_length h]
   exact ih i hi h
theorem Good.ok_at {n : Nat} {l : List Prt} (h : Good n l) (i : Nat) (p : Prt) (hp : l[i]? = some p) : OkP n p := by
 cases i with
 | zero =>
  obtain ⟨q, hq, h1, _⟩ := h.root_at
  rw [hq] at hp; injection hp with hp; rw [← hp]; exact h1
 | succ i => exact (h.step_at (i + 1) p (by omega) hp).ok
end Go.Me
