/- Helper text of this claim: lemmas and contracts that the proved statement rests on; no conditions of its own. -/
import Derived.Test.YtcdpocffoapbeaaGreatDoorGMh3
namespace Go.Proofs.YtcdpocffoapbeaaGreatDoor
set_option linter.unusedVariables false
set_option maxHeartbeats 8000000
open Go.Shelf Go.RowKit Go.Pw Go.Vc Go.Cs Go.Lib Go.Cd Go.Mg
set_option linter.unusedVariables false
set_option maxRecDepth 100000
section
variable {w : World}
theorem pk_1 {b : Nat} {v : Value} (l : List Int) (k : Nat) (hv : VarK w b 23 [v]) (hr : RowI w v l) (hk : k < l.length) : Calls Tryz.prog 28 #[.int .i64 (k : Nat), .pointer (some ⟨b, 0, none⟩)] w fun e w' => e = .returned (.int .i64 (szI (l.getD k 0))) ∧ Kp w w' n_ := by
 obtain ⟨a, c, rfl, hra⟩ := hr
 obtain ⟨g, o, rfl, hg, hat⟩ := hra (by omega)
 have ck := zaX hat hk
 have av := hv.at
 have q := Kp.refl w n_
 refine zaa (args := [.int .i64 (k : Nat), .pointer (some ⟨b, 0, none⟩)]) Tryz.func28 rfl NL ?_; refine GW ?_
 refine KGO ?_
 exact ⟨by rw [List.getD_eq_getElem?_getD, List.getElem?_eq_getElem hk]; rfl, Kp.refl _ _⟩
theorem pk_2 {b : Nat} {v : Value} (l : List Int) (k : Nat) (q : Int) (hq : q = (k : Nat)) (hv : VarK w b 23 [v]) (hr : RowI w v l) (hk : k < l.length) : Calls Tryz.prog 28 #[.int .i64 q, .pointer (some ⟨b, 0, none⟩)] w fun e w' => e = .returned (.int .i64 (szI (l.getD k 0))) ∧ Kp w w' n_ := by
 subst hq
 exact pk_1 l k hv hr hk
theorem zbZ (n : Int) : 0 ≤ szI n ∧ szI n ≤ 1099511627776 := by unfold szI; omega
theorem zgR {v : Value} (l : List Int) (hr : RowI w v l) (hl : l.length ≤ 1000000) : Calls Tryz.prog 10 #[v] w fun e w' => e = .returned (.tuple (match pickL l with | none => #[.int .i64 0, .int .i64 0, .bool false] | some i => #[.int .i64 (i : Nat), .int .i64 ((i + 1 : Nat) : Int), .bool true])) ∧ Kp w w' n_ := by
 have hr0 := hr
 obtain ⟨a, c, rfl, hra⟩ := hr
 refine zaa (args := [.slice a l.length c]) Tryz.func10 rfl NL ?_; refine GW ?_
 obtain ⟨a_b1, v_b1, k_w1, z_w1, r_w1⟩ := new5 w 23 ([.slice a l.length c])
 generalize w.alloc (.cells (List.toArray ([.slice a l.length c])) 23) = w1 at *
 generalize hs_b1 : w.heap.size = b1 at *
 refine KGO ?_
 refine Loop.intro (ι := Nat) (fun i => [(1, .pointer (some ⟨b1, 0, none⟩)), (5, .func (.func 28) #[] #[.pointer (some ⟨b1, 0, none⟩)]), (6, .int .i64 (bestI ((List.range i).foldl (stepPick l) none))), (7, .int .i64 (i : Nat))])
  (fun i wr => Kp w1 wr n_ ∧ i ≤ l.length - 1) (fun i => l.length - i) 0 ⟨rfl, by simp [upd], rfl, rfl, trivial⟩ ⟨Kp.refl _ _, Nat.zero_le _⟩ ?_
 rintro i gg wr ⟨hK, hi⟩
 have Kw := k_w1.trans0 hK
 have vr := v_b1.keep0 hK
 have ar := vr.at
 have q0 := Kp.refl wr n_
 have hstep : (List.range (i + 1)).foldl (stepPick l) none = stepPick l ((List.range i).foldl (stepPick l) none) i := by rw [List.range_succ, List.foldl_append]; rfl
 have hlo := ziT l i
 generalize hO : (List.range i).foldl (stepPick l) none = o at *
 refine GW ?_
 by_cases hlt : i + 1 < l.length
 rotate_left
 ·have hil : i = l.length - 1 := by omega
  have hpk : pickL l = o := by unfold pickL; rw [← hil]; exact hO
  rw [hpk]
  clear hra a_b1 hO
  cases o with
  | none =>
   have e0 : bestI none = -1 := rfl
   clear hlo
   rw [e0]
   refine KGO ?_
   exact ⟨rfl, Kw⟩
  | some b =>
   have e0 : bestI (some b) = (b : Nat) := rfl
   have hb := hlo b rfl
   clear hlo
   rw [e0]
   refine KGO ?_
   exact ⟨rfl, Kw⟩
 have sr1 := zbZ (l.getD i 0)
 have sr2 := zbZ (l.getD (i + 1) 0)
 clear hra a_b1 hO
 by_cases h8 : l.length ≤ 8
 ·refine KGO ?_
  refine CallS.of (Tryz.call28 _ _) (pk_2 (w := wr) l i _ rfl vr (hr0.keep Kw) (by omega)) ?_
  rintro e w2 ⟨rfl, k2⟩
  refine RT ?_
  refine KGO ?_
  refine CallS.of (Tryz.call28 _ _) (pk_2 (w := w2) l (i + 1) _ (by simp) (vr.keep0 k2) (hr0.keep (Kw.trans0 k2)) (by omega)) ?_
  rintro e w3 ⟨rfl, k3⟩
  have K3 := k2.trans0 k3
  refine RT ?_
  by_cases hs : szI (l.getD i 0) > 2 * szI (l.getD (i + 1) 0)
  ·refine KGO ?_
   exact ⟨i + 1, ⟨rfl, rfl, by rw [hstep]; unfold stepPick; rw [if_pos ⟨h8, hs⟩]; rfl, v_int (by simp), trivial⟩, ⟨hK.trans0 K3, by omega⟩, by dsimp only; omega⟩
  ·refine KGO ?_
   have hns : ¬(l.length ≤ 8 ∧ szI (l.getD i 0) > 2 * szI (l.getD (i + 1) 0)) := fun h => hs h.2
   cases o with
   | none =>
    have e0 : bestI none = -1 := rfl
    rw [e0]
    refine KGO ?_
    exact ⟨i + 1, ⟨rfl, rfl, by rw [hstep]; unfold stepPick; rw [if_neg hns]; rfl, v_int (by simp), trivial⟩, ⟨hK.trans0 K3, by omega⟩, by dsimp only; omega⟩
   | some b =>
    have e0 : bestI (some b) = (b : Nat) := rfl
    have hbi := hlo b rfl
    rw [e0]
    clear ar
    have ar := (vr.keep0 K3).at
    refine KGO ?_
    refine CallS.of (Tryz.call28 _ _) (pk_2 (w := w3) l i _ rfl (vr.keep0 K3) (hr0.keep (Kw.trans0 K3)) (by omega)) ?_
    rintro e w4 ⟨rfl, k4⟩
    have K4 := Kp.trans0 K3 k4
    refine RT ?_
    refine KGO ?_
    refine CallS.of (Tryz.call28 _ _) (pk_2 (w := w4) l (i + 1) _ (by simp) (vr.keep0 K4) (hr0.keep (Kw.trans0 K4)) (by omega)) ?_
    rintro e w5 ⟨rfl, k5⟩
    have K5 := K4.trans0 k5
    refine RT ?_
    refine KGO ?_
    refine CallS.of (Tryz.call28 _ _) (pk_2 (w := w5) l b _ rfl (vr.keep0 K5) (hr0.keep (Kw.trans0 K5)) (by omega)) ?_
    rintro e w6 ⟨rfl, k6⟩
    have K6 := K5.trans0 k6
    refine RT ?_
    refine KGO ?_
    refine CallS.of (Tryz.call28 _ _) (pk_2 (w := w6) l (b + 1) _ (by simp) (vr.keep0 K6) (hr0.keep (Kw.trans0 K6)) (by omega)) ?_
    rintro e w7 ⟨rfl, k7⟩
    have K7 := K6.trans0 k7
    have sr3 := zbZ (l.getD b 0)
    have sr4 := zbZ (l.getD (b + 1) 0)
    refine RT ?_
    by_cases hlt2 : szI (l.getD i 0) + szI (l.getD (i + 1) 0) < szI (l.getD b 0) + szI (l.getD (b + 1) 0)
    ·refine KGO ?_
     exact ⟨i + 1, ⟨rfl, rfl, by rw [hstep]; unfold stepPick; rw [if_neg hns]; unfold sz2; dsimp only; rw [if_pos hlt2]; rfl, v_int (by simp), trivial⟩, ⟨hK.trans0 K7, by omega⟩, by dsimp only; omega⟩
    ·refine KGO ?_
     exact ⟨i + 1, ⟨rfl, rfl, by rw [hstep]; unfold stepPick; rw [if_neg hns]; unfold sz2; dsimp only; rw [if_neg hlt2]; rfl, v_int (by simp), trivial⟩, ⟨hK.trans0 K7, by omega⟩, by dsimp only; omega⟩
 ·refine KGO ?_
  have hns : ¬(l.length ≤ 8 ∧ szI (l.getD i 0) > 2 * szI (l.getD (i + 1) 0)) := fun h => h8 h.1
  have K3 := Kp.refl wr n_
  cases o with
  | none =>
   have e0 : bestI none = -1 := rfl
   rw [e0]
   refine KGO ?_
   exact ⟨i + 1, ⟨rfl, rfl, by rw [hstep]; unfold stepPick; rw [if_neg hns]; rfl, v_int (by simp), trivial⟩, ⟨hK.trans0 K3, by omega⟩, by dsimp only; omega⟩
  | some b =>
   have e0 : bestI (some b) = (b : Nat) := rfl
   have hbi := hlo b rfl
   rw [e0]
   clear ar
   have ar := (vr.keep0 K3).at
   refine KGO ?_
   refine CallS.of (Tryz.call28 _ _) (pk_2 (w := wr) l i _ rfl (vr.keep0 K3) (hr0.keep (Kw.trans0 K3)) (by omega)) ?_
   rintro e w4 ⟨rfl, k4⟩
   have K4 := Kp.trans0 K3 k4
   refine RT ?_
   refine KGO ?_
   refine CallS.of (Tryz.call28 _ _) (pk_2 (w := w4) l (i + 1) _ (by simp) (vr.keep0 K4) (hr0.keep (Kw.trans0 K4)) (by omega)) ?_
   rintro e w5 ⟨rfl, k5⟩
   have K5 := K4.trans0 k5
   refine RT ?_
   refine KGO ?_
   refine CallS.of (Tryz.call28 _ _) (pk_2 (w := w5) l b _ rfl (vr.keep0 K5) (hr0.keep (Kw.trans0 K5)) (by omega)) ?_
   rintro e w6 ⟨rfl, k6⟩
   have K6 := K5.trans0 k6
   refine RT ?_
   refine KGO ?_
   refine CallS.of (Tryz.call28 _ _) (pk_2 (w := w6) l (b + 1) _ (by simp) (vr.keep0 K6) (hr0.keep (Kw.trans0 K6)) (by omega)) ?_
   rintro e w7 ⟨rfl, k7⟩
   have K7 := K6.trans0 k7
   have sr3 := zbZ (l.getD b 0)
   have sr4 := zbZ (l.getD (b + 1) 0)
   refine RT ?_
   by_cases hlt2 : szI (l.getD i 0) + szI (l.getD (i + 1) 0) < szI (l.getD b 0) + szI (l.getD (b + 1) 0)
   ·refine KGO ?_
    exact ⟨i + 1, ⟨rfl, rfl, by rw [hstep]; unfold stepPick; rw [if_neg hns]; unfold sz2; dsimp only; rw [if_pos hlt2]; rfl, v_int (by simp), trivial⟩, ⟨hK.trans0 K7, by omega⟩, by dsimp only; omega⟩
   ·refine KGO ?_
    exact ⟨i + 1, ⟨rfl, rfl, by rw [hstep]; unfold stepPick; rw [if_neg hns]; unfold sz2; dsimp only; rw [if_neg hlt2]; rfl, v_int (by simp), trivial⟩, ⟨hK.trans0 K7, by omega⟩, by dsimp only; omega⟩
end
def withGo (n : Int) : List Int → Bool → List Int
 | [], d => if d = true then [] else [n]
 | x :: r, d => if d = false ∧ n ≤ x then (if x = n then n :: withGo n r true else n :: x :: withGo n r true) else (if x = n then withGo n r d else x :: withGo n r d)
def withL (l : List Int) (n : Int) : List Int := withGo n l false
section
variable {w : World}
theorem zdy {va : Value} (la : List Int) (n : Int) (ha : RowI w va la) (hl : la.length ≤ 100000000) :
  Calls Tryz.prog 19 #[va, .int .i64 n] w fun e w' => e = .returned (.bool (decide (n ∈ la))) ∧ Kp w w' n_ := by
 obtain ⟨a, ca, rfl, hra⟩ := ha
 refine zaa (args := [.slice a la.length ca, .int .i64 n]) Tryz.func19 rfl NL ?_; refine GW ?_
 refine Loop.intro (ι := Nat) (fun i => [(0, .slice a la.length ca), (1, .int .i64 n), (5, .int .i64 (i : Nat))])
  (fun i wr => Kp w wr n_ ∧ i ≤ la.length ∧ n ∉ la.take i) (fun i => la.length - i) 0 ⟨rfl, rfl, rfl, trivial⟩ ⟨Kp.refl _ _, Nat.zero_le _, by simp⟩ ?_
 rintro i gg wr ⟨hK, hi, ht⟩
 refine GW ?_
 by_cases hlt : i < la.length
 ·obtain ⟨ga, oa, rfl, hga, hata⟩ := hra (by omega)
  have ca := zaX hata hlt
  by_cases he : la[i] = n
  ·refine KGO ?_
   exact ⟨zai (decide_eq_true (he ▸ List.getElem_mem hlt)).symm, hK⟩
  ·refine KGO ?_
   exact ⟨i + 1, ⟨rfl, rfl, v_int (by simp), trivial⟩, ⟨hK, by omega, by
    rw [List.take_succ_eq_append_getElem hlt, List.mem_append, List.mem_singleton]
    exact fun q => q.elim ht fun q => he q.symm⟩, by dsimp only; omega⟩
 ·refine KGO ?_
  rw [List.take_of_length_le (by omega)] at ht
  exact ⟨zai (decide_eq_false ht).symm, hK⟩
theorem zkj {va : Value} (la : List Int) (n : Int) (ha : RowI w va la) (hl : la.length ≤ 100000000) :
  Calls Tryz.prog 80 #[va, .int .i64 n] w fun e w' => e = .returned (.bool (decide (n ∈ la))) ∧ Kp w w' n_ := by
 obtain ⟨a, ca, rfl, hra⟩ := ha
 refine zaa (args := [.slice a la.length ca, .int .i64 n]) Tryz.func80 rfl NL ?_; refine GW ?_
 refine Loop.intro (ι := Nat) (fun i => [(0, .slice a la.length ca), (1, .int .i64 n), (5, .int .i64 (i : Nat))])
  (fun i wr => Kp w wr n_ ∧ i ≤ la.length ∧ n ∉ la.take i) (fun i => la.length - i) 0 ⟨rfl, rfl, rfl, trivial⟩ ⟨Kp.refl _ _, Nat.zero_le _, by simp⟩ ?_
 rintro i gg wr ⟨hK, hi, ht⟩
 refine GW ?_
 by_cases hlt : i < la.length
 ·obtain ⟨ga, oa, rfl, hga, hata⟩ := hra (by omega)
  have ca := zaX hata hlt
  by_cases he : la[i] = n
  ·refine KGO ?_
   exact ⟨zai (decide_eq_true (he ▸ List.getElem_mem hlt)).symm, hK⟩
  ·refine KGO ?_
   exact ⟨i + 1, ⟨rfl, rfl, v_int (by simp), trivial⟩, ⟨hK, by omega, by
    rw [List.take_succ_eq_append_getElem hlt, List.mem_append, List.mem_singleton]
    exact fun q => q.elim ht fun q => he q.symm⟩, by dsimp only; omega⟩
 ·refine KGO ?_
  rw [List.take_of_length_le (by omega)] at ht
  exact ⟨zai (decide_eq_false ht).symm, hK⟩
theorem zho (n : Int) : Calls Tryz.prog 29 #[.int .i64 n] w fun e w' => e = .returned (.int .i64 (szI n)) ∧ w' = w := by
 refine zaa (args := [.int .i64 n]) Tryz.func29 rfl NL ?_; refine GW ?_
 exact ⟨rfl, rfl⟩
theorem zmZ (n a b : Int) : Calls Tryz.prog 76 #[.int .i64 n, .int .i64 a, .int .i64 b] w fun e w' => e = .returned (.bool (decide (a ≤ n) && decide (n ≤ b))) ∧ w' = w := by
 refine zaa (args := [.int .i64 n, .int .i64 a, .int .i64 b]) Tryz.func76 rfl NL ?_; refine GW ?_
 by_cases h1 : a ≤ n
 ·refine KGO ?_
  exact ⟨zai (by simp [h1]), rfl⟩
 ·refine KGO ?_
  exact ⟨zai (by simp [h1]), rfl⟩
theorem zlo {va : Value} (la : List Int) (n : Int) (ha : RowI w va la) (hl : la.length ≤ 100000000) :
  Calls Tryz.prog 81 #[va, .int .i64 n] w fun e w' => ∃ v, e = .returned v ∧ OwnI w' w.heap.size v (withL la n) ∧ Kp w w' n_ := by
 obtain ⟨a, ca, rfl, hra⟩ := ha
 refine zaa (args := [.slice a la.length ca, .int .i64 n]) Tryz.func81 rfl NL ?_; refine GW ?_
 refine Loop.intro (ι := Nat × Value × Bool × List Int) (fun i => [(0, .slice a la.length ca), (1, .int .i64 n), (5, i.2.1), (6, .bool i.2.2.1), (7, .int .i64 (i.1 : Nat))])
  (fun i wr => Kp w wr n_ ∧ i.1 ≤ la.length ∧ OwnI wr w.heap.size i.2.1 i.2.2.2 ∧ i.2.2.2.length ≤ 2 * i.1 ∧ i.2.2.2 ++ withGo n (la.drop i.1) i.2.2.1 = withL la n) (fun i => la.length - i.1) (0, .slice none 0 0, false, []) ⟨rfl, rfl, rfl, rfl, rfl, trivial⟩ ⟨Kp.refl _ _, Nat.zero_le _, World.ownsRow_nil _ _ _ _, Nat.zero_le _, rfl⟩ ?_
 rintro ⟨i, vo, d, out⟩ gg wr ⟨hK, hi, ho, hol, hd⟩
 dsimp only at hi ho hol hd ⊢
 obtain ⟨ao, co, rfl⟩ := zab ho
 have z0 := hK.size
 refine GW ?_
 by_cases hlt : i < la.length
 rotate_left
 ·rw [List.drop_eq_nil_of_le (by omega)] at hd
  cases d with
  | true =>
   refine KGO ?_
   rw [show withGo n [] true = [] from rfl, List.append_nil] at hd
   subst hd
   exact ⟨_, rfl, ho, hK⟩
  | false =>
   refine KGO ?_
   rw [show withGo n [] false = [n] from rfl] at hd
   refine RunV.of (bs1I n _) ?_
   obtain ⟨a_b2, v_b2, k_w2, z_w2, r_w2⟩ := new5 wr 3 (inC n)
   generalize wr.alloc (.cells (List.toArray (inC n)) 3) = w2 at *
   generalize hs_b2 : wr.heap.size = b2 at *
   have z_w2 := (k_w2).size
   refine KGO ?_
   refine tyI.app1 n (zac ho k_w2) (by omega) a_b2 (by omega) (by omega) fun v_w3 w3 o_w3 k_w3 => ?_
   have K_w3 := zaz (zac ho k_w2) k_w3 ((hK).trans0 k_w2) (Nat.le_refl _)
   obtain ⟨p_w3, c_w3, rfl⟩ := zab o_w3
   refine KGO ?_
   rw [← hd]
   exact ⟨_, rfl, o_w3, K_w3⟩
 obtain ⟨ga, oa, rfl, hga, hata⟩ := hra (by omega)
 have cc := zaX hata hlt
 rw [List.drop_eq_getElem_cons hlt] at hd
 clear hra
 cases d with
 | true =>
  have hw : withGo n (la[i] :: la.drop (i + 1)) true = if la[i] = n then withGo n (la.drop (i + 1)) true else la[i] :: withGo n (la.drop (i + 1)) true := by
   rw [withGo, if_neg (by simp)]
  rw [hw] at hd
  by_cases he : la[i] = n
  ·rw [if_pos he] at hd
   refine KGO ?_
   exact ⟨(i + 1, .slice ao out.length co, true, out), ⟨rfl, rfl, rfl, rfl, v_int (by simp), trivial⟩, ⟨hK, by omega, ho, by dsimp only; omega, hd⟩, by dsimp only; omega⟩
  ·rw [if_neg he] at hd
   refine KGO ?_
   refine RunV.of (bs1I la[i] _) ?_
   obtain ⟨a_b2, v_b2, k_w2, z_w2, r_w2⟩ := new5 wr 3 (inC la[i])
   generalize wr.alloc (.cells (List.toArray (inC la[i])) 3) = w2 at *
   generalize hs_b2 : wr.heap.size = b2 at *
   have z_w2 := (k_w2).size
   refine KGO ?_
   refine tyI.app1 la[i] (zac ho k_w2) (by omega) a_b2 (by omega) (by omega) fun v_w3 w3 o_w3 k_w3 => ?_
   have K_w3 := zaz (zac ho k_w2) k_w3 ((hK).trans0 k_w2) (Nat.le_refl _)
   obtain ⟨p_w3, c_w3, rfl⟩ := zab o_w3
   refine KGO ?_
   exact ⟨(i + 1, _, true, out ++ [la[i]]), ⟨rfl, rfl, rfl, rfl, v_int (by simp), trivial⟩, ⟨K_w3, by omega, o_w3, by rw [List.length_append, List.length_singleton]; omega, by rw [List.append_assoc]; exact hd⟩, by dsimp only; omega⟩
 | false =>
  by_cases hle : n ≤ la[i]
  ·have hw : withGo n (la[i] :: la.drop (i + 1)) false = if la[i] = n then n :: withGo n (la.drop (i + 1)) true else n :: la[i] :: withGo n (la.drop (i + 1)) true := by
    rw [withGo, if_pos ⟨rfl, hle⟩]
   rw [hw] at hd
   refine KGO ?_
   refine RunV.of (bs1I n _) ?_
   obtain ⟨a_b2, v_b2, k_w2, z_w2, r_w2⟩ := new5 wr 3 (inC n)
   generalize wr.alloc (.cells (List.toArray (inC n)) 3) = w2 at *
   generalize hs_b2 : wr.heap.size = b2 at *
   have z_w2 := (k_w2).size
   refine KGO ?_
   refine tyI.app1 n (zac ho k_w2) (by omega) a_b2 (by omega) (by omega) fun v_w3 w3 o_w3 k_w3 => ?_
   have K_w3 := zaz (zac ho k_w2) k_w3 ((hK).trans0 k_w2) (Nat.le_refl _)
   obtain ⟨p_w3, c_w3, rfl⟩ := zab o_w3
   refine KGO ?_
   have cc3 := zav cc K_w3
   by_cases he : la[i] = n
   ·rw [if_pos he] at hd
    refine KGO ?_
    exact ⟨(i + 1, _, true, out ++ [n]), ⟨rfl, rfl, rfl, rfl, v_int (by simp), trivial⟩, ⟨K_w3, by omega, o_w3, by rw [List.length_append, List.length_singleton]; omega, by rw [List.append_assoc]; exact hd⟩, by dsimp only; omega⟩
   ·rw [if_neg he] at hd
    refine KGO ?_
    have zz := K_w3.size
    have hl2 : (out ++ [n]).length = out.length + 1 := by simp
    refine RunV.of (bs1I la[i] _) ?_
    obtain ⟨a_b4, v_b4, k_w4, z_w4, r_w4⟩ := new5 w3 3 (inC la[i])
    generalize w3.alloc (.cells (List.toArray (inC la[i])) 3) = w4 at *
    generalize hs_b4 : w3.heap.size = b4 at *
    have z_w4 := (k_w4).size
    refine KGO ?_
    refine tyI.app1 la[i] (zac o_w3 k_w4) (by omega) a_b4 (by omega) (by omega) fun v_w5 w5 o_w5 k_w5 => ?_
    have K_w5 := zaz (zac o_w3 k_w4) k_w5 ((K_w3).trans0 k_w4) (Nat.le_refl _)
    obtain ⟨p_w5, c_w5, rfl⟩ := zab o_w5
    refine KGO ?_
    exact ⟨(i + 1, _, true, out ++ [n] ++ [la[i]]), ⟨rfl, rfl, rfl, rfl, v_int (by simp), trivial⟩, ⟨K_w5, by omega, o_w5, by simp; omega, by rw [List.append_assoc, List.append_assoc]; exact hd⟩, by dsimp only; omega⟩
  ·have hw : withGo n (la[i] :: la.drop (i + 1)) false = la[i] :: withGo n (la.drop (i + 1)) false := by
    rw [withGo, if_neg (fun h => hle h.2), if_neg (by omega)]
   rw [hw] at hd
   have he : ¬ la[i] = n := by omega
   refine KGO ?_
   refine RunV.of (bs1I la[i] _) ?_
   obtain ⟨a_b2, v_b2, k_w2, z_w2, r_w2⟩ := new5 wr 3 (inC la[i])
   generalize wr.alloc (.cells (List.toArray (inC la[i])) 3) = w2 at *
   generalize hs_b2 : wr.heap.size = b2 at *
   have z_w2 := (k_w2).size
   refine KGO ?_
   refine tyI.app1 la[i] (zac ho k_w2) (by omega) a_b2 (by omega) (by omega) fun v_w3 w3 o_w3 k_w3 => ?_
   have K_w3 := zaz (zac ho k_w2) k_w3 ((hK).trans0 k_w2) (Nat.le_refl _)
   obtain ⟨p_w3, c_w3, rfl⟩ := zab o_w3
   refine KGO ?_
   exact ⟨(i + 1, _, false, out ++ [la[i]]), ⟨rfl, rfl, rfl, rfl, v_int (by simp), trivial⟩, ⟨K_w3, by omega, o_w3, by rw [List.length_append, List.length_singleton]; omega, by rw [List.append_assoc]; exact hd⟩, by dsimp only; omega⟩
end
def ofP (l : List Pst) (n : Int) : List Int := ((l.find? fun p => decide (p.doc = n)).map (·.places)).getD []
theorem bs0I (w : World) : (Instr.buildSlice 23 0 [].toArray).run Tryz.prog w = .ok (.slice (some ⟨w.heap.size, 0, none⟩) 0 0) (w.alloc (.cells #[] 3)) := by
 simp [Instr.buildSlice, go_sem, Tryz.runUnderlying23]
theorem zdX (n : Int) : ∀ (l : List Int) (d : Bool), (withGo n l d).length ≤ l.length + 1 ∧ (d = true → (withGo n l d).length ≤ l.length)
 | [], d => by cases d <;> simp [withGo]
 | x :: r, d => by
  have h1 := zdX n r true
  have h2 := zdX n r d
  have h3 := h1.2 rfl
  rw [withGo]
  split
  ·rename_i h
   split <;> simp only [List.length_cons] <;> exact ⟨by omega, fun e => by rw [h.1] at e; cases e⟩
  ·split
   ·simp only [List.length_cons]; exact ⟨by omega, fun e => by have := h2.2 e; omega⟩
   ·simp only [List.length_cons]; exact ⟨by omega, fun e => by have := h2.2 e; omega⟩
theorem zbI : ∀ (b a : List Int), (b.foldl withL a).length ≤ a.length + b.length
 | [], a => by simp
 | x :: b, a => by
  have h1 := zbI b (withL a x)
  have h2 := (zdX x a false).1
  unfold withL at h1
  rw [List.foldl_cons, List.length_cons]
  unfold withL
  omega
section
variable {w : World}
theorem zio {v : Value} (lx : List Pr) (hv : RdP w v lx) (hl : lx.length ≤ 1000000000000) : Calls Tryz.prog 83 #[v] w fun e w' => ∃ v', e = .returned v' ∧ OwnI w' w.heap.size v' (lx.map (·.p.doc)) ∧ Kp w w' n_ := by
 obtain ⟨⟨a, ca, rfl, hra⟩, _, _, _⟩ := hv
 refine zaa (args := [.slice a lx.length ca]) Tryz.func83 rfl NL ?_; refine GW ?_
 refine Loop.intro (ι := Nat × Value) (fun i => [(0, .slice a lx.length ca), (3, i.2), (4, .int .i64 (i.1 : Nat))])
  (fun i wr => Kp w wr n_ ∧ i.1 ≤ lx.length ∧ OwnI wr w.heap.size i.2 ((lx.take i.1).map (·.p.doc))) (fun i => lx.length - i.1) (0, .slice none 0 0) ⟨rfl, rfl, rfl, trivial⟩ ⟨Kp.refl _ _, Nat.zero_le _, World.ownsRow_nil _ _ _ _⟩ ?_
 rintro ⟨i, vo⟩ gg wr ⟨hK, hi, ho⟩
 dsimp only at hi ho ⊢
 obtain ⟨ao, co, rfl⟩ := zab ho
 have hzr := hK.size
 refine GW ?_
 by_cases hlt : i < lx.length
 ·obtain ⟨ga, oa, rfl, hga, hata⟩ := hra (by omega)
  refine KGO ?_
  refine RunV.of (bs1I lx[i].p.doc _) ?_
  obtain ⟨a_b2, v_b2, k_w2, z_w2, r_w2⟩ := new5 wr 3 (inC lx[i].p.doc)
  generalize wr.alloc (.cells (List.toArray (inC lx[i].p.doc)) 3) = w2 at *
  generalize hs_b2 : wr.heap.size = b2 at *
  refine KGO ?_
  refine tyI.app1 lx[i].p.doc (zac ho k_w2) (by omega) a_b2 (by rw [List.length_map, List.length_take]; omega) (by rw [List.length_map, List.length_take]; omega) fun v3 w3 o3 k3 => ?_
  have J3 := zaz (zac ho k_w2) k3 (hK.trans0 k_w2) (Nat.le_refl _)
  obtain ⟨a3, c3, rfl⟩ := zab o3
  refine KGO ?_
  exact ⟨(i + 1, _), ⟨rfl, rfl, v_int (by simp), trivial⟩, ⟨J3, by dsimp only; omega, by rw [List.take_succ_eq_append_getElem hlt, List.map_append]; exact o3⟩, by dsimp only; omega⟩
 ·refine KGO ?_
  obtain rfl : i = lx.length := by omega
  rw [List.take_length] at ho
  exact ⟨_, rfl, by rw [List.take_length]; exact ho, hK⟩
theorem zlx {v : Value} (l : List Pst) (n : Int) (hv : RowP w v l) (hl : l.length ≤ 1000000000000) : Calls Tryz.prog 84 #[v, .int .i64 n] w fun e w' => ∃ v', e = .returned v' ∧ RowI w v' (ofP l n) ∧ Kp w w' n_ := by
 obtain ⟨lx, rfl, hv⟩ := hv
 obtain ⟨⟨a, ca, rfl, hra⟩, hpl, _, _⟩ := hv
 rw [List.length_map] at hl
 refine zaa (args := [.slice a lx.length ca, .int .i64 n]) Tryz.func84 rfl NL ?_; refine GW ?_
 refine Loop.intro (ι := Nat) (fun i => [(0, .slice a lx.length ca), (1, .int .i64 n), (5, .int .i64 (i : Nat))])
  (fun i wr => Kp w wr n_ ∧ i ≤ lx.length ∧ ofP (lx.map (·.p)) n = ofP ((lx.drop i).map (·.p)) n) (fun i => lx.length - i) 0 ⟨rfl, rfl, rfl, trivial⟩ ⟨Kp.refl _ _, Nat.zero_le _, rfl⟩ ?_
 rintro i gg wr ⟨hK, hi, ht⟩
 refine GW ?_
 by_cases hlt : i < lx.length
 ·obtain ⟨ga, oa, rfl, hga, hata⟩ := hra (by omega)
  rw [List.drop_eq_getElem_cons hlt, List.map_cons] at ht
  by_cases he : lx[i].p.doc = n
  ·refine KGO ?_
   refine ⟨_, rfl, ?_, hK⟩
   rw [ht]
   unfold ofP
   rw [List.find?_cons, decide_eq_true he]
   exact hpl _ (List.getElem_mem hlt)
  ·refine KGO ?_
   refine ⟨i + 1, ⟨rfl, rfl, v_int (by simp), trivial⟩, ⟨hK, by omega, ?_⟩, by dsimp only; omega⟩
   rw [ht]
   unfold ofP
   rw [List.find?_cons, decide_eq_false he]
 ·refine KGO ?_
  rw [List.drop_eq_nil_of_le (by omega)] at ht
  refine ⟨_, rfl, ?_, hK⟩
  rw [ht]
  exact ⟨none, 0, rfl, fun h => by cases h⟩
theorem zbN {va vb : Value} (la lb : List Int) (ha : RowI w va la) (hb : RowI w vb lb) (hl : la.length ≤ 10000000) (hl2 : lb.length ≤ 10000000) :
  Calls Tryz.prog 40 #[va, vb] w fun e w' => ∃ v, e = .returned v ∧ OwnI w' w.heap.size v (lb.foldl withL la) ∧ Kp w w' n_ := by
 obtain ⟨a, ca, rfl, hra⟩ := ha
 obtain ⟨b, cb, rfl, hrb⟩ := hb
 refine zaa (args := [.slice a la.length ca, .slice b lb.length cb]) Tryz.func40 rfl NL ?_; refine GW ?_
 refine RunV.of (bs0I _) ?_
 have on := zpl 3 inC 1 (by decide) w
 have k1 : Kp w (w.alloc (.cells #[] 3)) n_ := (Kp.refl _ _).alloc _
 have hz1 : (w.alloc (.cells #[] 3)).heap.size = w.heap.size + 1 := by simp
 generalize w.alloc (.cells #[] 3) = w1 at *
 refine KGO ?_
 refine tyI.app la on (by omega) rfl (fun h => ?_) (by simp; omega) (by simp; omega) fun v2 w2 o2 k2 => ?_
 ·obtain ⟨g, o, e, _, hat⟩ := hra h
  exact ⟨g, o, e, zam hat k1⟩
 rw [List.nil_append] at o2
 have K2 := zaz on k2 k1 (Nat.le_refl _)
 obtain ⟨a2, c2, rfl⟩ := zab o2
 refine KGO ?_
 refine Loop.intro (ι := Nat × Value) (fun i => [(1, .slice b lb.length cb), (5, i.2), (6, .int .i64 (i.1 : Nat))])
  (fun i wr => Kp w wr n_ ∧ i.1 ≤ lb.length ∧ OwnI wr w.heap.size i.2 ((lb.take i.1).foldl withL la)) (fun i => lb.length - i.1) (0, _) ⟨rfl, rfl, rfl, trivial⟩ ⟨K2, Nat.zero_le _, o2⟩ ?_
 rintro ⟨i, vo⟩ gg wr ⟨hK, hi, ho⟩
 dsimp only at hi ho ⊢
 have hlen := zbI (lb.take i) la
 rw [List.length_take] at hlen
 obtain ⟨ao, co, rfl⟩ := zab ho
 have hzr := hK.size
 refine GW ?_
 by_cases hlt : i < lb.length
 ·obtain ⟨ga, oa, rfl, hga, hata⟩ := hrb (by omega)
  have cc := zaX hata hlt
  refine KGO ?_
  refine CallS.of (Tryz.call81 _ _) (zlo (w := wr) _ lb[i] (zaS ho) (by omega)) ?_
  rintro e w3 ⟨v3, rfl, o3, k3⟩
  obtain ⟨a3, c3, rfl⟩ := zab o3
  refine RT ?_
  refine KGO ?_
  exact ⟨(i + 1, _), ⟨rfl, rfl, v_int (by simp), trivial⟩, ⟨hK.trans0 k3, by dsimp only; omega, by rw [List.take_succ_eq_append_getElem hlt, List.foldl_append]; exact zar o3 hzr⟩, by dsimp only; omega⟩
 ·refine KGO ?_
  rw [List.take_of_length_le (by omega)] at ho ⊢
  exact ⟨_, rfl, ho, hK⟩
end
end Go.Proofs.YtcdpocffoapbeaaGreatDoor
namespace Go.Proofs.YtcdpocffoapbeaaGreatDoor
set_option linter.unusedVariables false
set_option maxHeartbeats 8000000
open Go.Shelf Go.RowKit Go.Pw Go.Vc Go.Cs Go.Lib Go.Cd
set_option linter.unusedVariables false
set_option maxRecDepth 100000
section
variable {w : World} {b : Nat}
theorem zeF (s : St) (h : VarK w b 177 (rdC s)) : Calls Tryz.prog 155 #[.pointer (some ⟨b, 0, none⟩)] w fun e w' => e = .returned (.tuple #[]) ∧ VarK w' b 177 (rdC none) ∧ Kp w w' (one_ b) := by
 obtain ⟨x, y, hc⟩ : ∃ x y, rdC s = [x, y] := by cases s <;> exact ⟨_, _, rfl⟩
 rw [hc] at h
 refine zaa (args := [.pointer (some ⟨b, 0, none⟩)]) Tryz.func155 rfl NL ?_; refine GW ?_
 refine KGO ?_
 refine Store.cellK (i := 0) h (by simp) (by rfl) ⟨rfl, by simp, by simp⟩ fun w1 v1 k1 => ?_
 refine GW ?_
 refine Store.cellK (i := 1) v1 (by simp) (by rfl) ⟨rfl, by simp, by simp⟩ fun w2 v2 k2 => ?_
 refine GW ?_
 exact ⟨rfl, v2, k1.trans' k2⟩
theorem zhQ {u : List UInt8} {i : Nat} (h9 : 9 ≤ i) (hi : i ≤ u.length) (hb : ∀ c ∈ u.take i, 128 ≤ c.toNat) : numD 9 false u = none := by
 have h := zdu (u.take 9) 9 false (u.drop 9) (fun c hc => hb c (by
  have : u.take 9 = (u.take i).take 9 := by rw [List.take_take, Nat.min_eq_left h9]
  rw [this] at hc; exact List.mem_of_mem_take hc)) (by rw [List.length_take]; omega)
 rw [List.take_append_drop, List.length_take, Nat.min_eq_left (by omega)] at h
 rw [h]; rfl
theorem zok {u : List UInt8} {i : Nat} (h9 : i ≤ 8) (hlt : i < u.length) (hb : ∀ c ∈ u.take i, 128 ≤ c.toNat) (hn : u[i].toNat < 128) :
  numD 9 false u = if 0 < i ∧ u[i].toNat = 0 then none else some (valL (u.take (i + 1)), u.drop (i + 1)) := by
 have hpre := zdu (u.take i) 9 false (u.drop i) hb (by rw [List.length_take]; omega)
 rw [List.take_append_drop, List.length_take, Nat.min_eq_left (by omega)] at hpre
 rw [hpre, List.drop_eq_getElem_cons hlt]
 obtain ⟨k, hk⟩ : ∃ k, 9 - i = k + 1 := ⟨8 - i, by omega⟩
 rw [hk]
 simp only [numD, if_neg (show ¬ 128 ≤ u[i].toNat by omega), Bool.false_or, decide_eq_true_eq]
 split
 ·rfl
 ·simp only [Option.map_some]
  have hva := zgU u[i] (u.take i)
  rw [← List.take_succ_eq_append_getElem hlt, List.length_take, Nat.min_eq_left (by omega)] at hva
  congr 2
  rw [hva, Nat.mod_eq_of_lt hn, Nat.mul_comm]
theorem zkL {u : List UInt8} (hb : ∀ c ∈ u, 128 ≤ c.toNat) : numD 9 false u = none := by
 by_cases h9 : 9 ≤ u.length
 ·exact zhQ h9 (Nat.le_refl _) (by rw [List.take_length]; exact hb)
 ·have hpre := zdu u 9 false [] hb (by omega)
  rw [List.append_nil] at hpre
  rw [hpre]
  obtain ⟨k, hk⟩ : ∃ k, 9 - u.length = k + 1 := ⟨8 - u.length, by omega⟩
  rw [hk]; rfl
theorem zhJ {d : List UInt8} {k : Nat} (h : k < d.length) : valL (d.drop k) = d[k].toNat % 128 + 128 * valL (d.drop (k + 1)) := by
 rw [List.drop_eq_getElem_cons h]; rfl
theorem and127f : ∀ q : Fin 256, IntKind.i64.wrap (IntKind.u8.wrap ↑(BitVec.ofInt IntKind.u8.bits ((q.val : Nat) : Int) &&& BitVec.ofInt IntKind.u8.bits 127).toNat) = ((q.val % 128 : Nat) : Int) := by decide +kernel
theorem and127 {q : Nat} (h : q < 256) : IntKind.i64.wrap (IntKind.u8.wrap ↑(BitVec.ofInt IntKind.u8.bits (q : Int) &&& BitVec.ofInt IntKind.u8.bits 127).toNat) = ((q % 128 : Nat) : Int) := and127f ⟨q, h⟩
theorem zdB (s : St) (h : VarK w b 177 (rdC s)) (hs : ∀ u, s = some u → u.length ≤ 140737488355328) :
  Calls Tryz.prog 121 #[.pointer (some ⟨b, 0, none⟩)] w fun e w' => e = .returned (.int .i64 ((numR s).1 : Nat)) ∧ VarK w' b 177 (rdC (numR s).2) ∧ Kp w w' (one_ b) := by
 obtain ⟨u, x, hc, hr, hux⟩ : ∃ u x, rdC s = [.string (str u), .bool x] ∧ (numR s = match numD 9 false u with | none => (0, none) | some (n, r) => (n, some r)) ∧ (s = none ∧ u = [] ∨ s = some u ∧ x = false) := by
  cases s with
  | none => exact ⟨[], true, rfl, rfl, .inl ⟨rfl, rfl⟩⟩
  | some u => exact ⟨u, false, rfl, rfl, .inr ⟨rfl, rfl⟩⟩
 have hul : u.length ≤ 140737488355328 := by
  rcases hux with ⟨_, rfl⟩ | ⟨e, _⟩
  ·simp
  ·exact hs u e
 rw [hr]
 have h0 := h
 rw [hc] at h
 have ha := h.at
 have hsz : (str u).size = u.length := rfl
 have hby : ∀ i (hi : i < u.length), (byteAt (str u) i).toNat = u[i].toNat := fun i hi => by unfold byteAt; simp [str, hi]
 refine zaa (args := [.pointer (some ⟨b, 0, none⟩)]) Tryz.func121 rfl NL ?_; refine GW ?_
 refine Loop.intro (ι := Nat) (fun i => [(0, .pointer (some ⟨b, 0, none⟩)), (3, .int .i64 (i : Nat))])
  (fun i wr => Kp w wr n_ ∧ i ≤ u.length ∧ ∀ c ∈ u.take i, 128 ≤ c.toNat) (fun i => u.length - i) 0 ⟨rfl, rfl, trivial⟩ ⟨Kp.refl _ _, by omega, by simp⟩ ?_
 rintro i g wr ⟨hK, hi, hb⟩
 refine GW ?_
 by_cases hlt : i < u.length
 ·have hbi := hby i hlt
  obtain ⟨c, hcu⟩ : ∃ c, u[i] = c := ⟨_, rfl⟩
  have hcl := c.toNat_lt
  rw [hcu] at hbi
  by_cases hbig : 128 ≤ c.toNat
  ·refine KGO ?_
   exact ⟨i + 1, ⟨rfl, rfl, trivial⟩, ⟨hK, by omega, by
    rw [List.take_succ_eq_append_getElem hlt]
    intro c' hc'
    rcases List.mem_append.1 hc' with h' | h'
    ·exact hb c' h'
    ·rw [List.mem_singleton.1 h', hcu]; exact hbig⟩, by dsimp only; omega⟩
  ·by_cases h8 : 8 < i
   ·have hend := zhQ (u := u) (i := i) (by omega) hi hb
    refine KGO ?_
    refine CallS.of (Tryz.call155 _ _) (zeF s (h0.keep0 hK)) ?_
    rintro e w2 ⟨rfl, v2, k2⟩
    refine RT ?_
    rw [hend]
    exact ⟨rfl, v2, (hK.of_none (c := one_ b)).trans' k2⟩
   have hend := zok (by omega) hlt hb (by rw [hcu]; omega)
   rw [hcu] at hend
   by_cases hz : 0 < i ∧ c.toNat = 0
   ·rw [if_pos hz] at hend
    obtain ⟨hz1, hz2⟩ := hz
    refine KGO ?_
    refine CallS.of (Tryz.call155 _ _) (zeF s (h0.keep0 hK)) ?_
    rintro e w2 ⟨rfl, v2, k2⟩
    refine RT ?_
    rw [hend]
    exact ⟨rfl, v2, (hK.of_none (c := one_ b)).trans' k2⟩
   rw [if_neg hz] at hend
   have hd : (u.take (i + 1)).length = i + 1 := by rw [List.length_take]; omega
   obtain ⟨d, hde⟩ : ∃ d, u.take (i + 1) = d := ⟨_, rfl⟩
   have hdg : ∀ k (hk : k < d.length), u[k]'(by rw [← hde, List.length_take] at hk; omega) = d[k] := fun k hk => by subst hde; simp
   rw [hde] at hd hend
   by_cases hi0 : 0 < i
   ·have hc0 : ¬ c.toNat = 0 := fun e => hz ⟨hi0, e⟩
    refine KGO ?_
    refine Loop.intro (ι := Nat) (fun k => [(0, .pointer (some ⟨b, 0, none⟩)), (3, .int .i64 (i : Nat)), (4, .int .i64 (valL (d.drop k) : Nat)), (5, .int .i64 ((k : Int) - 1))])
     (fun k wr => Kp w wr n_ ∧ k ≤ i + 1) (fun k => k) (i + 1) ⟨rfl, rfl, v_int (by rw [List.drop_of_length_le (by omega)]; rfl), v_int (by omega), trivial⟩ ⟨hK, Nat.le_refl _⟩ ?_
    rintro k g wr ⟨hK, hk⟩
    refine GW ?_
    have hv8 := zgG (d.drop k)
    rw [List.length_drop] at hv8
    by_cases hk0 : 0 < k
    ·have hle8 : 128 ^ (d.length - k) ≤ 128 ^ 8 := Nat.pow_le_pow_right (by decide) (by omega)
     have hstep := zhJ (d := d) (k := k - 1) (by omega)
     rw [show k - 1 + 1 = k by omega] at hstep
     have hkl : k - 1 < u.length := by omega
     have hbk := hby (k - 1) hkl
     rw [hdg (k - 1) (by omega)] at hbk
     obtain ⟨e, he⟩ : ∃ e, d[k - 1]'(by omega) = e := ⟨_, rfl⟩
     rw [he] at hbk hstep
     have hel := e.toNat_lt
     obtain ⟨v, hv⟩ : ∃ v, valL (d.drop k) = v := ⟨_, rfl⟩
     rw [hv] at hv8 hstep ⊢
     have hv72 : v < 72057594037927936 := by omega
     have hidx : ((k : Int) - 1) = ((k - 1 : Nat) : Int) := by omega
     rw [hidx]
     refine KGO ?_
     rw [hbk, and127 (by omega)]
     refine KGO ?_
     exact ⟨k - 1, ⟨rfl, rfl, v_int (by rw [hstep]; omega), rfl, trivial⟩, ⟨hK, by omega⟩, by dsimp only; omega⟩
    ·have hk0 : k = 0 := by omega
     subst hk0
     refine KGO ?_
     refine Cut.fromI (l := ((i : Nat) : Int) + 1) (by omega) (by omega) (by omega) ?_
     refine GW ?_
     refine Store.cellK (i := 0) (h.keep0 hK) (by simp) (by rfl) ⟨rfl, by simp, by simp⟩ fun w2 v2 k2 => ?_
     refine KGO ?_
     rw [hend]
     refine ⟨rfl, ?_, (hK.of_none (c := one_ b)).trans' k2⟩
     have e2 : (str u).extract ((i : Int) + 1).toNat (str u).size = str (u.drop (i + 1)) := by rw [hsz, show ((i : Int) + 1).toNat = i + 1 by omega]; exact zbn u _
     show VarK w2 b 177 [.string (str (u.drop (i + 1))), .bool false]
     rw [← e2]
     rcases hux with ⟨_, hu⟩ | ⟨_, hx0⟩
     ·rw [hu] at hlt; simp at hlt
     ·rw [hx0] at v2; exact v2
   ·refine KGO ?_
    refine Loop.intro (ι := Nat) (fun k => [(0, .pointer (some ⟨b, 0, none⟩)), (3, .int .i64 (i : Nat)), (4, .int .i64 (valL (d.drop k) : Nat)), (5, .int .i64 ((k : Int) - 1))])
     (fun k wr => Kp w wr n_ ∧ k ≤ i + 1) (fun k => k) (i + 1) ⟨rfl, rfl, v_int (by rw [List.drop_of_length_le (by omega)]; rfl), v_int (by omega), trivial⟩ ⟨hK, Nat.le_refl _⟩ ?_
    rintro k g wr ⟨hK, hk⟩
    refine GW ?_
    have hv8 := zgG (d.drop k)
    rw [List.length_drop] at hv8
    by_cases hk0 : 0 < k
    ·have hle8 : 128 ^ (d.length - k) ≤ 128 ^ 8 := Nat.pow_le_pow_right (by decide) (by omega)
     have hstep := zhJ (d := d) (k := k - 1) (by omega)
     rw [show k - 1 + 1 = k by omega] at hstep
     have hkl : k - 1 < u.length := by omega
     have hbk := hby (k - 1) hkl
     rw [hdg (k - 1) (by omega)] at hbk
     obtain ⟨e, he⟩ : ∃ e, d[k - 1]'(by omega) = e := ⟨_, rfl⟩
     rw [he] at hbk hstep
     have hel := e.toNat_lt
     obtain ⟨v, hv⟩ : ∃ v, valL (d.drop k) = v := ⟨_, rfl⟩
     rw [hv] at hv8 hstep ⊢
     have hv72 : v < 72057594037927936 := by omega
     have hidx : ((k : Int) - 1) = ((k - 1 : Nat) : Int) := by omega
     rw [hidx]
     refine KGO ?_
     rw [hbk, and127 (by omega)]
     refine KGO ?_
     exact ⟨k - 1, ⟨rfl, rfl, v_int (by rw [hstep]; omega), rfl, trivial⟩, ⟨hK, by omega⟩, by dsimp only; omega⟩
    ·have hk0 : k = 0 := by omega
     subst hk0
     refine KGO ?_
     refine Cut.fromI (l := ((i : Nat) : Int) + 1) (by omega) (by omega) (by omega) ?_
     refine GW ?_
     refine Store.cellK (i := 0) (h.keep0 hK) (by simp) (by rfl) ⟨rfl, by simp, by simp⟩ fun w2 v2 k2 => ?_
     refine KGO ?_
     rw [hend]
     refine ⟨rfl, ?_, (hK.of_none (c := one_ b)).trans' k2⟩
     have e2 : (str u).extract ((i : Int) + 1).toNat (str u).size = str (u.drop (i + 1)) := by rw [hsz, show ((i : Int) + 1).toNat = i + 1 by omega]; exact zbn u _
     show VarK w2 b 177 [.string (str (u.drop (i + 1))), .bool false]
     rw [← e2]
     rcases hux with ⟨_, hu⟩ | ⟨_, hx0⟩
     ·rw [hu] at hlt; simp at hlt
     ·rw [hx0] at v2; exact v2
 ·have hii : i = u.length := by omega
  rw [hii, List.take_length] at hb
  have hend := zkL hb
  refine KGO ?_
  refine CallS.of (Tryz.call155 _ _) (zeF s (h0.keep0 hK)) ?_
  rintro e w2 ⟨rfl, v2, k2⟩
  refine RT ?_
  rw [hend]
  exact ⟨rfl, v2, (hK.of_none (c := one_ b)).trans' k2⟩
end
end Go.Proofs.YtcdpocffoapbeaaGreatDoor
