/- Helper text of this claim: lemmas and contracts that the proved statement rests on; no conditions of its own. -/
import Derived.Test.YtcdpocffoapbeaaGreatDoorGCd6
namespace Go.Proofs.YtcdpocffoapbeaaGreatDoor
set_option linter.unusedVariables false
set_option maxHeartbeats 4000000
open Go.Shelf Go.RowKit Go.Pw Go.Vc Go.Cs Go.Lib Go.Cd Go.Mg
set_option linter.unusedVariables false
set_option maxRecDepth 100000
def orF (a b : List Pst) : List Pst := ((b.map (·.doc)).foldl withL (a.map (·.doc))).map fun d => ⟨d, (ofP b d).foldl withL (ofP a d)⟩
theorem zmU {l : List Pst} {n : Int} {c : Nat} (h : ∀ p ∈ l, p.places.length ≤ c) : (ofP l n).length ≤ c := by
 unfold ofP
 cases hf : l.find? fun p => decide (p.doc = n) with
 | none => exact Nat.zero_le _
 | some p => exact h p (List.mem_of_find?_eq_some hf)
theorem znz (d : Int) (a : Option Addr) (n c : Nat) (w : World) : (Instr.build 50 #[(0, .int .i64 d), (1, .slice a n c)]).run Tryz.prog w = .ok (.agg #[.int .i64 d, .slice a n c]) w := by
 simp [Instr.build, Instr.fill, go_sem, Tryz.runUnderlying50]
section
variable {w : World}
theorem zgH {va vb : Value} (la lb : List Pst) (ha : RowP w va la) (hb : RowP w vb lb) (hl : la.length ≤ 10000000) (hl2 : lb.length ≤ 10000000) (hp1 : ∀ p ∈ la, p.places.length ≤ 10000000) (hp2 : ∀ p ∈ lb, p.places.length ≤ 10000000) :
  Calls Tryz.prog 42 #[va, vb] w fun e w' => ∃ v, e = .returned v ∧ OwnP w' w.heap.size v (orF la lb) ∧ Kp w w' n_ := by
 have ha0 := ha
 have hb0 := hb
 obtain ⟨aa, ca, rfl⟩ := ha.shape
 obtain ⟨ab, cb, rfl⟩ := hb.shape
 obtain ⟨lx, hlx, hva⟩ := ha
 obtain ⟨ly, hly, hvb⟩ := hb
 have hl3 : lx.length = la.length := by rw [← hlx, List.length_map]
 have hl4 : ly.length = lb.length := by rw [← hly, List.length_map]
 refine zaa (args := [.slice aa la.length ca, .slice ab lb.length cb]) Tryz.func42 rfl NL ?_; refine GW ?_
 refine CallS.of (Tryz.call83 _ _) (zio (w := w) lx hva (by omega)) ?_
 rintro e w1 ⟨v1, rfl, o1, k1⟩
 obtain ⟨a1, c1, rfl⟩ := zab o1
 refine RT ?_
 refine KGO ?_
 refine CallS.of (Tryz.call83 _ _) (zio (w := w1) ly (hvb.keep k1) (by omega)) ?_
 rintro e w2 ⟨v2, rfl, o2, k2⟩
 obtain ⟨a2, c2, rfl⟩ := zab o2
 have K2 := k1.trans0 k2
 refine RT ?_
 refine KGO ?_
 refine CallS.of (Tryz.call40 _ _) (zbN (w := w2) (lx.map (·.p.doc)) (ly.map (·.p.doc)) (zaS (zac o1 k2)) (zaS o2) (by rw [List.length_map]; omega) (by rw [List.length_map]; omega)) ?_
 rintro e w3 ⟨v3, rfl, o3, k3⟩
 have hdl := zbI (ly.map (·.p.doc)) (lx.map (·.p.doc))
 rw [List.length_map, List.length_map] at hdl
 have hDD : orF la lb = ((ly.map (·.p.doc)).foldl withL (lx.map (·.p.doc))).map fun d => ⟨d, (ofP lb d).foldl withL (ofP la d)⟩ := by
  unfold orF; rw [← hlx, ← hly, List.map_map, List.map_map]; rfl
 rw [hDD]
 generalize (ly.map (·.p.doc)).foldl withL (lx.map (·.p.doc)) = DD at *
 obtain ⟨a3, c3, rfl⟩ := zab o3
 have K3 := K2.trans0 k3
 refine RT ?_
 refine KGO ?_
 obtain ⟨a3', c3', e3, hr3⟩ := (zaS o3 : RowI w3 _ DD)
 injection e3 with e31 e32 e33
 subst e31; subst e33
 refine Loop.intro (ι := Nat × Value × List Pr) (fun i => [(0, .slice aa la.length ca), (1, .slice ab lb.length cb), (5, .slice a3 DD.length c3), (6, i.2.1), (7, .int .i64 (i.1 : Nat))])
  (fun i wr => Kp w3 wr n_ ∧ i.1 ≤ DD.length ∧ OwP wr w3.heap.size i.2.1 i.2.2 ∧ i.2.2.map (·.p) = (DD.take i.1).map fun d => ⟨d, (ofP lb d).foldl withL (ofP la d)⟩) (fun i => DD.length - i.1) (0, .slice none 0 0, []) ⟨rfl, rfl, rfl, rfl, rfl, trivial⟩ ⟨Kp.refl _ _, Nat.zero_le _, ⟨World.ownsRow_nil _ _ _ _, fun x h => by cases h⟩, rfl⟩ ?_
 rintro ⟨i, vo, lo⟩ gg wr ⟨hK, hi, ho, hm⟩
 dsimp only at hi ho hm ⊢
 obtain ⟨ao, co, rfl⟩ := zab ho.row
 have hll := congrArg List.length hm
 rw [List.length_map, List.length_map, List.length_take, Nat.min_eq_left hi] at hll
 have hzr := hK.size
 have hz3 := K3.size
 refine GW ?_
 by_cases hlt : i < DD.length
 rotate_left
 ·refine KGO ?_
  rw [List.take_of_length_le (by omega)] at hm
  exact ⟨_, rfl, ⟨lo, hm, ho.base hz3⟩, K3.trans0 hK⟩
 obtain ⟨ga, oa, rfl, hga, hata⟩ := hr3 (by omega)
 have cc := zaX hata hlt
 have Kw := K3.trans0 hK
 have ccr : ∀ u, Kp wr u (own_ (.slice ao lo.length co)) → u.cell? ⟨ga, oa + i, none⟩ = some (.int .i64 DD[i]) := fun u hu =>
  (hu.cell (show ga < wr.heap.size by omega) (show ¬ own_ (.slice ao lo.length co) ga from fun e => by obtain ⟨_, _, _, hBq, _⟩ := zak ho.row e; omega)).trans (zav cc hK)
 have hk0 := (Kp.refl wr n_).drew
 have hq1 : ∀ q, own_ (.slice ao lo.length co) q → w3.heap.size ≤ q := fun q e => by obtain ⟨_, _, _, hBq, _⟩ := zak ho.row e; exact hBq
 refine KGO ?_
 refine Draw.held (fun u => Kp wr u (own_ (.slice ao lo.length co))) (fun _ => true) (by decide +kernel) hk0.of_none ?_
 refine KGO ?_
 refine Held.one (by rfl) ccr ?_
 refine KGO ?_
 refine Held.one (by rfl) ccr ?_
 refine KGO ?_
 refine CallS.of (Tryz.call84 _ _) (zlx (w := wr.drew) la DD[i] (ha0.keep (Kw.trans0 hk0)) (by omega)) ?_
 rintro e w4 ⟨v4, rfl, r4, k4⟩
 have J4 := hk0.trans0 k4
 obtain ⟨a4, c4, rfl, h4⟩ := id r4
 refine RT ?_
 refine ⟨J4.of_none, ?_⟩
 refine KGO ?_
 refine Held.one (by rfl) ccr ?_
 refine KGO ?_
 refine CallS.of (Tryz.call84 _ _) (zlx (w := w4) lb DD[i] (hb0.keep (Kw.trans0 J4)) (by omega)) ?_
 rintro e w5 ⟨v5, rfl, r5, k5⟩
 have J5 := J4.trans0 k5
 obtain ⟨a5, c5, rfl, h5⟩ := id r5
 refine RT ?_
 refine ⟨J5.of_none, ?_⟩
 refine KGO ?_
 have hp3 := zmU (n := DD[i]) hp1
 have hp4 := zmU (n := DD[i]) hp2
 refine CallS.of (Tryz.call40 _ _) (zbN (w := w5) _ _ ((r4.keep k4).keep k5) (r5.keep k5) (by omega) (by omega)) ?_
 rintro e w6 ⟨v6, rfl, o6, k6⟩
 have J6 := J5.trans0 k6
 obtain ⟨a6, c6, rfl⟩ := zab o6
 refine RT ?_
 refine ⟨J6.of_none, ?_⟩
 refine KGO ?_
 refine RunV.of (znz _ _ _ _ _) ?_
 generalize hU : (ofP lb DD[i]).foldl withL (ofP la DD[i]) = U at *
 have hUl : U.length ≤ 20000000 := by have := zbI (ofP lb DD[i]) (ofP la DD[i]); rw [hU] at this; omega
 refine KGO ?_
 refine RunV.of (bs1P ⟨⟨DD[i], U⟩, ⟨a6, U.length, c6⟩⟩ _) ?_
 obtain ⟨a_b7, v_b7, k_w7, z_w7, r_w7⟩ := new5 w6 50 (prC ⟨⟨DD[i], U⟩, ⟨a6, U.length, c6⟩⟩)
 generalize w6.alloc (.cells (List.toArray (prC ⟨⟨DD[i], U⟩, ⟨a6, U.length, c6⟩⟩)) 50) = w7 at *
 generalize hs_b7 : w6.heap.size = b7 at *
 have J7 := J6.trans0 k_w7
 have o7 := zac o6 k_w7
 have ho7 := ho.keep J7
 have z7 := J7.size
 have z6 := J6.size
 have z5 := J5.size
 refine ⟨J7.of_none, ?_⟩
 refine KGO ?_
 refine tyP.app1 (⟨⟨DD[i], U⟩, ⟨a6, U.length, c6⟩⟩ : Pr) ho7.row (by omega) a_b7 (by omega) (by omega) fun v8 w8 o8 k8 => ?_
 have ho8 : OwP w8 w3.heap.size v8 (lo ++ [⟨⟨DD[i], U⟩, ⟨a6, U.length, c6⟩⟩]) := ⟨o8, fun y hy => by
  rcases List.mem_append.1 hy with hy | hy
  ·exact zad (D := [3]) (ho7.pl y hy) k8 (zaC ho7.row (by decide)) (by decide)
  ·rw [List.mem_singleton.1 hy]
   exact zar (zad (D := [3]) o7 k8 (zaC ho7.row (by decide)) (by decide)) (by omega)⟩
 obtain ⟨a8, c8, rfl⟩ := zab o8
 have J8 : Kp wr w8 (own_ (.slice ao lo.length co)) := (J7.of_none).trans' k8
 refine ⟨J8, ?_⟩
 refine KGO ?_
 have K8 : Kp w3 w8 n_ := hK.trans J8 fun q hq e => by have := hq1 q e; omega
 exact ⟨(i + 1, .slice a8 (lo ++ [(⟨⟨DD[i], U⟩, ⟨a6, U.length, c6⟩⟩ : Pr)]).length c8, lo ++ [⟨⟨DD[i], U⟩, ⟨a6, U.length, c6⟩⟩]), ⟨rfl, rfl, rfl, rfl, v_int (by simp), trivial⟩, ⟨K8, by dsimp only; omega, ho8, by
  dsimp only
  rw [List.map_append, hm, List.take_succ_eq_append_getElem hlt, List.map_append, ← hU]; rfl⟩, by dsimp only; omega⟩
end
section
variable {w : World}
theorem zgi (x y : Trm) : Calls Tryz.prog 82 #[.agg (tmC x).toArray, .agg (tmC y).toArray] w fun e w' => e = .returned (.bool (ltK x.key y.key)) ∧ Kp w w' n_ := by
 refine zaa (args := [.agg (tmC x).toArray, .agg (tmC y).toArray]) Tryz.func82 rfl NL ?_; refine GW ?_
 obtain ⟨a_b1, v_b1, k_w1, z_w1, r_w1⟩ := new5 w 56 (tmC x)
 generalize w.alloc (.cells (List.toArray (tmC x)) 56) = w1 at *
 generalize hs_b1 : w.heap.size = b1 at *
 obtain ⟨a_b2, v_b2, k_w2, z_w2, r_w2⟩ := new5 w1 56 (tmC y)
 generalize w1.alloc (.cells (List.toArray (tmC y)) 56) = w2 at *
 generalize hs_b2 : w1.heap.size = b2 at *
 have K2 : Kp w w2 n_ := k_w1.trans0 k_w2
 have a1 := zam a_b1 k_w2
 have r2 := Kp.refl w2 n_
 unfold tmC at a1 a_b2
 clear a_b1
 unfold ltK
 dsimp only
 by_cases h1 : x.field < y.field
 ·refine KGO ?_
  exact ⟨zai (by simp [h1]), K2⟩
 ·by_cases h2 : x.field = y.field
  ·refine KGO ?_
   exact ⟨zai (by rw [zjD]; simp [h2]), K2⟩
  ·refine KGO ?_
   exact ⟨zai (by simp [h1, h2]), K2⟩
theorem zhX {v : Value} (l : List Int) (hr : RowI w v l) (hl : l.length ≤ 1000000) : Calls Tryz.prog 11 #[v] w fun e w' => e = .returned (.tuple (match pickL l with | none => #[.int .i64 0, .int .i64 0, .bool false] | some i => #[.int .i64 (i : Nat), .int .i64 ((i + 1 : Nat) : Int), .bool true])) ∧ Kp w w' n_ := by
 obtain ⟨a, c, rfl, hra⟩ := hr
 refine zaa (args := [.slice a l.length c]) Tryz.func11 rfl NL ?_; refine GW ?_
 refine Loop.intro (ι := Nat × Int) (fun i => [(0, .slice a l.length c), (5, .int .i64 (bestI ((List.range i.1).foldl (stepPick l) none))), (6, .int .i64 i.2), (7, .int .i64 (i.1 : Nat))])
  (fun i wr => Kp w wr n_ ∧ i.1 ≤ l.length - 1 ∧ ∀ b, (List.range i.1).foldl (stepPick l) none = some b → i.2 = sz2 l b) (fun i => l.length - i.1) (0, 0) ⟨rfl, rfl, rfl, rfl, trivial⟩ ⟨Kp.refl _ _, Nat.zero_le _, fun b h => by cases h⟩ ?_
 rintro ⟨i, least⟩ gg wr ⟨hK, hi, hle⟩
 dsimp only at hi hle ⊢
 have q0 := Kp.refl wr n_
 have hstep : (List.range (i + 1)).foldl (stepPick l) none = stepPick l ((List.range i).foldl (stepPick l) none) i := by rw [List.range_succ, List.foldl_append]; rfl
 have hlo := ziT l i
 generalize hO : (List.range i).foldl (stepPick l) none = o at *
 refine GW ?_
 by_cases hlt : i + 1 < l.length
 rotate_left
 ·have hil : i = l.length - 1 := by omega
  have hpk : pickL l = o := by unfold pickL; rw [← hil]; exact hO
  rw [hpk]
  clear hra hO hle
  cases o with
  | none =>
   have e0 : bestI none = -1 := rfl
   clear hlo
   rw [e0]
   refine KGO ?_
   exact ⟨rfl, hK⟩
  | some b =>
   have e0 : bestI (some b) = (b : Nat) := rfl
   have hb := hlo b rfl
   clear hlo
   rw [e0]
   refine KGO ?_
   exact ⟨rfl, hK⟩
 have sr1 := zbZ (l.getD i 0)
 have sr2 := zbZ (l.getD (i + 1) 0)
 obtain ⟨ga, oa, rfl, hga, hata⟩ := hra (by omega)
 have c0 := zaX (zam hata hK) (show i < l.length by omega)
 have c1 := zaX (zam hata hK) hlt
 have g0 : l[i] = l.getD i 0 := by rw [List.getD_eq_getElem?_getD, List.getElem?_eq_getElem (by omega)]; rfl
 have g1 : l[i + 1] = l.getD (i + 1) 0 := by rw [List.getD_eq_getElem?_getD, List.getElem?_eq_getElem hlt]; rfl
 rw [g0] at c0
 rw [g1] at c1
 clear hra hO hata
 refine KGO ?_
 refine CallS.of (Tryz.call29 _ _) (zho (l.getD i 0)) ?_
 rintro e _ ⟨rfl, rfl⟩
 refine RT ?_
 refine KGO ?_
 refine CallS.of (Tryz.call29 _ _) (zho (l.getD (i + 1) 0)) ?_
 rintro e _ ⟨rfl, rfl⟩
 refine RT ?_
 by_cases h8 : l.length ≤ 8
 ·by_cases hs : szI (l.getD i 0) > 2 * szI (l.getD (i + 1) 0)
  ·refine KGO ?_
   exact ⟨(i + 1, least), ⟨rfl, by show _ = Value.int .i64 (bestI ((List.range (i + 1)).foldl (stepPick l) none)); rw [hstep]; unfold stepPick; rw [if_pos ⟨h8, hs⟩]; rfl, rfl, v_int (by simp), trivial⟩, ⟨hK, by omega, fun b hb => hle b (by
    have hb : (List.range (i + 1)).foldl (stepPick l) none = some b := hb
    rw [hstep] at hb; unfold stepPick at hb; rw [if_pos ⟨h8, hs⟩] at hb; exact hb)⟩, by dsimp only; omega⟩
  ·have hns : ¬(l.length ≤ 8 ∧ szI (l.getD i 0) > 2 * szI (l.getD (i + 1) 0)) := fun h => hs h.2
   cases o with
   | none =>
    have e0 : bestI none = -1 := rfl
    rw [e0]
    have hn : (List.range (i + 1)).foldl (stepPick l) none = some i := by rw [hstep]; unfold stepPick; rw [if_neg hns]
    refine KGO ?_
    exact ⟨(i + 1, szI (l.getD i 0) + szI (l.getD (i + 1) 0)), ⟨rfl, by show _ = Value.int .i64 (bestI ((List.range (i + 1)).foldl (stepPick l) none)); rw [hn]; rfl, rfl, v_int (by simp), trivial⟩, ⟨hK, by omega, fun b hb => by
     have hb : (List.range (i + 1)).foldl (stepPick l) none = some b := hb
     rw [hn] at hb; injection hb with hb; rw [← hb]; rfl⟩, by dsimp only; omega⟩
   | some b =>
    have e0 : bestI (some b) = (b : Nat) := rfl
    have hbi := hlo b rfl
    have hls := hle b rfl
    rw [e0]
    by_cases hlt2 : szI (l.getD i 0) + szI (l.getD (i + 1) 0) < least
    ·have hn : (List.range (i + 1)).foldl (stepPick l) none = some i := by
      rw [hstep]; unfold stepPick; rw [if_neg hns]; dsimp only; rw [if_pos (by rw [← hls]; exact hlt2)]
     refine KGO ?_
     exact ⟨(i + 1, szI (l.getD i 0) + szI (l.getD (i + 1) 0)), ⟨rfl, by show _ = Value.int .i64 (bestI ((List.range (i + 1)).foldl (stepPick l) none)); rw [hn]; rfl, rfl, v_int (by simp), trivial⟩, ⟨hK, by omega, fun b' hb => by
      have hb : (List.range (i + 1)).foldl (stepPick l) none = some b' := hb
      rw [hn] at hb; injection hb with hb; rw [← hb]; rfl⟩, by dsimp only; omega⟩
    ·have hn : (List.range (i + 1)).foldl (stepPick l) none = some b := by
      rw [hstep]; unfold stepPick; rw [if_neg hns]; dsimp only; rw [if_neg (by rw [← hls]; exact hlt2)]
     refine KGO ?_
     exact ⟨(i + 1, least), ⟨rfl, by show _ = Value.int .i64 (bestI ((List.range (i + 1)).foldl (stepPick l) none)); rw [hn]; rfl, rfl, v_int (by simp), trivial⟩, ⟨hK, by omega, fun b' hb => by
      have hb : (List.range (i + 1)).foldl (stepPick l) none = some b' := hb
      rw [hn] at hb; injection hb with hb; rw [← hb]; exact hls⟩, by dsimp only; omega⟩
 ·have hns : ¬(l.length ≤ 8 ∧ szI (l.getD i 0) > 2 * szI (l.getD (i + 1) 0)) := fun h => h8 h.1
  cases o with
  | none =>
   have e0 : bestI none = -1 := rfl
   rw [e0]
   have hn : (List.range (i + 1)).foldl (stepPick l) none = some i := by rw [hstep]; unfold stepPick; rw [if_neg hns]
   refine KGO ?_
   exact ⟨(i + 1, szI (l.getD i 0) + szI (l.getD (i + 1) 0)), ⟨rfl, by show _ = Value.int .i64 (bestI ((List.range (i + 1)).foldl (stepPick l) none)); rw [hn]; rfl, rfl, v_int (by simp), trivial⟩, ⟨hK, by omega, fun b hb => by
    have hb : (List.range (i + 1)).foldl (stepPick l) none = some b := hb
    rw [hn] at hb; injection hb with hb; rw [← hb]; rfl⟩, by dsimp only; omega⟩
  | some b =>
   have e0 : bestI (some b) = (b : Nat) := rfl
   have hbi := hlo b rfl
   have hls := hle b rfl
   rw [e0]
   by_cases hlt2 : szI (l.getD i 0) + szI (l.getD (i + 1) 0) < least
   ·have hn : (List.range (i + 1)).foldl (stepPick l) none = some i := by
     rw [hstep]; unfold stepPick; rw [if_neg hns]; dsimp only; rw [if_pos (by rw [← hls]; exact hlt2)]
    refine KGO ?_
    exact ⟨(i + 1, szI (l.getD i 0) + szI (l.getD (i + 1) 0)), ⟨rfl, by show _ = Value.int .i64 (bestI ((List.range (i + 1)).foldl (stepPick l) none)); rw [hn]; rfl, rfl, v_int (by simp), trivial⟩, ⟨hK, by omega, fun b' hb => by
     have hb : (List.range (i + 1)).foldl (stepPick l) none = some b' := hb
     rw [hn] at hb; injection hb with hb; rw [← hb]; rfl⟩, by dsimp only; omega⟩
   ·have hn : (List.range (i + 1)).foldl (stepPick l) none = some b := by
     rw [hstep]; unfold stepPick; rw [if_neg hns]; dsimp only; rw [if_neg (by rw [← hls]; exact hlt2)]
    refine KGO ?_
    exact ⟨(i + 1, least), ⟨rfl, by show _ = Value.int .i64 (bestI ((List.range (i + 1)).foldl (stepPick l) none)); rw [hn]; rfl, rfl, v_int (by simp), trivial⟩, ⟨hK, by omega, fun b' hb => by
     have hb : (List.range (i + 1)).foldl (stepPick l) none = some b' := hb
     rw [hn] at hb; injection hb with hb; rw [← hb]; exact hls⟩, by dsimp only; omega⟩
end
section
end
section
variable {w : World}
theorem zcx {va vd : Value} (la : List Pst) (dead : List Int) (ha : RowP w va la) (hd : RowI w vd dead) (hl : la.length ≤ 10000000) (hl2 : dead.length ≤ 10000000) :
  Calls Tryz.prog 44 #[va, vd] w fun e w' => ∃ v, e = .returned v ∧ RowP w' v (liveP dead la) ∧ Kp w w' n_ := by
 obtain ⟨lx, rfl, ⟨⟨aa, ca, rfl, hra⟩, hpa, _, hpc⟩⟩ := ha
 have hd0 := hd
 obtain ⟨ad, cd, rfl, _⟩ := hd
 rw [List.length_map] at hl
 refine zaa (args := [.slice aa lx.length ca, .slice ad dead.length cd]) Tryz.func44 rfl NL ?_; refine GW ?_
 refine Loop.intro (ι := Nat × Value) (fun i => [(0, .slice aa lx.length ca), (1, .slice ad dead.length cd), (5, i.2), (6, .int .i64 (i.1 : Nat))])
  (fun i wr => Kp w wr n_ ∧ i.1 ≤ lx.length ∧ OwnR 50 prC 2 wr w.heap.size i.2 ((lx.take i.1).filter fun x => !decide (x.p.doc ∈ dead))) (fun i => lx.length - i.1) (0, .slice none 0 0) ⟨rfl, rfl, rfl, rfl, trivial⟩ ⟨Kp.refl _ _, Nat.zero_le _, World.ownsRow_nil _ _ _ _⟩ ?_
 rintro ⟨i, vo⟩ gg wr ⟨hK, hi, ho⟩
 dsimp only at hi ho ⊢
 have hfl : ((lx.take i).filter fun x => !decide (x.p.doc ∈ dead)).length ≤ i := Nat.le_trans (List.length_filter_le _ _) (by rw [List.length_take]; exact Nat.min_le_left _ _)
 obtain ⟨ao, co, rfl⟩ := zab ho
 have hzr := hK.size
 refine GW ?_
 by_cases hlt : i < lx.length
 rotate_left
 ·refine KGO ?_
  rw [List.take_of_length_le (by omega)] at ho ⊢
  refine ⟨_, rfl, ⟨_, ?_, ⟨zaS ho, fun x hx => (hpa x (List.mem_filter.1 hx).1).keep hK, zcA ho, fun x hx => hpc x (List.mem_filter.1 hx).1⟩⟩, hK⟩
  unfold liveP
  rw [List.filter_map]; rfl
 have hts : (lx.take (i + 1)).filter (fun x => !decide (x.p.doc ∈ dead)) = (lx.take i).filter (fun x => !decide (x.p.doc ∈ dead)) ++ if lx[i].p.doc ∈ dead then [] else [lx[i]] := by
  rw [List.take_succ_eq_append_getElem hlt, List.filter_append, List.filter_cons]
  by_cases h : lx[i].p.doc ∈ dead <;> simp [h]
 obtain ⟨ga, oa, rfl, hga, hata⟩ := hra (by omega)
 generalize (lx.take i).filter (fun x => !decide (x.p.doc ∈ dead)) = FL at *
 refine KGO ?_
 refine CallS.of (Tryz.call19 _ _) (zdy (w := wr) dead lx[i].p.doc (hd0.keep hK) (by omega)) ?_
 rintro e w3 ⟨rfl, k3⟩
 have K3 := hK.trans0 k3
 refine RT ?_
 by_cases hin : lx[i].p.doc ∈ dead
 ·rw [decide_eq_true hin]
  rw [if_pos hin, List.append_nil] at hts
  refine KGO ?_
  exact ⟨(i + 1, .slice ao FL.length co), ⟨rfl, rfl, rfl, v_int (by simp), trivial⟩, ⟨K3, by dsimp only; omega, by dsimp only; rw [hts]; exact zac ho k3⟩, by dsimp only; omega⟩
 ·rw [decide_eq_false hin]
  rw [if_neg hin] at hts
  refine KGO ?_
  refine RunV.of (bs1P lx[i] _) ?_
  have ho3 := zac ho k3
  obtain ⟨a_b4, v_b4, k_w4, z_w4, r_w4⟩ := new5 w3 50 (prC lx[i])
  generalize w3.alloc (.cells (List.toArray (prC lx[i])) 50) = w4 at *
  generalize hs_b4 : w3.heap.size = b4 at *
  have ho4 := zac ho3 k_w4
  have z3 := k3.size
  refine KGO ?_
  refine tyP.app1 lx[i] ho4 (by omega) a_b4 (by omega) (by omega) fun v5 w5 o5 k5 => ?_
  have K5 := zaz ho4 k5 (K3.trans0 k_w4) (Nat.le_refl _)
  obtain ⟨a5, c5, rfl⟩ := zab o5
  refine KGO ?_
  exact ⟨(i + 1, .slice a5 (FL ++ [lx[i]]).length c5), ⟨rfl, rfl, rfl, v_int (by simp), trivial⟩, ⟨K5, by dsimp only; omega, by dsimp only; rw [hts]; exact o5⟩, by dsimp only; omega⟩
end
def namesL : List Trm → List Trm → List Trm
 | [], [] => []
 | x :: a, [] => x :: namesL a []
 | [], y :: b => y :: namesL [] b
 | x :: a, y :: b => if ltK x.key y.key = true then x :: namesL a (y :: b) else if ltK y.key x.key = true then y :: namesL (x :: a) b else y :: namesL a b
termination_by a b => a.length + b.length
section
variable {w : World}
theorem zcT {va vb : Value} (la lb : List Trm) (ha : RowO w va tmC la) (hb : RowO w vb tmC lb) (hl : la.length ≤ 1000000000) (hl2 : lb.length ≤ 1000000000) :
  Calls Tryz.prog 41 #[va, vb] w fun e w' => ∃ v, e = .returned v ∧ OwnR 56 tmC 3 w' w.heap.size v (namesL la lb) ∧ Kp w w' n_ := by
 obtain ⟨aa, ca, rfl, hra⟩ := ha
 obtain ⟨ab, cb, rfl, hrb⟩ := hb
 refine zaa (args := [.slice aa la.length ca, .slice ab lb.length cb]) Tryz.func41 rfl NL ?_; refine GW ?_
 refine Loop.intro (ι := Nat × Nat × Value × List Trm) (fun i => [(0, .slice aa la.length ca), (1, .slice ab lb.length cb), (5, i.2.2.1), (6, .int .i64 (i.1 : Nat)), (7, .int .i64 (i.2.1 : Nat))])
  (fun i wr => Kp w wr n_ ∧ i.1 ≤ la.length ∧ i.2.1 ≤ lb.length ∧ OwnR 56 tmC 3 wr w.heap.size i.2.2.1 i.2.2.2 ∧ i.2.2.2.length ≤ i.1 + i.2.1 ∧ i.2.2.2 ++ namesL (la.drop i.1) (lb.drop i.2.1) = namesL la lb) (fun i => (la.length - i.1) + (lb.length - i.2.1)) (0, 0, .slice none 0 0, []) ⟨rfl, rfl, rfl, rfl, rfl, trivial⟩ ⟨Kp.refl _ _, Nat.zero_le _, Nat.zero_le _, World.ownsRow_nil _ _ _ _, Nat.zero_le _, rfl⟩ ?_
 rintro ⟨i, k, vo, out⟩ gg wr ⟨hK, hi, hk, ho, hol, hd⟩
 dsimp only at hi hk ho hol hd ⊢
 obtain ⟨ao, co, rfl⟩ := zab ho
 have z0 := hK.size
 refine GW ?_
 by_cases hli : i < la.length
 ·obtain ⟨ga, oa, rfl, hga, hata⟩ := hra (by omega)
  rw [List.drop_eq_getElem_cons hli] at hd
  clear hra
  by_cases hlk : k < lb.length
  ·obtain ⟨gb, ob, rfl, hgb, hatb⟩ := hrb (by omega)
   rw [List.drop_eq_getElem_cons hlk, namesL] at hd
   clear hrb
   refine KGO ?_
   have hKd := hK.drew
   refine CallS.of (Tryz.call82 _ _) (zgi (w := wr.drew) la[i] lb[k]) ?_
   rintro e w3 ⟨rfl, k3⟩
   have K3 := hKd.trans0 k3
   refine RT ?_
   by_cases h1 : ltK la[i].key lb[k].key = true
   ·rw [if_pos h1] at hd
    rw [h1]
    refine KGO ?_
    refine RunV.of (bs1Tm la[i] _) ?_
    have hoz := (zac (zac ho (Kp.refl wr n_).drew) k3)
    have hkz := K3
    have zz := hkz.size
    obtain ⟨a_b4, v_b4, k_w4, z_w4, r_w4⟩ := new5 w3 56 (tmC la[i])
    generalize w3.alloc (.cells (List.toArray (tmC la[i])) 56) = w4 at *
    generalize hs_b4 : w3.heap.size = b4 at *
    have ho4 := zac hoz k_w4
    refine KGO ?_
    refine tyTm.app1 la[i] ho4 (by omega) a_b4 (by omega) (by omega) fun v5 w5 o5 k5 => ?_
    have K5 := zaz ho4 k5 (hkz.trans0 k_w4) (Nat.le_refl _)
    obtain ⟨a5, c5, rfl⟩ := zab o5
    refine KGO ?_
    exact ⟨(i + 1, k, .slice a5 (out ++ [la[i]]).length c5, out ++ [la[i]]), ⟨rfl, rfl, rfl, v_int (by simp), rfl, trivial⟩, ⟨K5, (by first | omega | (dsimp only; omega)), (by first | omega | (dsimp only; omega)), o5, by simp; omega, by rw [List.append_assoc, List.drop_eq_getElem_cons hlk]; exact hd⟩, by dsimp only; omega⟩
   ·rw [if_neg h1] at hd
    rw [show ltK la[i].key lb[k].key = false by simpa using h1]
    refine KGO ?_
    have K3d := K3.drew
    refine CallS.of (Tryz.call82 _ _) (zgi (w := w3.drew) lb[k] la[i]) ?_
    rintro e w6 ⟨rfl, k6⟩
    have K6 := K3d.trans0 k6
    have ho6 := zac (zac (zac (zac ho (Kp.refl wr n_).drew) k3) (Kp.refl w3 n_).drew) k6
    refine RT ?_
    by_cases h2 : ltK lb[k].key la[i].key = true
    ·rw [if_pos h2] at hd
     rw [h2]
     refine KGO ?_
     refine RunV.of (bs1Tm lb[k] _) ?_
     have hoz := ho6
     have hkz := K6
     have zz := hkz.size
     obtain ⟨a_b4, v_b4, k_w4, z_w4, r_w4⟩ := new5 w6 56 (tmC lb[k])
     generalize w6.alloc (.cells (List.toArray (tmC lb[k])) 56) = w4 at *
     generalize hs_b4 : w6.heap.size = b4 at *
     have ho4 := zac hoz k_w4
     refine KGO ?_
     refine tyTm.app1 lb[k] ho4 (by omega) a_b4 (by omega) (by omega) fun v5 w5 o5 k5 => ?_
     have K5 := zaz ho4 k5 (hkz.trans0 k_w4) (Nat.le_refl _)
     obtain ⟨a5, c5, rfl⟩ := zab o5
     refine KGO ?_
     exact ⟨(i, k + 1, .slice a5 (out ++ [lb[k]]).length c5, out ++ [lb[k]]), ⟨rfl, rfl, rfl, rfl, v_int (by simp), trivial⟩, ⟨K5, (by first | omega | (dsimp only; omega)), (by first | omega | (dsimp only; omega)), o5, by simp; omega, by rw [List.append_assoc, List.drop_eq_getElem_cons hli]; exact hd⟩, by dsimp only; omega⟩
    ·rw [if_neg h2] at hd
     rw [show ltK lb[k].key la[i].key = false by simpa using h2]
     refine KGO ?_
     refine RunV.of (bs1Tm lb[k] _) ?_
     have hoz := ho6
     have hkz := K6
     have zz := hkz.size
     obtain ⟨a_b4, v_b4, k_w4, z_w4, r_w4⟩ := new5 w6 56 (tmC lb[k])
     generalize w6.alloc (.cells (List.toArray (tmC lb[k])) 56) = w4 at *
     generalize hs_b4 : w6.heap.size = b4 at *
     have ho4 := zac hoz k_w4
     refine KGO ?_
     refine tyTm.app1 lb[k] ho4 (by omega) a_b4 (by omega) (by omega) fun v5 w5 o5 k5 => ?_
     have K5 := zaz ho4 k5 (hkz.trans0 k_w4) (Nat.le_refl _)
     obtain ⟨a5, c5, rfl⟩ := zab o5
     refine KGO ?_
     exact ⟨(i + 1, k + 1, .slice a5 (out ++ [lb[k]]).length c5, out ++ [lb[k]]), ⟨rfl, rfl, rfl, v_int (by simp), v_int (by simp), trivial⟩, ⟨K5, (by first | omega | (dsimp only; omega)), (by first | omega | (dsimp only; omega)), o5, by simp; omega, by rw [List.append_assoc]; exact hd⟩, by dsimp only; omega⟩
  ·rw [List.drop_eq_nil_of_le (show lb.length ≤ k by omega), namesL] at hd
   refine KGO ?_
   have k0 := (Kp.refl wr n_).drew
   have hKd := hK.drew
   refine RunV.of (bs1Tm la[i] _) ?_
   have hoz := (zac ho k0)
   have hkz := hKd
   have zz := hkz.size
   obtain ⟨a_b4, v_b4, k_w4, z_w4, r_w4⟩ := new5 wr.drew 56 (tmC la[i])
   generalize wr.drew.alloc (.cells (List.toArray (tmC la[i])) 56) = w4 at *
   generalize hs_b4 : wr.drew.heap.size = b4 at *
   have ho4 := zac hoz k_w4
   refine KGO ?_
   refine tyTm.app1 la[i] ho4 (by omega) a_b4 (by omega) (by omega) fun v5 w5 o5 k5 => ?_
   have K5 := zaz ho4 k5 (hkz.trans0 k_w4) (Nat.le_refl _)
   obtain ⟨a5, c5, rfl⟩ := zab o5
   refine KGO ?_
   exact ⟨(i + 1, k, .slice a5 (out ++ [la[i]]).length c5, out ++ [la[i]]), ⟨rfl, rfl, rfl, v_int (by simp), rfl, trivial⟩, ⟨K5, (by first | omega | (dsimp only; omega)), (by first | omega | (dsimp only; omega)), o5, by simp; omega, by rw [List.append_assoc, List.drop_eq_nil_of_le (show lb.length ≤ k by omega)]; exact hd⟩, by dsimp only; omega⟩
 ·rw [List.drop_eq_nil_of_le (show la.length ≤ i by omega)] at hd
  by_cases hlk : k < lb.length
  ·obtain ⟨gb, ob, rfl, hgb, hatb⟩ := hrb (by omega)
   rw [List.drop_eq_getElem_cons hlk, namesL] at hd
   clear hrb hra
   have hKd := hK.drew
   refine KGO ?_
   refine RunV.of (bs1Tm lb[k] _) ?_
   have hoz := (zac (zac ho (Kp.refl wr n_).drew) (Kp.refl wr.drew n_).drew)
   have hkz := hKd.drew
   have zz := hkz.size
   obtain ⟨a_b4, v_b4, k_w4, z_w4, r_w4⟩ := new5 wr.drew.drew 56 (tmC lb[k])
   generalize wr.drew.drew.alloc (.cells (List.toArray (tmC lb[k])) 56) = w4 at *
   generalize hs_b4 : wr.drew.drew.heap.size = b4 at *
   have ho4 := zac hoz k_w4
   refine KGO ?_
   refine tyTm.app1 lb[k] ho4 (by omega) a_b4 (by omega) (by omega) fun v5 w5 o5 k5 => ?_
   have K5 := zaz ho4 k5 (hkz.trans0 k_w4) (Nat.le_refl _)
   obtain ⟨a5, c5, rfl⟩ := zab o5
   refine KGO ?_
   exact ⟨(i, k + 1, .slice a5 (out ++ [lb[k]]).length c5, out ++ [lb[k]]), ⟨rfl, rfl, rfl, rfl, v_int (by simp), trivial⟩, ⟨K5, (by first | omega | (dsimp only; omega)), (by first | omega | (dsimp only; omega)), o5, by simp; omega, by rw [List.append_assoc, List.drop_eq_nil_of_le (show la.length ≤ i by omega)]; exact hd⟩, by dsimp only; omega⟩
  ·rw [List.drop_eq_nil_of_le (show lb.length ≤ k by omega), namesL, List.append_nil] at hd
   refine KGO ?_
   subst hd
   exact ⟨_, rfl, ho, hK⟩
end
section
variable {w : World}
theorem zkB (x y : Trm) : Calls Tryz.prog 79 #[.agg (tmC x).toArray, .agg (tmC y).toArray] w fun e w' => e = .returned (.bool (ltK x.key y.key)) ∧ Kp w w' n_ := by
 refine zaa (args := [.agg (tmC x).toArray, .agg (tmC y).toArray]) Tryz.func79 rfl NL ?_; refine GW ?_
 obtain ⟨a_b1, v_b1, k_w1, z_w1, r_w1⟩ := new5 w 56 (tmC x)
 generalize w.alloc (.cells (List.toArray (tmC x)) 56) = w1 at *
 generalize hs_b1 : w.heap.size = b1 at *
 obtain ⟨a_b2, v_b2, k_w2, z_w2, r_w2⟩ := new5 w1 56 (tmC y)
 generalize w1.alloc (.cells (List.toArray (tmC y)) 56) = w2 at *
 generalize hs_b2 : w1.heap.size = b2 at *
 have K2 : Kp w w2 n_ := k_w1.trans0 k_w2
 have a1 := zam a_b1 k_w2
 have r2 := Kp.refl w2 n_
 unfold tmC at a1 a_b2
 clear a_b1
 unfold ltK
 dsimp only
 by_cases h1 : x.field < y.field
 ·refine KGO ?_
  exact ⟨zai (by simp [h1]), K2⟩
 ·by_cases h2 : x.field = y.field
  ·refine KGO ?_
   exact ⟨zai (by rw [zjD]; simp [h2]), K2⟩
  ·refine KGO ?_
   exact ⟨zai (by simp [h1, h2]), K2⟩
end
theorem zdc (n : Int) : ∀ l : List Int, (∀ x ∈ l, n < x) → withGo n l true = l
 | [], _ => rfl
 | x :: r, h => by
  have hx := h x List.mem_cons_self
  rw [withGo, if_neg (by simp), if_neg (by omega), zdc n r fun y hy => h y (List.mem_cons_of_mem _ hy)]
theorem zfp (n : Int) : ∀ l : List Int, l.Pairwise (· < ·) → ∀ y, y ∈ withL l n ↔ y = n ∨ y ∈ l
 | [], _, y => by simp [withL, withGo]
 | x :: r, h, y => by
  rw [List.pairwise_cons] at h
  have ih := zfp n r h.2 y
  unfold withL at ih ⊢
  rw [withGo]
  by_cases h1 : n ≤ x
  ·rw [if_pos ⟨rfl, h1⟩, zdc n r fun z hz => by have := h.1 z hz; omega]
   by_cases h2 : x = n
   ·rw [if_pos h2]; simp [h2]
   ·rw [if_neg h2]; simp
  ·rw [if_neg (fun e => h1 e.2), if_neg (by omega), List.mem_cons, ih, List.mem_cons]
   constructor <;> (intro e; rcases e with e | e | e <;> simp [e])
theorem zhF (n : Int) : ∀ l : List Int, l.Pairwise (· < ·) → (withL l n).Pairwise (· < ·)
 | [], _ => by simp [withL, withGo]
 | x :: r, h => by
  have hc := List.pairwise_cons.1 h
  have ih := zhF n r hc.2
  have hm := zfp n r hc.2
  unfold withL at ih hm ⊢
  rw [withGo]
  by_cases h1 : n ≤ x
  ·have ht := zdc n r fun z hz => by have := hc.1 z hz; omega
   rw [if_pos ⟨rfl, h1⟩, ht]
   by_cases h2 : x = n
   ·rw [if_pos h2, ← h2]; exact h
   ·rw [if_neg h2, List.pairwise_cons]
    refine ⟨fun z hz => ?_, h⟩
    rcases List.mem_cons.1 hz with rfl | hz
    ·omega
    ·have := hc.1 z hz; omega
  ·rw [if_neg (fun e => h1 e.2), if_neg (by omega), List.pairwise_cons]
   refine ⟨fun z hz => ?_, ih⟩
   rcases (hm z).1 hz with rfl | hz
   ·omega
   ·exact hc.1 z hz
theorem zdo : ∀ (b a : List Int), a.Pairwise (· < ·) → (b.foldl withL a).Pairwise (· < ·) ∧ ∀ y, y ∈ b.foldl withL a ↔ y ∈ a ∨ y ∈ b
 | [], a, h => ⟨h, fun y => by simp⟩
 | x :: b, a, h => by
  have ih := zdo b (withL a x) (zhF x a h)
  refine ⟨ih.1, fun y => ?_⟩
  rw [List.foldl_cons, ih.2 y, zfp x a h, List.mem_cons]
  constructor
  ·rintro ((e | e) | e)
   ·exact .inr (.inl e)
   ·exact .inl e
   ·exact .inr (.inr e)
  ·rintro (e | e | e)
   ·exact .inl (.inr e)
   ·exact .inl (.inl e)
   ·exact .inr e
end Go.Proofs.YtcdpocffoapbeaaGreatDoor
