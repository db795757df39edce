/- Helper lemmas that the proved statement rests on; no conditions of their own. -/
import Derived.Test.YtennokckmjcefaaGreatDoorCards
import Derived.Test.YtennokckmjcefaaGreatDoorRows
import Derived.Lib.LaidU8
import Derived.Test.YtennokckmjcefaaGreatDoorGNf3
set_option linter.unusedVariables false
set_option maxHeartbeats 16000000
set_option maxRecDepth 100000
namespace Go.Proofs.YtennokckmjcefaaGreatDoor
open Go.Shelf Go.RowKit Go.Pw Go.Vc Go.Cs Go.Lib Go.Cd Go.Mg
theorem zpq (l : List UInt8) (i : Nat) (hi : i < l.length) : upL (l.take (i + 1)) = upL (l.take i) ++ [upB l[i]] := by
 unfold upL
 rw [List.take_succ_eq_append_getElem hi, List.map_append]; rfl
theorem zoq (l : List UInt8) : (upL l).length = l.length := by unfold upL; rw [List.length_map]
def upA (a : Am) (f : Nat) : Am := { a with t0 := if 0 < f then upL a.t0 else a.t0, t1 := if 1 < f then upL a.t1 else a.t1, t2 := if 2 < f then upL a.t2 else a.t2, t3 := if 3 < f then upL a.t3 else a.t3, t4 := if 4 < f then upL a.t4 else a.t4, t5 := if 5 < f then upL a.t5 else a.t5 }
def upP (p : Sl × Am) : Sl × Am := (p.1, upA p.2 6)
theorem zsV (a : Am) : (upA a 6).ak = { a.ak with tx := a.ak.tx.map upL } := by simp [upA, Am.ak, Am.tx]
theorem ztk (a : Am) : ∀ (f : Nat), f < 6 → (upA a f).tx.getD f [] = a.tx.getD f []
 | 0, _ => by simp [upA, Am.tx]
 | 1, _ => by simp [upA, Am.tx]
 | 2, _ => by simp [upA, Am.tx]
 | 3, _ => by simp [upA, Am.tx]
 | 4, _ => by simp [upA, Am.tx]
 | 5, _ => by simp [upA, Am.tx]
theorem zrS (s : Sl) (a : Am) : ∀ (f : Nat), f < 6 → (actC (s, upA a f)).set (0 + 2 + f) (.string (str (upL (a.tx.getD f [])))) = actC (s, upA a (f + 1))
 | 0, _ => by simp [upA, Am.tx, actC]
 | 1, _ => by simp [upA, Am.tx, actC]
 | 2, _ => by simp [upA, Am.tx, actC]
 | 3, _ => by simp [upA, Am.tx, actC]
 | 4, _ => by simp [upA, Am.tx, actC]
 | 5, _ => by simp [upA, Am.tx, actC]
theorem upA_w (a : Am) : wA (upA a 6) = wA a := by simp [upA, wA, Am.tx, sumT, zoq]
theorem upP_w (l : List (Sl × Am)) : wAs ((l.map upP).map (·.2)) = wAs (l.map (·.2)) := by
 unfold wAs
 rw [List.map_map, List.map_map, List.map_map]
 congr 1
 apply List.map_congr_left
 intro p _
 exact upA_w p.2
theorem zng (l : List (Sl × Am)) : (runX emptyX (l.map (·.2.ak))).1 = (runX emptyX ((l.map upP).map (·.2.ak))).1 := by
 refine zjR _ _ ?_ emptyX [] []
 rw [List.map_map, List.map_map]
 apply List.map_congr_left
 intro p _
 exact zsV p.2
section
variable {w : World}
theorem zlK (s : List UInt8) (hs : s.length ≤ 100000000) : Calls Tryz.prog 28 #[.string (str s)] w fun e w' => e = .returned (.string (str (upL s))) ∧ Kp w w' n_ := by
 have hz : (str s).size = s.length := rfl
 refine zaa (args := [.string (str s)]) Tryz.func28 rfl NL ?_; refine GW ?_
 refine Loop.intro (ι := Nat × Option Addr × Nat) (fun i => [(0, .string (str s)), (3, .slice i.2.1 i.1 i.2.2), (4, .int .i64 (i.1 : Nat))])
  (fun i wr => Kp w wr n_ ∧ i.1 ≤ s.length ∧ OwnB8 wr w.heap.size (.slice i.2.1 i.1 i.2.2) (upL (s.take i.1))) (fun i => s.length - i.1) (0, none, 0) ⟨rfl, rfl, rfl, trivial⟩
  ⟨Kp.refl _ _, Nat.zero_le _, World.ownsRow_nil _ _ _ _⟩ ?_
 rintro ⟨n, a, c⟩ g wr ⟨hK, hn, ho⟩
 dsimp only at hn ho ⊢
 have hl : (upL (s.take n)).length = n := by rw [zoq, List.length_take]; omega
 refine GW ?_
 by_cases hlt : n < s.length
 ·have hst := zpq s n hlt
  have hb : byteAt (str s) n = s[n] := by show s.getD n 0 = _; rw [List.getD, List.getElem?_eq_getElem hlt]; rfl
  have hx0 := UInt8.toNat_lt (byteAt (str s) n)
  rw [← hb] at hst
  clear hb
  generalize upL (s.take n) = F at *
  subst hl
  refine LGO ?_
  generalize byteAt (str s) F.length = x at *
  by_cases q1 : 97 ≤ x.toNat
  ·by_cases q2 : x.toNat ≤ 122
   ·have hu : upB x = x - 32 := by unfold upB; rw [if_pos ⟨q1, q2⟩]
    have hx3 : ((x.toNat : Nat) : Int) - 32 = (((x - 32 : UInt8).toNat : Nat) : Int) := by
     rw [UInt8.toNat_sub_of_le _ _ (by rw [UInt8.le_iff_toNat_le]; exact Nat.le_trans (by decide) q1)]
     have : (32 : UInt8).toNat = 32 := rfl
     omega
    refine LGO ?_
    rw [hx3]
    refine RunV.of (bs1B _ _) ?_
    obtain ⟨a_b4, v_b4, k_w4, z_w4, r_w4⟩ := new5 wr 5 (byC (x - 32))
    generalize wr.alloc (.cells (List.toArray (byC (x - 32))) 5) = w4 at *
    generalize hs_b4 : wr.heap.size = b4 at *
    have o4 := zac ho k_w4
    have K4 := hK.trans0 k_w4
    refine KGO ?_
    refine tyB.app1 (x - 32) o4 K4.size a_b4 (by omega) (by omega) fun v5 w5 o5 k5 => ?_
    have K5 := zaA o4 k5 K4 (Nat.le_refl _)
    obtain ⟨a5, c5, rfl⟩ := zab o5
    refine KGO ?_
    exact ⟨(F.length + 1, a5, c5), ⟨rfl, by show Value.slice a5 (F ++ [_]).length c5 = _; rw [List.length_append, List.length_singleton], v_int (by simp), trivial⟩, ⟨K5, by dsimp only; omega, by dsimp only; rw [hst, hu]; simpa using o5⟩, by dsimp only; omega⟩
   ·have hu : upB x = x := by unfold upB; rw [if_neg (fun h => q2 h.2)]
    refine LGO ?_
    refine RunV.of (bs1B _ _) ?_
    obtain ⟨a_b4, v_b4, k_w4, z_w4, r_w4⟩ := new5 wr 5 (byC x)
    generalize wr.alloc (.cells (List.toArray (byC x)) 5) = w4 at *
    generalize hs_b4 : wr.heap.size = b4 at *
    have o4 := zac ho k_w4
    have K4 := hK.trans0 k_w4
    refine KGO ?_
    refine tyB.app1 x o4 K4.size a_b4 (by omega) (by omega) fun v5 w5 o5 k5 => ?_
    have K5 := zaA o4 k5 K4 (Nat.le_refl _)
    obtain ⟨a5, c5, rfl⟩ := zab o5
    refine KGO ?_
    exact ⟨(F.length + 1, a5, c5), ⟨rfl, by show Value.slice a5 (F ++ [_]).length c5 = _; rw [List.length_append, List.length_singleton], v_int (by simp), trivial⟩, ⟨K5, by dsimp only; omega, by dsimp only; rw [hst, hu]; simpa using o5⟩, by dsimp only; omega⟩
  ·have hu : upB x = x := by unfold upB; rw [if_neg (fun h => q1 h.1)]
   refine LGO ?_
   refine RunV.of (bs1B _ _) ?_
   obtain ⟨a_b4, v_b4, k_w4, z_w4, r_w4⟩ := new5 wr 5 (byC x)
   generalize wr.alloc (.cells (List.toArray (byC x)) 5) = w4 at *
   generalize hs_b4 : wr.heap.size = b4 at *
   have o4 := zac ho k_w4
   have K4 := hK.trans0 k_w4
   refine KGO ?_
   refine tyB.app1 x o4 K4.size a_b4 (by omega) (by omega) fun v5 w5 o5 k5 => ?_
   have K5 := zaA o4 k5 K4 (Nat.le_refl _)
   obtain ⟨a5, c5, rfl⟩ := zab o5
   refine KGO ?_
   exact ⟨(F.length + 1, a5, c5), ⟨rfl, by show Value.slice a5 (F ++ [_]).length c5 = _; rw [List.length_append, List.length_singleton], v_int (by simp), trivial⟩, ⟨K5, by dsimp only; omega, by dsimp only; rw [hst, hu]; simpa using o5⟩, by dsimp only; omega⟩
 ·obtain rfl : n = s.length := by omega
  refine LGO ?_
  rw [List.take_length] at ho hl
  have o6 : wr.ownsRow w.heap.size 5 1 (.slice a (upL s).length c) (upL s).length (Go.Lib.byteCells (upL s)) := by rw [← zor, hl]; have h : wr.ownsRow w.heap.size 5 1 (.slice a s.length c) (upL s).length ((upL s).flatMap byC) := ho; rwa [hl] at h
  clear ho
  rw [← hl]
  refine RunV.str (l := upL s) Tryz.underlying91 Tryz.underlying5 Tryz.underlying9 o6 ?_
  refine KGO ?_
  exact ⟨rfl, hK⟩
theorem znE {v : Value} (lx : List (Sl × Am)) (hA : RowA w v lx) (hd : ∀ p ∈ lx, -9223372036854775808 ≤ p.2.doc ∧ p.2.doc ≤ 9223372036854775807) (hlx : lx.length ≤ 2000000) (hwt : wAs (lx.map (·.2)) ≤ 1000000000) (hE : CEnv w) :
  Calls Tryz.prog 5 #[v] w fun e w' => e = .returned (.bool true) ∧ Kp w w' n_ := by
 obtain ⟨a, cap, rfl, hr0⟩ := hA.row
 refine zaa (args := [.slice a lx.length cap]) Tryz.func5 rfl NL ?_; refine GW ?_
 refine KGO ?_
 refine CallS.of (Tryz.call11 _ _) (zlQ (w := w) hE) ?_
 rintro e w1 ⟨rfl, k1⟩
 refine RT ?_
 refine KGO ?_
 refine CallS.of (Tryz.call16 _ _) (znw (w := w1)) ?_
 rintro e w2 ⟨rfl, hx, k2⟩
 obtain ⟨b, hb⟩ : ∃ b, w1.heap.size = b := ⟨_, rfl⟩
 rw [hb] at hx ⊢
 refine RT ?_
 refine KGO ?_
 refine CallS.of (Tryz.call16 _ _) (znw (w := w2)) ?_
 rintro e w3 ⟨rfl, hy, k3⟩
 obtain ⟨c, hc⟩ : ∃ c, w2.heap.size = c := ⟨_, rfl⟩
 rw [hc] at hy ⊢
 have T3 := zsb hE hx (k1.trans0 k2) (by have := k1.size; omega) hy k3 (by omega)
 have K3 := (k1.trans0 k2).trans0 k3
 clear hx hy k1 k2 k3
 refine RT ?_
 refine KGO ?_
 refine CallS.of (Tryz.call17 _ _) (zpB (w := w3) lx (hA.keep K3) (by omega) hwt) ?_
 rintro e w4 ⟨rfl, k4⟩
 have K4 := K3.trans0 k4
 have T4 := T3.keep k4
 refine RT ?_
 by_cases hfw : lx.length ≤ 30 ∧ wAs (lx.map (·.2)) ≤ 1500
 rotate_left
 ·rw [decide_eq_false hfw]
  refine KGO ?_
  exact ⟨rfl, K4⟩
 rw [decide_eq_true hfw]
 obtain ⟨h30, h1500⟩ := hfw
 clear T3 K3 k4
 refine KGO ?_
 refine Loop.intro (ι := Nat × Sl) (fun q => [(0, .slice a lx.length cap), (3, .bool true), (4, .pointer (some ⟨b, 0, none⟩)), (5, .pointer (some ⟨c, 0, none⟩)), (6, .slice q.2.a q.2.n q.2.c), (7, .int .i64 (q.1 : Nat))])
  (fun q wr => Kp w4 wr n_ ∧ q.1 ≤ lx.length ∧ OwnR 54 actC 11 wr w4.heap.size q.2.v ((lx.take q.1).map upP)) (fun q => lx.length - q.1) (0, ⟨none, 0, 0⟩) ⟨rfl, rfl, rfl, rfl, rfl, rfl, trivial⟩ ⟨Kp.refl _ _, Nat.zero_le _, World.ownsRow_nil _ _ _ _⟩ ?_
 rintro ⟨i, so⟩ gg wr ⟨hK, hi, ho⟩
 dsimp only at hi ho ⊢
 have hzr := hK.size
 have hlt0 : ((lx.take i).map upP).length = i := by rw [List.length_map, List.length_take]; omega
 obtain ⟨aj, cj, ej⟩ := zab ho
 obtain ⟨ja, jn, jc⟩ := so
 injection ej with e1 e2 e3
 dsimp only at e1 e2 e3
 subst e1 e2 e3
 refine GW ?_
 by_cases hlt : i < lx.length
 ·obtain ⟨gb, o, rfl, hgb, hat⟩ := hr0 (by omega)
  have hat := zai hat (K4.trans0 hK)
  have hts : (lx.take (i + 1)).map upP = (lx.take i).map upP ++ [upP lx[i]] := by rw [List.take_succ_eq_append_getElem hlt, List.map_append]; rfl
  have hwl : wA lx[i].2 ≤ 1500 := by
   have h1 := zdU (l := lx.map (·.2)) (i := i) (by simpa using hlt)
   rw [List.getElem_map] at h1
   have h2 := zet (lx.map (·.2)) (i + 1)
   omega
  generalize (lx.take i).map upP = F at *
  have qr := Kp.refl wr n_
  refine KGO ?_
  have v_b8 := VarK.new wr 54 (actC lx[i])
  refine Store.fresh (vs := actC lx[i]) (by rfl) rfl (zar (by rfl)) ?_
  obtain ⟨a_b8, k_w5, z_w5⟩ := new3 wr 54 (actC lx[i])
  generalize wr.alloc (.cells (List.toArray (actC lx[i])) 54) = w5 at *
  generalize hs_b8 : wr.heap.size = b8 at *
  have ho0 := ho
  clear hat a_b8 qr ho
  generalize lx[i] = y at *
  obtain ⟨ys, ya⟩ := y
  dsimp only at hwl
  have hv0 : VarK w5 b8 54 (actC (ys, upA ya 0)) := by
   have : upA ya 0 = ya := by simp [upA]
   rw [this]; exact v_b8
  have hb8 := v_b8.lt
  clear v_b8
  have hL6 : ∀ f, (ya.tx.getD f []).length ≤ 1500 := fun f => by
   have h1 := lenT6 ya.t0 ya.t1 ya.t2 ya.t3 ya.t4 ya.t5 f
   have h2 := zcX ya
   have h3 : lenX ya.tx ≤ wA ya := by rw [h2]; unfold wA; omega
   exact Nat.le_trans h1 (Nat.le_trans h3 hwl)
  have k5 := k_w5
  clear k_w5
  refine KGO ?_
  refine Loop.intro (ι := Nat) (fun f => [(0, .slice (some ⟨gb, o, none⟩) lx.length cap), (3, .bool true), (4, .pointer (some ⟨b, 0, none⟩)), (5, .pointer (some ⟨c, 0, none⟩)), (6, .slice ja F.length jc), (7, .int .i64 (i : Nat)), (8, .pointer (some ⟨b8, 0, none⟩)), (9, .int .i64 (f : Nat))])
   (fun f wk => Kp wr wk n_ ∧ f ≤ 6 ∧ VarK wk b8 54 (actC (ys, upA ya f))) (fun f => 6 - f) 0 ⟨rfl, rfl, rfl, rfl, rfl, rfl, rfl, rfl, trivial⟩ ⟨k5, Nat.zero_le _, hv0⟩ ?_
  rintro f gf wk ⟨hKf, hf, hv⟩
  have hvl := hv.lt
  refine GW ?_
  by_cases hft : f < 6
  ·have ct : wk.cell? ⟨b8, 0 + 2 + f, none⟩ = some (.string (str (ya.tx.getD f []))) := by
    have := hv.at (2 + f) _ (zqG (ys, upA ya f) f hft)
    rw [show (ys, upA ya f).2 = upA ya f from rfl, ztk ya f hft] at this
    rwa [← Nat.add_assoc] at this
   have hlf := hL6 f
   have hus := zrS ys ya f hft
   generalize ya.tx.getD f [] = T at *
   refine KGO ?_
   refine CallS.of (Tryz.call28 _ _) (zlK (w := wk) T (by omega)) ?_
   rintro e w6 ⟨rfl, k6⟩
   have hv6 := hv.keep0 k6
   refine RT ?_
   refine KGO ?_
   refine Store.atK (i := 0 + 2 + f) hv6 (by rw [lenAct]; omega) (by rfl) ⟨rfl, by simp, by simp⟩ fun w7 v7 k7 => ?_
   rw [hus] at v7
   refine KGO ?_
   exact ⟨f + 1, ⟨rfl, rfl, rfl, rfl, rfl, rfl, rfl, v_int (by simp), trivial⟩, ⟨(hKf.trans0 k6).trans k7 fun q hq e => by have : q = b8 := e; omega, by omega, v7⟩, by dsimp only; omega⟩
  obtain rfl : f = 6 := by omega
  have hat := hv.at
  have qk := Kp.refl wk n_
  have hok := zac ho0 hKf
  have hKk := hK.trans0 hKf
  refine KGO ?_
  refine RunV.of (bs1Act (ys, upA ya 6) _) ?_
  obtain ⟨a_b9, v_b9, k_w6, z_w6, r_w6⟩ := new5 wk 54 (actC (ys, upA ya 6))
  generalize wk.alloc (.cells (List.toArray (actC (ys, upA ya 6))) 54) = w6 at *
  generalize hs_b9 : wk.heap.size = b9 at *
  have ho6 := zac hok k_w6
  have K6 := hKk.trans0 k_w6
  have z6 := K6.size
  refine KGO ?_
  refine tyAct.app1 (ys, upA ya 6) ho6 (by omega) a_b9 (by omega) (by omega) fun v7 w7 o7 k7 => ?_
  have K7 := zaA ho6 k7 K6 (Nat.le_refl _)
  obtain ⟨a7, c7, rfl⟩ := zab o7
  refine KGO ?_
  exact ⟨(i + 1, ⟨a7, _, c7⟩), ⟨rfl, rfl, rfl, rfl, rfl, v_int (by simp), trivial⟩, ⟨K7, by dsimp only; omega, by dsimp only; rw [hts]; exact o7⟩, by dsimp only; omega⟩
 obtain rfl : i = lx.length := by omega
 rw [List.take_length] at ho hlt0 ⊢
 have T := T4.keep hK
 have hfx := T4.hx.fp_lt
 have hfy := T4.hy.fp_lt
 have hAx : ∀ u, Kp wr u (fpX b ⟨none, 0, 0⟩ ⟨none, 0, 0⟩ []) → RowA u (.slice a lx.length cap) lx := fun u hu => hA.keep (T.bx.K.trans hu fun q hq e => by have := T.bx.lo q e; omega)
 clear hr0
 refine KGO ?_
 refine CallS.of (Tryz.call18 _ _) (zjZ (w := wr) lx T.hx T.bx hAx hd h30 h1500) ?_
 rintro e w5 ⟨v5, LV, sv5, dv5, l5, rfl, oL, _, h5, M5⟩
 obtain ⟨aL, cL, rfl⟩ := zab oL
 have T5 := T.mutX M5 h5
 have ho5 := zaj ho M5.k fun q hq e => by have := hfx q e; have := (ho.lt q hq).1; omega
 have hI5 := znJ h1500 lx.length (Nat.le_refl _)
 have hwf := zet (lx.map (·.2)) lx.length
 rw [zkF] at hI5
 have hcs := zng lx
 have hmw := upP_w lx
 have hml : (lx.map upP).length = lx.length := List.length_map _
 clear oL h5 M5 hAx T ho
 refine RT ?_
 refine KGO ?_
 have hAy : ∀ u, Kp w5 u (fpX c ⟨none, 0, 0⟩ ⟨none, 0, 0⟩ []) → RowA u (.slice ja (lx.map upP).length jc) (lx.map upP) := fun u hu => by
  have hA2 := hA.keep (T5.by_.K.trans hu fun q hq e => by have := T5.by_.lo q e; omega)
  refine ⟨zao (zaj ho5 hu fun q hq e => by have := hfy q e; have := (ho5.lt q hq).1; omega), fun p hp => ?_, fun p hp => ?_⟩
  ·obtain ⟨y, hy, rfl⟩ := List.mem_map.1 hp
   exact hA2.ws y hy
  ·obtain ⟨y, hy, rfl⟩ := List.mem_map.1 hp
   exact hA2.cp y hy
 have hdy : ∀ p ∈ lx.map upP, -9223372036854775808 ≤ p.2.doc ∧ p.2.doc ≤ 9223372036854775807 := fun p hp => by
  obtain ⟨y, hy, rfl⟩ := List.mem_map.1 hp
  exact hd y hy
 refine CallS.of (Tryz.call18 _ _) (zjZ (w := w5) (lx.map upP) T5.hy T5.by_ hAy hdy (by omega) (by omega)) ?_
 rintro e w6 ⟨v6, LW, sv6, dv6, l6, rfl, oL, _, h6, M6⟩
 obtain ⟨aM, cM, rfl⟩ := zab oL
 have T6 := T5.mutY M6 h6
 rw [← hcs] at T6
 clear oL h6 M6 hAy T5 ho5 hdy
 generalize (runX emptyX (lx.map (·.2.ak))).1 = x0 at *
 have hI : Iw x0 150 16000 15000 := hI5.mono (by omega) (by omega) (by omega)
 refine RT ?_
 refine KGO ?_
 refine CallS.of (Tryz.call14 _ _) (zeK (w := w6) (x := x0) T6.hx.v (zao T6.hx.dd) T6.hx.eq (zjC hI (by omega) (by omega) (by omega)) T6.bx.env) ?_
 rintro e w7 ⟨rfl, k7⟩
 have T7 := T6.keep k7
 refine RT ?_
 refine KGO ?_
 refine CallS.of (Tryz.call14 _ _) (zeK (w := w7) (x := x0) T7.hy.v (zao T7.hy.dd) T7.hy.eq (zjC hI (by omega) (by omega) (by omega)) T7.bx.env) ?_
 rintro e w8 ⟨rfl, k8⟩
 have T8 := T7.keep k8
 refine RT ?_
 refine KGO ?_
 exact ⟨zan (decide_eq_true rfl), T8.bx.K⟩
end
end Go.Proofs.YtennokckmjcefaaGreatDoor
namespace Go.Proofs.YtennokckmjcefaaGreatDoor
open Go.Shelf Go.RowKit Go.Pw Go.Vc Go.Cs Go.Lib Go.Mg
instance : Inhabited Ent := ⟨⟨0, 0, []⟩⟩
def slM : Value → Sl
 | .slice a n c => ⟨a, n, c⟩
 | _ => ⟨none, 0, 0⟩
theorem zqz {α : Type} {W : World} {v : Value} {c : α → List Value} {l : List α} (h : RowO W v c l) : v = (slM v).v := by
 obtain ⟨a, cap, rfl, _⟩ := h
 rfl
instance : Inhabited (Sv × Sgm) := ⟨(default, ⟨[], []⟩)⟩
section
end
end Go.Proofs.YtennokckmjcefaaGreatDoor
namespace Go.Proofs.YtennokckmjcefaaGreatDoor
open Go.Shelf Go.RowKit Go.Pw Go.Vc Go.Cs Go.Lib Go.Mg Go.ChangeShapes Go.WideShapes Go.ChangeAt
def OpensB (W : World) (T : TypeId) {α : Type} (cells : α → List Value) (p : α → Prop) (wt : α → Nat) : Prop :=
 ∀ {H : Type} {enc : TypeId × Value → H} {fuel : Nat} {cs : List Value} {x : DataW H × List MemPlace}, DataW.trod enc Tryz.prog W 0 (fun _ => true) true fuel T cs = some x → ∃ y, cs = cells y ∧ p y ∧ wt y ≤ Rows.uptoBulk x.1
section
variable {W : World} {T : TypeId}
theorem zkr {H : Type} (d : DataW H) : 1 ≤ Rows.uptoBulk d := by
 cases d with
 | lit l => cases l <;> simp [Rows.uptoBulk]
 | nil => simp [Rows.uptoBulk]
 | ptr d => simp [Rows.uptoBulk]
 | slice elems spare => simp [Rows.uptoBulk]
 | agg parts => simp [Rows.uptoBulk]
 | iface t d => simp [Rows.uptoBulk]
 | map entries => simp [Rows.uptoBulk]
 | held h => simp [Rows.uptoBulk]
theorem zhb {H α : Type} (g : α → Nat) : ∀ (ys : List α) (ds : List (DataW H)), ys.length = ds.length → (∀ (i : Nat) (h : i < ys.length) (h2 : i < ds.length), g ys[i] ≤ Rows.uptoBulk ds[i]) → (ys.map g).sum ≤ Rows.uptoBulkAll ds
 | [], _, _, _ => Nat.zero_le _
 | y :: ys, [], h, _ => by simp at h
 | y :: ys, d :: ds, h, hg => by
  have ih := zhb g ys ds (by simpa using h) fun i h1 h2 => by
   have := hg (i + 1) (by simpa using h1) (by simpa using h2)
   simpa using this
  have h0 := hg 0 (by simp) (by simp)
  simp only [List.getElem_cons_zero] at h0
  simp only [List.map_cons, List.sum_cons, Rows.uptoBulkAll]
  omega
theorem zfi (hT : Tryz.prog.underlying T = some (.int .i64)) : OpensB W T (fun z : Int => [.int .i64 z]) (fun z => -9223372036854775808 ≤ z ∧ z ≤ 9223372036854775807) (fun _ => 1) := fun {H enc fuel cs x} h => by
 obtain ⟨z, e, hx, w⟩ := DataW.trod_int hT h
 obtain ⟨y, e2, hy⟩ := znH (P := Tryz.prog) (W := W) hT h (fun n hn => by rw [hx] at hn; simp [DataW.weights] at hn)
 exact ⟨y, e2, hy, zkr _⟩
theorem zfz (hT : Tryz.prog.underlying T = some .string) : OpensB W T (fun s : List UInt8 => [.string (str s)]) (fun _ => True) (fun s => s.length + 1) := fun {H enc fuel cs x} h => by
 obtain ⟨s, e, g, _⟩ := DataW.trod_string hT h
 refine ⟨L s, ?_, trivial, ?_⟩
 ·rw [e]; show [Value.string s] = [Value.string (str (L s))]; rw [str_L]
 ·have e2 : x = (.lit (.string s.data.toList), []) := g
  rw [e2]
  simp only [Rows.uptoBulk]
  rw [show (L s).length = s.size from by rw [← zpx, str_L]]
  have : s.data.toList.length = s.size := by rw [Array.length_toList]; rfl
  omega
theorem zhQ {α β : Type} {cells : α → List Value} {p : α → Prop} {wt : α → Nat} {cells' : β → List Value} {p' : β → Prop} {wt' : β → Nat} (h : OpensB W T cells p wt) (f : α → β) (hc : ∀ y, p y → cells y = cells' (f y)) (hp : ∀ y, p y → p' (f y)) (hw : ∀ y, p y → wt' (f y) ≤ wt y) : OpensB W T cells' p' wt' := fun {H enc fuel cs x} hf => by
 obtain ⟨y, rfl, h2, h3⟩ := h hf
 exact ⟨f y, hc y h2, hp y h2, Nat.le_trans (hw y h2) h3⟩
theorem zfI {E : TypeId} {α : Type} [Inhabited α] {cells : α → List Value} {p : α → Prop} {wt : α → Nat} {k : Nat} (hT : Tryz.prog.underlying T = some (.slice E)) (hE : OpensB W E cells p wt) (hk : ∀ y, (cells y).length = k) (hk0 : 0 < k) (hc : Tryz.prog.cellsOf E = k) :
  OpensB W T (fun y : Value × List α => [y.1]) (fun y => RowO W y.1 cells y.2 ∧ CapK y.1 ∧ ∀ z ∈ y.2, p z) (fun y => (y.2.map wt).sum + 1) := fun {H enc fuel cs x} hf => by
 rcases DataW.trod_slice hT hf with ⟨hcs, hx⟩ | ⟨x0, len, cap, elems, rest, n, _, hcs, hx, hb2, hl, hm, hel, hat, hsp, _⟩
 ·exact ⟨(.slice none 0 0, []), hcs, ⟨⟨none, 0, rfl, fun h => by simp at h⟩, zhX (Nat.le_refl _), by simp⟩, zkr _⟩
 ·subst hx
  rw [hc] at hat
  have each : ∀ i, i < len → ∃ y : α, (p y ∧ ∀ d, elems[i]? = some d → wt y ≤ Rows.uptoBulk d.1) ∧ ∃ lb lo, some x0 = some ⟨lb, lo, none⟩ ∧ lb < W.heap.size ∧ At W lb (lo + i * k) (cells y) := fun i hi => by
   have hy : elems[i]? = some (elems[i]'(by omega)) := List.getElem?_eq_getElem (by omega)
   have hbi := hat i hi
   rw [hy, Option.bind_eq_some_iff] at hbi
   obtain ⟨cs, hcs, ht⟩ := hbi
   obtain ⟨y, rfl, hok, hwt⟩ := hE ht
   obtain ⟨_, hcl, hcat⟩ := World.cells?_some hcs
   refine ⟨y, ⟨hok, fun d hd => by rw [hy] at hd; injection hd with hd; rw [← hd]; exact hwt⟩, ?_⟩
   obtain ⟨b, off, spot⟩ := x0
   have hyk := hk y
   have h0 := hcat 0 (by omega)
   obtain ⟨v0, hv0⟩ : ∃ v0, (cells y)[0]? = some v0 := ⟨_, List.getElem?_eq_getElem (by omega)⟩
   rw [hv0] at h0
   have hspot : spot = none := by
    have := World.cell?_spot h0
    by_cases hi0 : i = 0
    ·subst hi0; simpa [Addr.add] using this
    ·exact Classical.byContradiction fun hne => by
      have hh := hat 0 (by omega)
      have hy0 : elems[0]? = some (elems[0]'(by omega)) := List.getElem?_eq_getElem (by omega)
      rw [hy0, Option.bind_eq_some_iff] at hh
      obtain ⟨cs0, hcs0, ht0⟩ := hh
      obtain ⟨_, hcl0, hcat0⟩ := World.cells?_some hcs0
      have h00 := hcat0 0 (by omega)
      have hcs0l : 0 < cs0.length := by omega
      rw [List.getElem?_eq_getElem hcs0l] at h00
      have := World.cell?_spot h00
      exact hne (by simpa [Addr.add] using this)
   subst hspot
   have hlt := Pw.cell_lt h0
   rw [Go.Vc.add_none, Go.Vc.add_none] at hlt
   refine ⟨b, off, rfl, hlt, fun j v hj => ?_⟩
   have hjk : j < k := by
    have := (List.getElem?_eq_some_iff.1 hj).1; omega
   have := hcat j (by omega)
   rw [Go.Vc.add_none, Go.Vc.add_none, hj] at this
   exact this
  obtain ⟨f, hfx⟩ := Go.Deep.choose_lt each
  have hlen : ((List.range len).map f).length = len := by simp
  refine ⟨(.slice (some x0) len cap, (List.range len).map f), hcs, ⟨⟨some x0, cap, by rw [hlen], fun h0 => ?_⟩, zhX hl, fun z hz => ?_⟩, ?_⟩
  ·rw [hlen] at h0
   obtain ⟨_, lb, lo, he, hlb, _⟩ := hfx 0 h0
   refine ⟨lb, lo, he, hlb, fun i v hv => ?_⟩
   have hgen : ∀ (l : List α) (o : Nat), (∀ j, (hj : j < l.length) → At W lb (o + j * k) (cells l[j])) → At W lb o (l.flatMap cells) := by
    intro l
    induction l with
    | nil => intro o _ i v hi; simp at hi
    | cons a r ih =>
     intro o h i v hi
     rw [List.flatMap_cons] at hi
     by_cases hik : i < k
     ·rw [List.getElem?_append_left (by rw [hk]; exact hik)] at hi
      have := h 0 (by simp) i v hi
      simpa using this
     ·rw [List.getElem?_append_right (by rw [hk]; omega), hk] at hi
      have h2 := ih (o + k) (fun j hj m u hu => by
       have := h (j + 1) (by simpa using hj) m u hu
       rw [Nat.succ_mul] at this
       rw [show o + k + j * k + m = o + (j * k + k) + m by omega]
       exact this) (i - k) v hi
      rwa [show o + k + (i - k) = o + i by omega] at h2
   refine hgen ((List.range len).map f) lo (fun j hj => ?_) i v hv
   have hj : j < len := by simpa using hj
   obtain ⟨_, lb2, lo2, he2, _, hc2⟩ := hfx j hj
   rw [he] at he2
   injection he2 with he2
   injection he2 with e1 e2
   subst e1; subst e2
   rw [List.getElem_map, List.getElem_range]
   exact hc2
  ·obtain ⟨i, hi, rfl⟩ := List.mem_map.1 hz
   exact (hfx i (by simpa using hi)).1.1
  ·dsimp only
   simp only [Rows.uptoBulk]
   have := zhb (H := H) wt ((List.range len).map f) (elems.map (·.1)) (by rw [hlen, List.length_map]; omega) fun i h1 h2 => by
    rw [hlen] at h1
    rw [List.getElem_map, List.getElem_map, List.getElem_range]
    exact (hfx i h1).1.2 _ (List.getElem?_eq_getElem (by omega))
   omega
def OpensF (W : World) (fs : List Field) (off total : Nat) {α : Type} (cells : α → List Value) (p : α → Prop) (wt : α → Nat) : Prop :=
 ∀ {H : Type} {enc : TypeId × Value → H} {n : Nat} {cs : List Value} {xs : List (DataW H × List MemPlace)}, cs.length = total → xs.length = fs.length →
  (∀ (i : Nat) (f : Field), fs[i]? = some f → DataW.trod enc Tryz.prog W 0 (fun _ => true) true n f.type ((cs.drop f.offset).take (Tryz.prog.cellsOf f.type)) = xs[i]?) → ∃ y, cs.drop off = cells y ∧ p y ∧ wt y ≤ Rows.uptoBulkAll (xs.map (·.1))
theorem zmH {off : Nat} : OpensF W [] off off (fun _ : Unit => []) (fun _ => True) (fun _ => 0) := fun {H enc n cs xs} hl _ _ => ⟨(), List.drop_eq_nil_of_le (by omega), trivial, Nat.zero_le _⟩
theorem zbQ {f : Field} {fs : List Field} {off total k : Nat} {α β : Type} {c1 : α → List Value} {p1 : α → Prop} {w1 : α → Nat} {c2 : β → List Value} {p2 : β → Prop} {w2 : β → Nat} (ho : f.offset = off) (hk : Tryz.prog.cellsOf f.type = k) (h1 : OpensB W f.type c1 p1 w1) (h2 : OpensF W fs (off + k) total c2 p2 w2) :
  OpensF W (f :: fs) off total (fun y : α × β => c1 y.1 ++ c2 y.2) (fun y => p1 y.1 ∧ p2 y.2) (fun y => w1 y.1 + w2 y.2) := fun {H enc n cs xs} hl hx hf => by
 cases xs with
 | nil => simp at hx
 | cons x xs =>
  have f0 := hf 0 f rfl
  rw [ho, hk] at f0
  obtain ⟨y1, e1, q1, s1⟩ := h1 f0
  obtain ⟨y2, e2, q2, s2⟩ := h2 (n := n) (cs := cs) (xs := xs) hl (by simpa using hx) (fun i g hg => hf (i + 1) g (by simpa using hg))
  refine ⟨(y1, y2), ?_, ⟨q1, q2⟩, ?_⟩
  ·dsimp only
   rw [← e1, ← e2, ← List.drop_drop, List.take_append_drop]
  ·dsimp only
   simp only [List.map_cons, Rows.uptoBulkAll]
   omega
theorem zig {fs : Array Field} {total : Nat} {α : Type} {cells : α → List Value} {p : α → Prop} {wt : α → Nat} (hT : Tryz.prog.underlying T = some (.struct fs)) (hc : Tryz.prog.cellsOf T = total) (h : OpensF W fs.toList 0 total cells p wt) : OpensB W T cells p wt := fun {H enc fuel cs x} hf => by
 obtain ⟨xs, n, _, hx, hlen, hxl, hfld⟩ := DataW.trod_struct hT hf
 rw [hc] at hlen
 obtain ⟨y, e, q, s⟩ := h (n := n) (cs := cs) (xs := xs) hlen (by simpa using hxl) (fun i f hi => hfld i f (by rw [← Array.getElem?_toList]; exact hi))
 refine ⟨y, by simpa using e, q, ?_⟩
 rw [hx]
 simp only [Rows.uptoBulk]
 omega
theorem ziP {n : Nat} {e : TypeId} (hT : Tryz.prog.underlying T = some (.array n e)) (he : Tryz.prog.underlying e = some .string) (hc : Tryz.prog.cellsOf e = 1) (hcT : Tryz.prog.cellsOf T = n) : OpensB W T (fun l : List (List UInt8) => l.map fun s => .string (str s)) (fun l => l.length = n) (fun l => (l.map List.length).sum + 1) := fun {H enc fuel cs x} hf => by
 obtain ⟨xs, m, _, hx, hl, hxl, hd⟩ := DataW.trod_array hT hf
 rw [hcT] at hl
 have each : ∀ i, i < n → ∃ s : List UInt8, (∀ d, xs[i]? = some d → s.length ≤ Rows.uptoBulk d.1) ∧ cs[i]? = some (.string (str s)) := fun i hi => by
  have h := hd i hi
  rw [hc, List.getElem?_eq_getElem (by omega : i < xs.length)] at h
  obtain ⟨s, e1, _, hw⟩ := zfz (W := W) he h
  refine ⟨s, fun d hd => ?_, ?_⟩
  ·rw [List.getElem?_eq_getElem (by omega : i < xs.length)] at hd
   injection hd with hd
   have hw : s.length + 1 ≤ _ := hw
   rw [← hd]; omega
  ·have e2 : cs[i]? = ((cs.drop (i * 1)).take 1)[0]? := by simp
   rw [e2, e1]; rfl
 obtain ⟨f, hf⟩ := Go.Deep.choose_lt each
 refine ⟨(List.range n).map f, ?_, by simp, ?_⟩
 ·refine List.ext_getElem? fun i => ?_
  by_cases hi : i < n
  ·rw [(hf i hi).2]; simp [hi]
  ·rw [List.getElem?_eq_none (by omega), List.getElem?_eq_none (by simp; omega)]
 ·rw [hx]
  simp only [Rows.uptoBulk]
  have := zhb (H := H) List.length ((List.range n).map f) (xs.map (·.1)) (by simp; omega) fun i h1 h2 => by
   have h1 : i < n := by simpa using h1
   rw [List.getElem_map, List.getElem_map, List.getElem_range]
   exact (hf i h1).1 _ (List.getElem?_eq_getElem (by omega))
  omega
end
section
variable {W : World}
theorem zrt : OpensB W 48 (fun y : Value × List (List UInt8) => [y.1]) (fun y => RowO W y.1 txC y.2 ∧ CapK y.1 ∧ ∀ z ∈ y.2, True) (fun y => (y.2.map fun s => s.length + 1).sum + 1) :=
 zfI (k := 1) Tryz.underlying48 (zfz Tryz.underlying9) (fun _ => rfl) (by decide) (by kernel_rfl)
def amT (l : List (List UInt8)) : Am := ⟨0, 0, l.getD 0 [], l.getD 1 [], l.getD 2 [], l.getD 3 [], l.getD 4 [], l.getD 5 [], 0, [], []⟩
theorem oB_t6 : OpensB W 32 t6C (fun _ => True) (fun a => lenX a.tx + 1) :=
 zhQ (ziP Tryz.underlying32 Tryz.underlying9 (by kernel_rfl) (by kernel_rfl)) amT (fun l h => by
  match l, h with
  | [a, b, c, d, e, f], _ => rfl) (fun _ _ => trivial) (fun l h => by
  match l, h with
  | [a, b, c, d, e, f], _ =>
   rw [zcX]
   exact Nat.le_refl _)
def bulkA (a : Am) : Nat := sumT a.tx + a.word.length + a.words.length + sumT a.words
def mkA (y : Int × Int × Am × Int × List UInt8 × (Value × List (List UInt8)) × Unit) : Sl × Am := (slM y.2.2.2.2.2.1.1, ⟨y.1, y.2.1, y.2.2.1.t0, y.2.2.1.t1, y.2.2.1.t2, y.2.2.1.t3, y.2.2.1.t4, y.2.2.1.t5, y.2.2.2.1, y.2.2.2.2.1, y.2.2.2.2.2.1.2⟩)
instance : Inhabited (Sl × Am) := ⟨(⟨none, 0, 0⟩, default)⟩
theorem zsv (l : List (List UInt8)) : (l.map fun s => s.length + 1).sum = sumT l + l.length := by
 unfold sumT
 induction l with
 | nil => rfl
 | cons a l ih => simp only [List.map_cons, List.sum_cons, List.length_cons, ih]; omega
def ActR (W : World) (p : Sl × Am) : Prop := RowO W p.1.v txC p.2.words ∧ CapK p.1.v ∧ -9223372036854775808 ≤ p.2.doc ∧ p.2.doc ≤ 9223372036854775807
theorem zsU : OpensB W 54 actC (ActR W) (fun p => bulkA p.2 + 1) := by
 have hS : OpensB W 54 _ _ _ := zig (W := W) Tryz.underlying54 (total := 11) (by kernel_rfl) (zbQ (k := 1) rfl (by kernel_rfl) (zfi Tryz.underlying3) (zbQ (k := 1) rfl (by kernel_rfl) (zfi Tryz.underlying3) (zbQ (k := 6) rfl (by kernel_rfl) oB_t6 (zbQ (k := 1) rfl (by kernel_rfl) (zfi Tryz.underlying3) (zbQ (k := 1) rfl (by kernel_rfl) (zfz Tryz.underlying9) (zbQ (k := 1) rfl (by kernel_rfl) zrt (zmH (off := 11))))))))
 refine @zhQ W _ _ _ _ _ _ _ _ _ (@hS) mkA (fun y h => ?_) (fun y h => ?_) (fun y h => ?_)
 ·have e := zqz h.2.2.2.2.2.1.1
  show [Value.int .i64 y.1] ++ ([Value.int .i64 y.2.1] ++ (t6C y.2.2.1 ++ ([Value.int .i64 y.2.2.2.1] ++ ([Value.string (str y.2.2.2.2.1)] ++ ([y.2.2.2.2.2.1.1] ++ []))))) = _
  rw [e]; rfl
 ·have e := zqz h.2.2.2.2.2.1.1
  have h1 := h.2.2.2.2.2.1.1
  have h2 := h.2.2.2.2.2.1.2.1
  rw [e] at h1 h2
  exact ⟨h1, h2, h.2.1.1, h.2.1.2⟩
 ·have h1 := zsv y.2.2.2.2.2.1.2
  have h2 := zcX y.2.2.1
  show sumT y.2.2.1.tx + y.2.2.2.2.1.length + y.2.2.2.2.2.1.2.length + sumT y.2.2.2.2.2.1.2 + 1 ≤ _
  omega
theorem zrD : OpensB W 31 (fun y : Value × List (Sl × Am) => [y.1]) (fun y => RowO W y.1 actC y.2 ∧ CapK y.1 ∧ ∀ z ∈ y.2, ActR W z) (fun y => (y.2.map fun p => bulkA p.2 + 1).sum + 1) :=
 zfI (k := 11) Tryz.underlying31 zsU lenAct (by decide) (by kernel_rfl)
variable {H : Type} {enc : TypeId × Value → H} {v : Value} {d : DataW H} {ps : List MemPlace}
theorem ziQ {T : TypeId} {α : Type} {cells : α → List Value} {p : α → Prop} {wt : α → Nat} (h : OpensB W T cells p wt) (ht : DataW.Trod enc Tryz.prog W 0 (fun _ => true) true T v d ps) : ∃ y, v.cells.toList = cells y ∧ p y ∧ wt y ≤ Rows.uptoBulk d := by
 obtain ⟨fuel, hf⟩ := ht
 exact h hf
theorem zpO {a : Option Addr} {n c : Nat} {v : Value} (h : (Value.slice a n c).cells.toList = [v]) : v = .slice a n c := by
 have : [Value.slice a n c] = [v] := h
 injection this with h
 exact h.symm
theorem zsn {α : Type} (f : α → Nat) (l : List α) : (l.map fun a => f a + 1).sum = (l.map f).sum + l.length := by
 induction l with
 | nil => rfl
 | cons a l ih => simp only [List.map_cons, List.sum_cons, List.length_cons, ih]; omega
theorem zsa {a : Option Addr} {n c : Nat} (ht : DataW.Trod enc Tryz.prog W 0 (fun _ => true) true 31 (.slice a n c) d ps) : ∃ lx : List (Sl × Am), RowA W (.slice a n c) lx ∧ (∀ p ∈ lx, -9223372036854775808 ≤ p.2.doc ∧ p.2.doc ≤ 9223372036854775807) ∧ lx.length ≤ Rows.uptoBulk d ∧ wAs (lx.map (·.2)) ≤ 10 * Rows.uptoBulk d := by
 obtain ⟨⟨v, l⟩, h1, ⟨h2, h3, h5⟩, h4⟩ := ziQ zrD ht
 obtain rfl := zpO h1
 dsimp only at h4 h5
 rw [zsn] at h4
 refine ⟨l, ⟨h2, fun p hp => (h5 p hp).1, fun p hp => (h5 p hp).2.1⟩, fun p hp => (h5 p hp).2.2, by omega, ?_⟩
 have key : ∀ l : List (Sl × Am), wAs (l.map (·.2)) ≤ 10 * (l.map fun p => bulkA p.2).sum := fun l => by
  unfold wAs
  induction l with
  | nil => exact Nat.le_refl _
  | cons a l ih =>
   simp only [List.map_cons, List.sum_cons]
   have : wA a.2 ≤ 10 * bulkA a.2 := by unfold wA bulkA; omega
   omega
 have := key l
 omega
end
end Go.Proofs.YtennokckmjcefaaGreatDoor
namespace Go.Proofs.YtennokckmjcefaaGreatDoor
open Go.Shelf Go.RowKit Go.Pw Go.Vc Go.Cs Go.Lib
theorem zkx {P : Program} {w : World} {name : String} {g : Nat} {tS tE : TypeId} {fs : Array Field} {k : IntKind} {zs : List (List Int)} {rest : List (DataW Unit)}
  (h : VarReads P w name (.slice (zs.map fun r => .agg (r.map fun z => .lit (.int k z))) rest)) (hn : P.globalNamed name = some g) (hy : (P.globals[g]?).map (·.type) = some tS)
  (hS : P.underlying tS = some (.slice tE)) (hE : P.underlying tE = some (.struct fs)) (hf : ∀ (i : Nat) (f : Field), fs[i]? = some f → P.underlying f.type = some (.int k) ∧ f.offset = i ∧ P.cellsOf f.type = 1)
  (hc : P.cellsOf tE = fs.size) (h0 : 0 < fs.size) (hz : 0 < zs.length) : ∃ b o c, w.cell? ⟨g, 0, none⟩ = some (.slice (some ⟨b, o, none⟩) zs.length c) ∧ ∀ i, i < zs.length → At w b (o + i * fs.size) ((zs.getD i []).map fun z => Value.int k z) := by
 obtain ⟨g', t, cs, fuel, p, hg, hty, hvar, hd⟩ := h
 obtain rfl := Option.some.inj (hn.symm.trans hg)
 obtain rfl := Option.some.inj (hy.symm.trans hty)
 rcases DataW.trod_slice hS hd with ⟨_, hx⟩ | ⟨a, len, cap, el, rs, m, rfl, hcs, hx, _, hlc, _, hel, helem, hsp, _⟩
 ·cases hx
 have hx1 := congrArg Prod.fst hx
 simp only [DataW.slice.injEq] at hx1
 obtain ⟨eE, eR⟩ := hx1
 have hlen : len = zs.length := by
  have := congrArg List.length eE
  simp at this
  omega
 subst hlen
 have hrange : ∀ i (hi : i < zs.length) j v, (zs[i].map fun z => Value.int k z)[j]? = some v → w.cell? ((a.add (i * fs.size)).add j) = some v := by
  intro i hi j v hv
  have h1 := helem i hi
  rw [hc] at h1
  obtain ⟨b, hb⟩ : ∃ b, el[i]? = some b := ⟨el[i]'(by omega), List.getElem?_eq_getElem (by omega)⟩
  rw [hb] at h1
  obtain ⟨ce, hce, hte⟩ := Option.bind_eq_some_iff.1 h1
  have hb1 : b.1 = .agg (zs[i].map fun z => .lit (.int k z)) := by
   have := congrArg (·[i]?) eE
   simpa [hb, hi] using this.symm
  have hcs := ints_of_struct (p := b.2) hE hf hc (by rw [← hb1]; exact hte)
  obtain ⟨_, hl, hcc⟩ := World.cells?_some hce
  have hj : j < fs.size := by
   have := (List.getElem?_eq_some_iff.1 hv).1
   rw [← hcs, hl] at this
   exact this
  rw [hcc j hj, hcs, hv]
 obtain ⟨R, oR, sR⟩ := a
 obtain rfl : sR = none := by
  have hl0 : 0 < (zs[0].map fun z => Value.int k z).length := by
   have h1 := helem 0 hz
   rw [hc] at h1
   obtain ⟨b, hb⟩ : ∃ b, el[0]? = some b := ⟨el[0]'(by omega), List.getElem?_eq_getElem (by omega)⟩
   rw [hb] at h1
   obtain ⟨ce, hce, hte⟩ := Option.bind_eq_some_iff.1 h1
   have hb1 : b.1 = .agg (zs[0].map fun z => .lit (.int k z)) := by
    have := congrArg (·[0]?) eE
    simpa [hb, hz] using this.symm
   have hcs := ints_of_struct (p := b.2) hE hf hc (by rw [← hb1]; exact hte)
   obtain ⟨_, hl, _⟩ := World.cells?_some hce
   rw [← hcs, hl]; exact h0
  have h00 := hrange 0 hz 0 _ (List.getElem?_eq_getElem hl0)
  have : (Addr.add (Addr.add ⟨R, oR, sR⟩ (0 * fs.size)) 0) = ⟨R, oR, sR⟩ := by simp [Addr.add]
  rw [this] at h00
  exact cell_spot h00
 refine ⟨R, oR, cap, ?_, fun i hi j v hj => ?_⟩
 ·rw [World.var?_cell hg hvar 0, ← Array.getElem?_toList, hcs]
  rfl
 ·rw [List.getD_eq_getElem?_getD, List.getElem?_eq_getElem hi, Option.getD_some] at hj
  have := hrange i hi j v hj
  rw [Addr.add_lit, Addr.add_lit] at this
  exact this
def foldZ : List (List Int) := foldT.map fun x => [x.1, x.2.1, x.2.2.1, x.2.2.2]
theorem zmT : (Rows.laid_pouch_fold_spans : DataW Unit) = .slice (foldZ.map fun r => .agg (r.map fun z => .lit (.int .i32 z))) [] := by kernel_rfl
theorem zlO {W : World} (h : VarReads Tryz.prog W "pouch/fold.spans" Rows.laid_pouch_fold_spans) : FoldTab W := by
 rw [zmT] at h
 obtain ⟨b, o, c, h1, h2⟩ := zkx h (by kernel_rfl) (by kernel_rfl) Tryz.underlying254 Tryz.underlying256 (fun j f hj => by
   match j, hj with
   | 0, hj => simp at hj; subst hj; exact ⟨Tryz.underlying21, rfl, by kernel_rfl⟩
   | 1, hj => simp at hj; subst hj; exact ⟨Tryz.underlying21, rfl, by kernel_rfl⟩
   | 2, hj => simp at hj; subst hj; exact ⟨Tryz.underlying21, rfl, by kernel_rfl⟩
   | 3, hj => simp at hj; subst hj; exact ⟨Tryz.underlying21, rfl, by kernel_rfl⟩
   | j + 4, hj => simp at hj) (by kernel_rfl) (by decide) (by decide)
 refine ⟨b, o, c, h1, fun i hi => ?_⟩
 have := h2 i hi
 have e : (foldZ.getD i []).map (fun z => Value.int .i32 z) = spF (foldSp i) := by
  have : ∀ i : Fin 17, (foldZ.getD i.val []) = [(foldSp i.val).1, (foldSp i.val).2.1, (foldSp i.val).2.2.1, (foldSp i.val).2.2.2] := by decide
  have := this ⟨i, hi⟩
  rw [show foldZ.getD i [] = _ from this]; rfl
 rw [e] at this
 exact this
def cutZ : List (List Int) := cutT.map fun x => [x.1, x.2.1, x.2.2]
theorem zpu : (Rows.laid_pouch_cut_spans : DataW Unit) = .slice (cutZ.map fun r => .agg (r.map fun z => .lit (.int .i64 z))) [] := by kernel_rfl
theorem zmB {W : World} (h : VarReads Tryz.prog W "pouch/cut.spans" Rows.laid_pouch_cut_spans) : CutTab W := by
 rw [zpu] at h
 obtain ⟨b, o, c, h1, h2⟩ := zkx h (by kernel_rfl) (by kernel_rfl) Tryz.underlying227 Tryz.underlying229 (fun j f hj => by
   match j, hj with
   | 0, hj => simp at hj; subst hj; exact ⟨Tryz.underlying3, rfl, by kernel_rfl⟩
   | 1, hj => simp at hj; subst hj; exact ⟨Tryz.underlying3, rfl, by kernel_rfl⟩
   | 2, hj => simp at hj; subst hj; exact ⟨Tryz.underlying3, rfl, by kernel_rfl⟩
   | j + 3, hj => simp at hj) (by kernel_rfl) (by decide) (by decide)
 refine ⟨b, o, c, h1, fun i hi => ?_⟩
 have := h2 i hi
 have e : (cutZ.getD i []).map (fun z => Value.int .i64 z) = spV (cutSp i) := by
  have : ∀ i : Fin 19, (cutZ.getD i.val []) = [(cutSp i.val).1, (cutSp i.val).2.1, (cutSp i.val).2.2] := by decide
  have := this ⟨i, hi⟩
  rw [show cutZ.getD i [] = _ from this]; rfl
 rw [e] at this
 exact this
end Go.Proofs.YtennokckmjcefaaGreatDoor
