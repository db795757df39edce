/- Helper lemmas; no conditions of their own. -/
import Derived.Test.YtennokckmjcefaaGreatDoorGMg1
set_option linter.unusedVariables false
set_option maxHeartbeats 8000000
set_option maxRecDepth 100000
namespace Go.Proofs.YtennokckmjcefaaGreatDoor
open Go.Shelf Go.RowKit Go.Pw Go.Vc Go.Cs Go.Lib Go.Cd Go.Mg
theorem zcj {s : St} (h : stL s ≠ 0) : stL (numR s).2 < stL s := by
 cases s with
 | none => exact absurd rfl h
 | some u =>
  cases hr : (numR (some u)).2 with
  | none => simp only [stL] at *; omega
  | some r => have := zhi (some u) u r rfl hr; simp only [stL]; omega
theorem zbs (s : St) : stL (numR s).2 ≤ stL s := by
 cases s with
 | none => exact yag _
 | some u =>
  cases hr : (numR (some u)).2 with
  | none => simp [stL]
  | some r => have := zhi (some u) u r rfl hr; simp only [stL]; omega
theorem bs1P (x : Pr) (w : World) : (Instr.buildSlice 37 1 [(0, .agg (prC x).toArray)].toArray).run Tryz.prog w = .ok (.slice (some ⟨w.heap.size, 0, none⟩) 1 1) (w.alloc (.cells (List.toArray (prC x)) 44)) := by
 simp [Instr.buildSlice, go_sem, Tryz.runUnderlying37, prC]
theorem zej (d : Int) (w : World) : (Instr.build 44 [(0, .int .i64 d)].toArray).run Tryz.prog w = .ok (.agg #[.int .i64 d, .slice none 0 0]) w := by
 simp [Instr.build, go_sem, Tryz.runUnderlying44]
section
variable {w : World} {b : Nat}
theorem zeO (s : St) (h : VarK w b 139 (rdC s)) : Calls Tryz.prog 52 #[.pointer (some ⟨b, 0, none⟩)] w fun e w' => e = .returned (.int .i64 (stL s : Nat)) ∧ Kp w w' n_ := by
 obtain ⟨u, y, hc, hu⟩ : ∃ u y, rdC s = [.string (str u), y] ∧ stL s = u.length := by
  cases s with
  | none => exact ⟨[], _, rfl, rfl⟩
  | some u => exact ⟨u, _, rfl, rfl⟩
 rw [hc] at h
 have ha := h.at
 refine zaa (args := [.pointer (some ⟨b, 0, none⟩)]) Tryz.func52 rfl NL ?_; refine GW ?_
 refine KGO ?_
 exact ⟨by rw [hu]; rfl, Yb _ _⟩
theorem zps (n k : Nat) (hn : n ≤ 1099511627777) (hk : k < 2 ^ 63) : Calls Tryz.prog 221 #[.int .i64 (n : Nat), .int .i64 (k : Nat)] w fun e w' => e = .returned (.int .i64 (stepN n k : Nat)) ∧ Kp w w' n_ := by
 refine zaa (args := [.int .i64 (n : Nat), .int .i64 (k : Nat)]) Tryz.func221 rfl NL ?_; refine GW ?_
 by_cases h : 1099511627776 < k
 ·refine KGO ?_
  exact ⟨by unfold stepN; rw [if_pos h]; rfl, Yb _ _⟩
 refine KGO ?_
 exact ⟨by unfold stepN; rw [if_neg h]; congr 2; omega, Yb _ _⟩
theorem zkF (n k : Nat) : stepN n k ≤ 1099511627777 := by
 unfold stepN
 split <;> omega
theorem zdS (u : List UInt8) (hu : u.length ≤ 10000000) : Calls Tryz.prog 167 #[.string (str u)] w fun e w' =>
  (∃ v, e = .returned (.tuple #[v, .bool (decP u).isSome]) ∧ OwnP w' w.heap.size v ((decP u).getD []) ∧ (decP u = none → v = .slice none 0 0)) ∧ Kp w w' n_ := by
 refine zaa (args := [.string (str u)]) Tryz.func167 rfl NL ?_; refine GW ?_
 refine Ya (Tryz.call50 _ _) (zjG (str u)) ?_
 rintro e w1 ⟨rfl, h1, k1⟩
 obtain ⟨rb, hrb⟩ : ∃ rb, w.heap.size = rb := ⟨_, rfl⟩
 rw [hrb] at h1 ⊢
 have hstr : L (str u) = u := rfl
 rw [hstr] at h1
 refine RT ?_
 refine Ya (Tryz.call51 _ _) (zcx (some u) h1 (fun x e => by injection e with e; subst e; omega)) ?_
 rintro e w2 ⟨rfl, h2, k2⟩
 have K2 : Kp w w2 n_ := keeps_new k1 k2 OM
 have hl2 := zbs (some u)
 have hlt := zaW (some u)
 have hdl : decL u = dDoc (numR (some u)).1 0 (numR (some u)).2 := rfl
 generalize numR (some u) = q at *
 obtain ⟨n0, s0⟩ := q
 dsimp only at h2 hl2 hlt hdl ⊢
 refine RT ?_
 refine Yc (ι := (Nat × Nat) × St × Value × List Pr) (fun i => [(0, .string (str u)), (4, .pointer (some ⟨rb, 0, none⟩)), (5, i.2.2.1), (6, .int .i64 (i.1.2 : Nat)), (7, .int .i64 (i.1.1 : Nat))])
  (fun i wr => Kp w wr n_ ∧ VarK wr rb 139 (rdC i.2.1) ∧ OwP wr rb i.2.2.1 i.2.2.2 ∧ i.2.2.2.map (·.p) ++ (dDoc i.1.1 i.1.2 i.2.1).1 = (decL u).1 ∧ (dDoc i.1.1 i.1.2 i.2.1).2 = (decL u).2 ∧ (encN 0 (i.2.2.2.map (·.p))).length + 2 * stL i.2.1 ≤ 2 * u.length ∧ i.1.1 < 2 ^ 63 ∧ i.1.2 ≤ 1099511627777)
  (fun i => i.1.1) ((n0, 0), s0, .slice none 0 0, []) FR ⟨K2, h2, ⟨World.ownsRow_nil _ _ _ _, fun x h => by cases h⟩, by rw [hdl]; rfl, by rw [hdl], by have : stL (some u) = u.length := rfl; rw [this] at hl2; show 0 + 2 * stL s0 ≤ _; omega, hlt, yal _⟩ ?_
 rintro ⟨⟨k, d⟩, st, vo, lx⟩ gg wr ⟨hK, hv, ho, hd1, hd2, hsz, hk63, hdm⟩
 dsimp only at hv ho hd1 hd2 hsz hk63 hdm ⊢
 obtain ⟨ao, co, rfl⟩ := zab ho.row
 refine GW ?_
 by_cases hk0 : k = 0
 ·have hdz : dDoc k d st = ([], st) := by rw [hk0]; rfl
  refine KGO ?_
  have e1 : lx.map (·.p) = (decL u).1 := by rw [← hd1, hdz, yaA]
  have e2 : st = (decL u).2 := by rw [← hd2, hdz]
  refine Ya (Tryz.call56 _ _) (zhV st hv (fun x e => by subst e; simp only [stL] at hsz; omega)) ?_
  rintro e w3 ⟨rfl, k3⟩
  refine RT ?_
  have hdp : decP u = if st = some [] ∧ encP (lx.map (·.p)) = u then some (lx.map (·.p)) else none := by unfold decP; rw [e1, e2]
  have hn := zaZ (lx.map (·.p))
  by_cases hst : st = some []
  rotate_left
  ·rw [decide_eq_false hst]
   rw [if_neg (fun h => hst h.1)] at hdp
   refine KGO ?_
   rw [hdp]
   exact ⟨⟨_, rfl, ownP_nil _ _, fun _ => rfl⟩, hK.trans0 k3⟩
  rw [decide_eq_true hst]
  refine KGO ?_
  refine Ya (Tryz.call142 _ _) (zdZ (w := w3) (lx.map (·.p)) ⟨lx, rfl, (ho.keep k3).rd⟩ OM (fun p hp => by have := zbj _ p hp; omega) OM) ?_
  rintro e w4 ⟨rfl, k4⟩
  refine RT ?_
  have ho4 := (ho.keep k3).keep k4
  by_cases heq : encP (lx.map (·.p)) = u
  ·rw [heq] at hdp ⊢
   rw [if_pos ⟨hst, rfl⟩] at hdp
   refine KGO ?_
   rw [hdp]
   exact ⟨⟨_, rfl, ⟨lx, rfl, ho4⟩, fun h => by cases h⟩, (hK.trans0 k3).trans0 k4⟩
  rw [if_neg (fun h => heq h.2)] at hdp
  refine KGO ?_
  refine Br.dec_no (fun h => heq (zbB.1 h)) ?_
  refine GW ?_
  refine KGO ?_
  rw [hdp]
  exact ⟨⟨_, rfl, ownP_nil _ _, fun _ => rfl⟩, (hK.trans0 k3).trans0 k4⟩
 obtain ⟨k, rfl⟩ : ∃ k', k = k' + 1 := ⟨k - 1, OM⟩
 refine KGO ?_
 refine Ya (Tryz.call52 _ _) (zeO st hv) ?_
 rintro e w3 ⟨rfl, k3⟩
 have hv := hv.keep0 k3
 have ho := ho.keep k3
 have hK := hK.trans0 k3
 refine RT ?_
 by_cases hs0 : stL st = 0
 ·have hdz : dDoc (k + 1) d st = ([], st) := by rw [dDoc, if_pos hs0]
  refine KGO ?_
  have e1 : lx.map (·.p) = (decL u).1 := by rw [← hd1, hdz, yaA]
  have e2 : st = (decL u).2 := by rw [← hd2, hdz]
  refine Ya (Tryz.call56 _ _) (zhV st hv (fun x e => by subst e; simp only [stL] at hsz; omega)) ?_
  rintro e w3 ⟨rfl, k3⟩
  refine RT ?_
  have hdp : decP u = if st = some [] ∧ encP (lx.map (·.p)) = u then some (lx.map (·.p)) else none := by unfold decP; rw [e1, e2]
  have hn := zaZ (lx.map (·.p))
  by_cases hst : st = some []
  rotate_left
  ·rw [decide_eq_false hst]
   rw [if_neg (fun h => hst h.1)] at hdp
   refine KGO ?_
   rw [hdp]
   exact ⟨⟨_, rfl, ownP_nil _ _, fun _ => rfl⟩, hK.trans0 k3⟩
  rw [decide_eq_true hst]
  refine KGO ?_
  refine Ya (Tryz.call142 _ _) (zdZ (w := w3) (lx.map (·.p)) ⟨lx, rfl, (ho.keep k3).rd⟩ OM (fun p hp => by have := zbj _ p hp; omega) OM) ?_
  rintro e w4 ⟨rfl, k4⟩
  refine RT ?_
  have ho4 := (ho.keep k3).keep k4
  by_cases heq : encP (lx.map (·.p)) = u
  ·rw [heq] at hdp ⊢
   rw [if_pos ⟨hst, rfl⟩] at hdp
   refine KGO ?_
   rw [hdp]
   exact ⟨⟨_, rfl, ⟨lx, rfl, ho4⟩, fun h => by cases h⟩, (hK.trans0 k3).trans0 k4⟩
  rw [if_neg (fun h => heq h.2)] at hdp
  refine KGO ?_
  refine Br.dec_no (fun h => heq (zbB.1 h)) ?_
  refine GW ?_
  refine KGO ?_
  rw [hdp]
  exact ⟨⟨_, rfl, ownP_nil _ _, fun _ => rfl⟩, (hK.trans0 k3).trans0 k4⟩
 rw [dDoc, if_neg hs0] at hd1 hd2
 dsimp only at hd1 hd2
 have hsl := zcj hs0
 refine KGO ?_
 have hst0 : ∀ s x, s = some x → stL s ≤ u.length → x.length ≤ 140737488355328 := fun s x e h => by subst e; simp only [stL] at h; omega
 refine Ya (Tryz.call51 _ _) (zcx st hv (fun x e => hst0 st x e OM)) ?_
 rintro e w4 ⟨rfl, h4, k4⟩
 have hbl := zaW st
 have K4 : Kp w w4 n_ := keeps_new hK k4 OM
 have ho4 := ho.keepT k4 (zag hv (by decide))
 generalize numR st = q1 at *
 obtain ⟨n1, s1⟩ := q1
 dsimp only at h4 hbl hd1 hd2 hsl ⊢
 refine RT ?_
 refine Ya (Tryz.call221 _ _) (zps (w := w4) d n1 hdm hbl) ?_
 rintro e w5 ⟨rfl, k5⟩
 have h5 := h4.keep0 k5
 have K5 := K4.trans0 k5
 have ho5 := ho4.keep k5
 have hsle := zkF d n1
 refine RT ?_
 generalize stepN d n1 = d' at *
 refine KGO ?_
 refine Ye (zej (d' : Nat) _) ?_
 refine KGO ?_
 have v_b8 := Yk w5 44 [.int .i64 (d' : Nat), .slice none 0 0]
 refine Yg (vs := [.int .i64 (d' : Nat), .slice none 0 0]) (by rfl) rfl (zak (by rfl)) ?_
 obtain ⟨a_b8, k_w6, z_w6⟩ := new3 w5 44 ([.int .i64 (d' : Nat), .slice none 0 0])
 generalize w5.alloc (.cells (List.toArray ([.int .i64 (d' : Nat), .slice none 0 0])) 44) = w6 at *
 generalize hs_b8 : w5.heap.size = b8 at *
 have h6 := h5.keep0 k_w6
 refine KGO ?_
 refine Ya (Tryz.call51 _ _) (zcx s1 h6 (fun x e => hst0 s1 x e OM)) ?_
 rintro e w7 ⟨rfl, h7, k7⟩
 have hcl := zaW s1
 have hsl2 := zbs s1
 generalize numR s1 = q2 at *
 obtain ⟨c0, s2⟩ := q2
 dsimp only at h7 hcl hd1 hd2 hsl2 ⊢
 refine RT ?_
 have hrb8 : rb < b8 := by have := h5.lt; omega
 have J7 : Kp w5 w7 (one_ rb) := (k_w6.of_none (c := one_ rb)).trans' k7
 have v_b8 := v_b8.keep k7 (show ¬ b8 = rb by omega)
 clear h4 h6 k4 k7 a_b8 h1 h2 k2 K2 k1 hl2 hlt hdl ho4 hv ho hK
 refine Yc (ι := (Nat × Nat) × St × Value × List Int) (fun i => [(0, .string (str u)), (4, .pointer (some ⟨rb, 0, none⟩)), (5, .slice ao lx.length co), (6, .int .i64 (d' : Nat)), (7, .int .i64 ((k + 1 : Nat) : Int)), (8, .pointer (some ⟨b8, 0, none⟩)), (9, .int .i64 (i.1.2 : Nat)), (10, .int .i64 (i.1.1 : Nat))])
  (fun i wr => Kp w5 wr (one_ rb) ∧ VarK wr rb 139 (rdC i.2.1) ∧ VarK wr b8 44 [.int .i64 (d' : Nat), i.2.2.1] ∧ OwnI wr b8 i.2.2.1 i.2.2.2 ∧ i.2.2.2 ++ (dPl i.1.1 i.1.2 i.2.1).1 = (dPl c0 0 s2).1 ∧ (dPl i.1.1 i.1.2 i.2.1).2 = (dPl c0 0 s2).2 ∧ i.2.2.2.length + stL i.2.1 ≤ stL s2 ∧ i.1.1 < 2 ^ 63 ∧ i.1.2 ≤ 1099511627777)
  (fun i => i.1.1) ((c0, 0), s2, .slice none 0 0, []) FR ⟨J7, h7, v_b8, World.ownsRow_nil _ _ _ _, rfl, rfl, by show 0 + stL s2 ≤ _; omega, hcl, yal _⟩ ?_
 clear J7 h7 v_b8
 rintro ⟨⟨c, a⟩, s, vp, pl⟩ gg2 wq ⟨hJ, hv, h8, hp, hp1, hp2, hps, hc63, ham⟩
 dsimp only at hv h8 hp hp1 hp2 hps hc63 ham ⊢
 obtain ⟨ap, cp, rfl⟩ := zab hp
 have a8 := h8.at
 have hzq := hJ.size
 refine GW ?_
 by_cases hc0 : c = 0
 ·have hdz : dPl c a s = ([], s) := by rw [hc0]; rfl
  obtain ⟨wend, rfl⟩ : ∃ x, x = wq := ⟨_, rfl⟩
  have e1 : pl = (dPl c0 0 s2).1 := by rw [← hp1, hdz, yaA]
  have e2 : s = (dPl c0 0 s2).2 := by rw [← hp2, hdz]
  rw [← e1, ← e2] at hd1
  rw [← e2] at hd2
  have hoq := ho5.keepT hJ (zag h5 (by decide))
  have Kq : Kp w wend n_ := keeps_new K5 hJ OM
  have zq := Kq.size
  have hn := zaZ (lx.map (·.p))
  rw [yaf] at hn
  refine KGO ?_
  refine Ye (bs1P ⟨⟨(d' : Nat), pl⟩, ⟨ap, pl.length, cp⟩⟩ _) ?_
  obtain ⟨a_b14, v_b14, k_w14, z_w14, r_w14⟩ := new5 wend 44 (prC ⟨⟨(d' : Nat), pl⟩, ⟨ap, pl.length, cp⟩⟩)
  generalize wend.alloc (.cells (List.toArray (prC ⟨⟨(d' : Nat), pl⟩, ⟨ap, pl.length, cp⟩⟩)) 44) = w14 at *
  generalize hs_b14 : wend.heap.size = b14 at *
  have ho14 := hoq.keep k_w14
  have h14 := hv.keep0 k_w14
  have p14 := own_keep0 hp k_w14
  have K14 := Kq.trans0 k_w14
  have z14 := K14.size
  refine KGO ?_
  refine tyP.app1 (⟨⟨(d' : Nat), pl⟩, ⟨ap, pl.length, cp⟩⟩ : Pr) ho14.row OM a_b14 OM OM fun v15 w15 o15 k15 => ?_
  have ho15 : OwP w15 rb v15 (lx ++ [⟨⟨(d' : Nat), pl⟩, ⟨ap, pl.length, cp⟩⟩]) := ⟨o15, fun y hy => by
   rcases yaj.1 hy with hy | hy
   ·exact zad (D := [3]) (ho14.pl y hy) k15 (zaC ho14.row (by decide)) (by decide)
   rw [yac.1 hy]
   exact own_base (zad (D := [3]) p14 k15 (zaC ho14.row (by decide)) (by decide)) OM⟩
  have h15 := h14.keep k15 (zac ho14.row h14 (by decide))
  have K15 := zav ho14.row k15 K14 OM
  obtain ⟨a15, c15, rfl⟩ := zab o15
  refine KGO ?_
  exact ⟨((k, d'), s, .slice a15 (lx ++ [(⟨⟨(d' : Nat), pl⟩, ⟨ap, pl.length, cp⟩⟩ : Pr)]).length c15, lx ++ [⟨⟨(d' : Nat), pl⟩, ⟨ap, pl.length, cp⟩⟩]), FR, ⟨K15, h15, ho15, by rw [List.map_append, List.append_assoc]; exact hd1, hd2, by rw [List.map_append, List.map_singleton, encN_snoc]; dsimp only; omega, DO, hsle⟩, DO⟩
 obtain ⟨c, rfl⟩ : ∃ c', c = c' + 1 := ⟨c - 1, OM⟩
 refine KGO ?_
 refine Ya (Tryz.call52 _ _) (zeO s hv) ?_
 rintro e w8 ⟨rfl, k8⟩
 have hJ := hJ.trans' (k8.of_none (c := one_ rb))
 have hv := hv.keep0 k8
 have h8 := h8.keep0 k8
 have hp := own_keep0 hp k8
 have a8 := h8.at
 refine RT ?_
 by_cases hs0 : stL s = 0
 ·have hdz : dPl (c + 1) a s = ([], s) := by rw [dPl, if_pos hs0]
  obtain ⟨wend, rfl⟩ : ∃ x, x = w8 := ⟨_, rfl⟩
  have e1 : pl = (dPl c0 0 s2).1 := by rw [← hp1, hdz, yaA]
  have e2 : s = (dPl c0 0 s2).2 := by rw [← hp2, hdz]
  rw [← e1, ← e2] at hd1
  rw [← e2] at hd2
  have hoq := ho5.keepT hJ (zag h5 (by decide))
  have Kq : Kp w wend n_ := keeps_new K5 hJ OM
  have zq := Kq.size
  have hn := zaZ (lx.map (·.p))
  rw [yaf] at hn
  refine KGO ?_
  refine Ye (bs1P ⟨⟨(d' : Nat), pl⟩, ⟨ap, pl.length, cp⟩⟩ _) ?_
  obtain ⟨a_b14, v_b14, k_w14, z_w14, r_w14⟩ := new5 wend 44 (prC ⟨⟨(d' : Nat), pl⟩, ⟨ap, pl.length, cp⟩⟩)
  generalize wend.alloc (.cells (List.toArray (prC ⟨⟨(d' : Nat), pl⟩, ⟨ap, pl.length, cp⟩⟩)) 44) = w14 at *
  generalize hs_b14 : wend.heap.size = b14 at *
  have ho14 := hoq.keep k_w14
  have h14 := hv.keep0 k_w14
  have p14 := own_keep0 hp k_w14
  have K14 := Kq.trans0 k_w14
  have z14 := K14.size
  refine KGO ?_
  refine tyP.app1 (⟨⟨(d' : Nat), pl⟩, ⟨ap, pl.length, cp⟩⟩ : Pr) ho14.row OM a_b14 OM OM fun v15 w15 o15 k15 => ?_
  have ho15 : OwP w15 rb v15 (lx ++ [⟨⟨(d' : Nat), pl⟩, ⟨ap, pl.length, cp⟩⟩]) := ⟨o15, fun y hy => by
   rcases yaj.1 hy with hy | hy
   ·exact zad (D := [3]) (ho14.pl y hy) k15 (zaC ho14.row (by decide)) (by decide)
   rw [yac.1 hy]
   exact own_base (zad (D := [3]) p14 k15 (zaC ho14.row (by decide)) (by decide)) OM⟩
  have h15 := h14.keep k15 (zac ho14.row h14 (by decide))
  have K15 := zav ho14.row k15 K14 OM
  obtain ⟨a15, c15, rfl⟩ := zab o15
  refine KGO ?_
  exact ⟨((k, d'), s, .slice a15 (lx ++ [(⟨⟨(d' : Nat), pl⟩, ⟨ap, pl.length, cp⟩⟩ : Pr)]).length c15, lx ++ [⟨⟨(d' : Nat), pl⟩, ⟨ap, pl.length, cp⟩⟩]), FR, ⟨K15, h15, ho15, by rw [List.map_append, List.append_assoc]; exact hd1, hd2, by rw [List.map_append, List.map_singleton, encN_snoc]; dsimp only; omega, DO, hsle⟩, DO⟩
 rw [dPl, if_neg hs0] at hp1 hp2
 dsimp only at hp1 hp2
 have hsq := zcj hs0
 refine KGO ?_
 refine Ya (Tryz.call51 _ _) (zcx s hv (fun x e => hst0 s x e OM)) ?_
 rintro e w9 ⟨rfl, h9, k9⟩
 have hbl := zaW s
 have J9 := hJ.trans' k9
 have v9 := h8.keep k9 (show ¬ b8 = rb by omega)
 have p9 := zad (D := [3]) hp k9 (zag hv (by decide)) (by decide)
 clear hp h8 a8
 generalize numR s = q3 at *
 obtain ⟨n3, s3⟩ := q3
 dsimp only at h9 hbl hp1 hp2 hsq ⊢
 refine RT ?_
 refine Ya (Tryz.call221 _ _) (zps (w := w9) a n3 ham hbl) ?_
 rintro e w10 ⟨rfl, k10⟩
 have h10 := h9.keep0 k10
 have v10 := v9.keep0 k10
 have p10 := own_keep0 p9 k10
 have J10 := J9.trans' (k10.of_none (c := one_ rb))
 have hale := zkF a n3
 have a10 := v10.at
 refine RT ?_
 generalize stepN a n3 = a' at *
 refine KGO ?_
 refine Ye (bs1I (a' : Nat) _) ?_
 obtain ⟨a_b11, v_b11, k_w11, z_w11, r_w11⟩ := new5 w10 3 (inC (a' : Nat))
 generalize w10.alloc (.cells (List.toArray (inC (a' : Nat))) 3) = w11 at *
 generalize hs_b11 : w10.heap.size = b11 at *
 have v11 := v10.keep0 k_w11
 have h11 := h10.keep0 k_w11
 have p11 := own_keep0 p10 k_w11
 have J11 := J10.trans' (k_w11.of_none (c := one_ rb))
 have z11 := J11.size
 refine KGO ?_
 refine tyI.app1 (a' : Int) p11 OM a_b11 OM OM fun v12 w12 o12 k12 => ?_
 have J12 := zav p11 k12 J11 OM
 have v12' := v11.keep k12 (zac p11 v11 (by decide))
 have h12 := h11.keep k12 (zac p11 h11 (by decide))
 obtain ⟨a12, c12, rfl⟩ := zab o12
 refine KGO ?_
 refine Yd (i := 1) v12' (by simp) (by rfl) ⟨rfl, by simp, by simp⟩ fun w13 v13 k13 => ?_
 have h13 := h12.keep k13 (show ¬ rb = b8 by omega)
 have p13 := zad (D := [3]) o12 k13 (zag v12' (by decide)) (by decide)
 have J13 : Kp w5 w13 (one_ rb) := J12.trans k13 fun q hq e => by have e : q = b8 := e; omega
 refine KGO ?_
 exact ⟨((c, a'), s3, _, pl ++ [(a' : Int)]), FR, ⟨J13, h13, v13, p13, by rw [List.append_assoc]; exact hp1, hp2, by rw [List.length_append, List.length_singleton]; dsimp only; omega, DO, hale⟩, DO⟩
end
def PtrO {α : Type} (w : World) (c : α → List Value) (v : Value) : Option α → Prop
 | none => v = .pointer none
 | some x => ∃ g o, v = .pointer (some ⟨g, o, none⟩) ∧ At w g o (c x)
theorem zbt {α : Type} {w : World} {c : α → List Value} {g o : Nat} {x : α} {xs : List α} (h : At w g o ((x :: xs).flatMap c)) : At w g o (c x) := fun j v hj => h j v (by
 rw [yao, List.getElem?_append_left (List.getElem?_eq_some_iff.1 hj).1]; exact hj)
theorem zaA {α : Type} {w : World} {c : α → List Value} {s g o cp : Nat} {x : α} {xs : List α} (hs : ∀ x, (c x).length = s) (h : At w g o ((x :: xs).flatMap c)) (hg : g < w.heap.size) (hc : xs.length + 1 ≤ cp) :
  RowO w (.slice (some ⟨g, if 1 = cp then o else o + 1 * s, none⟩) (xs.length + 1 - 1) (cp - 1)) c xs :=
 ⟨_, _, rfl, fun h0 => ⟨g, _, rfl, hg, by
  rw [if_neg OM]
  exact zhr hs h 1⟩⟩
theorem cap_tail {a : Option Addr} {n cp : Nat} (h : n + 1 ≤ cp) : CapK (.slice a (n + 1 - 1) (cp - 1)) := fun a' n' c' e => by
 injection e with _ e1 e2
 omega
section
variable {w : World}
theorem zrj {w0 : World} {va vb p0 : Value} {g1 g2 : Nat} (la lb : List Int) (cmp : Int → Int → Int) (I : List (Option Int × Option Int) → World → Prop)
  (ha : RowO w0 va inC la) (hb : RowO w0 vb inC lb) (hca : CapK va) (hcb : CapK vb) (hla : la.length ≤ 1000000000000) (hlb : lb.length ≤ 1000000000000)
  (hg1 : ∀ (args : Array Value) (w : World), (callFunc g1 args).run Tryz.prog w = .ok (.enter g1 args) w) (hg2 : ∀ (args : Array Value) (w : World), (callFunc g2 args).run Tryz.prog w = .ok (.enter g2 args) w)
  (hI : ∀ d u, I d u → Kp w0 u n_) (hIk : ∀ d u u', I d u → Kp u u' n_ → I d u')
  (hcmp : ∀ x y u, Kp w0 u n_ → Calls Tryz.prog g1 #[.int .i64 x, .int .i64 y] u fun e u' => e = .returned (.int .i64 (cmp x y)) ∧ Kp u u' n_)
  (hsee : ∀ d rest xo yo px py u, bothL cmp la lb = d ++ (xo, yo) :: rest → Kp w0 u n_ → PtrO w0 inC px xo → PtrO w0 inC py yo → I d u →
   Calls Tryz.prog g2 #[px, py, p0] u fun e u' => e = .returned (.tuple #[]) ∧ I (d ++ [(xo, yo)]) u') (h0 : I [] w) :
  Calls Tryz.prog 223 #[va, vb, .func (.func g1) #[] #[], .func (.func g2) #[] #[p0]] w fun e w' => e = .returned (.tuple #[]) ∧ I (bothL cmp la lb) w' := by
 obtain ⟨a, ca, rfl, hra⟩ := ha
 obtain ⟨b, cb, rfl, hrb⟩ := hb
 refine zaa (args := [.slice a la.length ca, .slice b lb.length cb, .func (.func g1) #[] #[], .func (.func g2) #[] #[p0]]) Tryz.func223 rfl NL ?_; refine GW ?_
 refine Yc (ι := (Value × List Int) × (Value × List Int) × List (Option Int × Option Int)) (fun i => [(0, i.1.1), (1, i.2.1.1), (2, .func (.func g1) #[] #[]), (3, .func (.func g2) #[] #[p0])])
  (fun i wr => RowO w0 i.1.1 inC i.1.2 ∧ CapK i.1.1 ∧ RowO w0 i.2.1.1 inC i.2.1.2 ∧ CapK i.2.1.1 ∧ i.2.2 ++ bothL cmp i.1.2 i.2.1.2 = bothL cmp la lb ∧ I i.2.2 wr ∧ i.1.2.length ≤ la.length ∧ i.2.1.2.length ≤ lb.length)
  (fun i => i.1.2.length + i.2.1.2.length) ((.slice a la.length ca, la), (.slice b lb.length cb, lb), []) FR ⟨⟨a, ca, rfl, hra⟩, hca, ⟨b, cb, rfl, hrb⟩, hcb, rfl, h0, yag _, yag _⟩ ?_
 clear hra hrb hca hcb h0
 rintro ⟨⟨vx, xs⟩, ⟨vy, ys⟩, d⟩ gg wr ⟨hx, hcx, hy, hcy, hd, hi, hlx, hly⟩
 dsimp only at hx hcx hy hcy hd hi hlx hly ⊢
 have hx0 := hx
 have hy0 := hy
 obtain ⟨a, ca, rfl, hra⟩ := hx
 obtain ⟨b, cb, rfl, hrb⟩ := hy
 have hca := hcx _ _ _ rfl
 have hcb := hcy _ _ _ rfl
 have hK := hI _ _ hi
 have hid : I d wr.drew := hIk _ _ _ hi (Yb wr n_).drew
 refine GW ?_
 cases xs with
 | nil =>
  cases ys with
  | nil =>
   rw [yaE] at *
   refine KGO ?_
   rw [show bothL cmp [] [] = [] from rfl, yaA] at hd
   rw [← hd]
   exact ⟨rfl, hi⟩
  | cons y ys =>
   obtain ⟨gy, oy, rfl, hgy, hay⟩ := hrb (by simp)
   rw [show bothL cmp [] (y :: ys) = (none, some y) :: bothL cmp [] ys from rfl] at hd
   have hay1 : At w0 gy (oy + 0 * 1) (inC y) := by rw [yaO]; exact zbt hay
   rw [yaE, yab] at *
   refine KGO ?_
   refine Yj (l := 1) OM OM ?_
   refine GW ?_
   refine KGO ?_
   refine Ya (hg2 _ _) (hsee d _ none (some y) _ _ _ hd.symm hK.drew rfl ⟨gy, _, rfl, hay1⟩ hid) ?_
   rintro e w1 ⟨rfl, hi1⟩
   refine RT ?_
   exact ⟨((_, []), (_, ys), d ++ [(none, some y)]), FR, ⟨hx0, hcx, zaA (fun _ => rfl) hay hgy hcb, cap_tail hcb, by rw [List.append_assoc]; exact hd, hi1, hlx, DO⟩, by dsimp only [List.length_cons]; omega⟩
 | cons x xs =>
  obtain ⟨gx, ox, rfl, hgx, hax⟩ := hra (by simp)
  have hax1 : At w0 gx (ox + 0 * 1) (inC x) := by rw [yaO]; exact zbt hax
  cases ys with
  | nil =>
   rw [zaV, yas] at hd
   rw [yaE, yab] at *
   refine KGO ?_
   refine Yj (l := 1) OM OM ?_
   refine GW ?_
   refine KGO ?_
   refine Ya (hg2 _ _) (hsee d _ (some x) none _ _ _ hd.symm hK.drew ⟨gx, _, rfl, hax1⟩ rfl hid) ?_
   rintro e w1 ⟨rfl, hi1⟩
   refine RT ?_
   exact ⟨((_, xs), (_, []), d ++ [(some x, none)]), FR, ⟨zaA (fun _ => rfl) hax hgx hca, cap_tail hca, hy0, hcy, by rw [List.append_assoc, zaV]; exact hd, hi1, DO, hly⟩, by dsimp only [List.length_cons]; omega⟩
  | cons y ys =>
   obtain ⟨gy, oy, rfl, hgy, hay⟩ := hrb (by simp)
   have hay1 : At w0 gy (oy + 0 * 1) (inC y) := by rw [yaO]; exact zbt hay
   rw [zbh] at hd
   rw [yab, yab] at *
   refine KGO ?_
   refine Ya (hg1 _ _) (hcmp x y _ hK.drew) ?_
   rintro e w1 ⟨rfl, k1⟩
   have hi1 := hIk _ _ _ hid k1
   have hK1 := hI _ _ hi1
   have hi2 : I d w1.drew := hIk _ _ _ hi1 (Yb w1 n_).drew
   have hi3 : I d w1.drew.drew := hIk _ _ _ hi2 (Yb w1.drew n_).drew
   refine RT ?_
   by_cases h1 : cmp x y < 0
   ·rw [if_pos h1] at hd
    refine KGO ?_
    refine Yj (l := 1) OM OM ?_
    refine GW ?_
    refine KGO ?_
    refine KGO ?_
    refine Ya (hg2 _ _) (hsee d _ (some x) none _ _ _ hd.symm hK1.drew ⟨gx, _, rfl, hax1⟩ rfl hi2) ?_
    rintro e w2 ⟨rfl, hi4⟩
    refine RT ?_
    exact ⟨((_, xs), (_, y :: ys), d ++ [(some x, none)]), FR, ⟨zaA (fun _ => rfl) hax hgx hca, cap_tail hca, hy0, hcy, by rw [List.append_assoc]; exact hd, hi4, DO, by dsimp only [List.length_cons]; omega⟩, by dsimp only [List.length_cons]; omega⟩
   rw [if_neg h1] at hd
   by_cases h2 : cmp x y = 0
   ·rw [if_pos h2] at hd
    refine KGO ?_
    refine Yj (l := 1) OM OM ?_
    refine GW ?_
    refine KGO ?_
    refine KGO ?_
    refine Yj (l := 1) OM OM ?_
    refine GW ?_
    refine KGO ?_
    refine Ya (hg2 _ _) (hsee d _ (some x) (some y) _ _ _ hd.symm (hI _ _ hi3) ⟨gx, _, rfl, hax1⟩ ⟨gy, _, rfl, hay1⟩ hi3) ?_
    rintro e w2 ⟨rfl, hi4⟩
    refine RT ?_
    exact ⟨((_, xs), (_, ys), d ++ [(some x, some y)]), FR, ⟨zaA (fun _ => rfl) hax hgx hca, cap_tail hca, zaA (fun _ => rfl) hay hgy hcb, cap_tail hcb, by rw [List.append_assoc]; exact hd, hi4, DO, DO⟩, by dsimp only [List.length_cons]; omega⟩
   rw [if_neg h2] at hd
   refine KGO ?_
   refine Yj (l := 1) OM OM ?_
   refine GW ?_
   refine KGO ?_
   refine Ya (hg2 _ _) (hsee d _ none (some y) _ _ _ hd.symm hK1.drew rfl ⟨gy, _, rfl, hay1⟩ hi2) ?_
   rintro e w2 ⟨rfl, hi4⟩
   refine RT ?_
   exact ⟨((_, x :: xs), (_, ys), d ++ [(none, some y)]), FR, ⟨hx0, hcx, zaA (fun _ => rfl) hay hgy hcb, cap_tail hcb, by rw [List.append_assoc]; exact hd, hi4, by dsimp only [List.length_cons]; omega, DO⟩, by dsimp only [List.length_cons]; omega⟩
theorem zqP {w0 : World} {va vb p0 : Value} {g1 g2 : Nat} (la lb : List Pr) (cmp : Pr → Pr → Int) (I : List (Option Pr × Option Pr) → World → Prop)
  (ha : RowO w0 va prC la) (hb : RowO w0 vb prC lb) (hca : CapK va) (hcb : CapK vb) (hla : la.length ≤ 1000000000000) (hlb : lb.length ≤ 1000000000000)
  (hg1 : ∀ (args : Array Value) (w : World), (callFunc g1 args).run Tryz.prog w = .ok (.enter g1 args) w) (hg2 : ∀ (args : Array Value) (w : World), (callFunc g2 args).run Tryz.prog w = .ok (.enter g2 args) w)
  (hI : ∀ d u, I d u → Kp w0 u n_) (hIk : ∀ d u u', I d u → Kp u u' n_ → I d u')
  (hcmp : ∀ x y u, Kp w0 u n_ → Calls Tryz.prog g1 #[.agg (prC x).toArray, .agg (prC y).toArray] u fun e u' => e = .returned (.int .i64 (cmp x y)) ∧ Kp u u' n_)
  (hsee : ∀ d rest xo yo px py u, bothL cmp la lb = d ++ (xo, yo) :: rest → Kp w0 u n_ → PtrO w0 prC px xo → PtrO w0 prC py yo → I d u →
   Calls Tryz.prog g2 #[px, py, p0] u fun e u' => e = .returned (.tuple #[]) ∧ I (d ++ [(xo, yo)]) u') (h0 : I [] w) :
  Calls Tryz.prog 219 #[va, vb, .func (.func g1) #[] #[], .func (.func g2) #[] #[p0]] w fun e w' => e = .returned (.tuple #[]) ∧ I (bothL cmp la lb) w' := by
 obtain ⟨a, ca, rfl, hra⟩ := ha
 obtain ⟨b, cb, rfl, hrb⟩ := hb
 refine zaa (args := [.slice a la.length ca, .slice b lb.length cb, .func (.func g1) #[] #[], .func (.func g2) #[] #[p0]]) Tryz.func219 rfl NL ?_; refine GW ?_
 refine Yc (ι := (Value × List Pr) × (Value × List Pr) × List (Option Pr × Option Pr)) (fun i => [(0, i.1.1), (1, i.2.1.1), (2, .func (.func g1) #[] #[]), (3, .func (.func g2) #[] #[p0])])
  (fun i wr => RowO w0 i.1.1 prC i.1.2 ∧ CapK i.1.1 ∧ RowO w0 i.2.1.1 prC i.2.1.2 ∧ CapK i.2.1.1 ∧ i.2.2 ++ bothL cmp i.1.2 i.2.1.2 = bothL cmp la lb ∧ I i.2.2 wr ∧ i.1.2.length ≤ la.length ∧ i.2.1.2.length ≤ lb.length)
  (fun i => i.1.2.length + i.2.1.2.length) ((.slice a la.length ca, la), (.slice b lb.length cb, lb), []) FR ⟨⟨a, ca, rfl, hra⟩, hca, ⟨b, cb, rfl, hrb⟩, hcb, rfl, h0, yag _, yag _⟩ ?_
 clear hra hrb hca hcb h0
 rintro ⟨⟨vx, xs⟩, ⟨vy, ys⟩, d⟩ gg wr ⟨hx, hcx, hy, hcy, hd, hi, hlx, hly⟩
 dsimp only at hx hcx hy hcy hd hi hlx hly ⊢
 have hx0 := hx
 have hy0 := hy
 obtain ⟨a, ca, rfl, hra⟩ := hx
 obtain ⟨b, cb, rfl, hrb⟩ := hy
 have hca := hcx _ _ _ rfl
 have hcb := hcy _ _ _ rfl
 have hK := hI _ _ hi
 have hid : I d wr.drew := hIk _ _ _ hi (Yb wr n_).drew
 refine GW ?_
 cases xs with
 | nil =>
  cases ys with
  | nil =>
   rw [yaE] at *
   refine KGO ?_
   rw [show bothL cmp [] [] = [] from rfl, yaA] at hd
   rw [← hd]
   exact ⟨rfl, hi⟩
  | cons y ys =>
   obtain ⟨gy, oy, rfl, hgy, hay⟩ := hrb (by simp)
   rw [show bothL cmp [] (y :: ys) = (none, some y) :: bothL cmp [] ys from rfl] at hd
   have hay1 : At w0 gy (oy + 0 * 2) (prC y) := by rw [yaO]; exact zbt hay
   rw [yaE, yab] at *
   refine KGO ?_
   refine Yj (l := 1) OM OM ?_
   refine GW ?_
   refine KGO ?_
   refine Ya (hg2 _ _) (hsee d _ none (some y) _ _ _ hd.symm hK.drew rfl ⟨gy, _, rfl, hay1⟩ hid) ?_
   rintro e w1 ⟨rfl, hi1⟩
   refine RT ?_
   exact ⟨((_, []), (_, ys), d ++ [(none, some y)]), FR, ⟨hx0, hcx, zaA (fun _ => rfl) hay hgy hcb, cap_tail hcb, by rw [List.append_assoc]; exact hd, hi1, hlx, DO⟩, by dsimp only [List.length_cons]; omega⟩
 | cons x xs =>
  obtain ⟨gx, ox, rfl, hgx, hax⟩ := hra (by simp)
  have hax1 : At w0 gx (ox + 0 * 2) (prC x) := by rw [yaO]; exact zbt hax
  cases ys with
  | nil =>
   rw [zaV, yas] at hd
   rw [yaE, yab] at *
   refine KGO ?_
   refine Yj (l := 1) OM OM ?_
   refine GW ?_
   refine KGO ?_
   refine Ya (hg2 _ _) (hsee d _ (some x) none _ _ _ hd.symm hK.drew ⟨gx, _, rfl, hax1⟩ rfl hid) ?_
   rintro e w1 ⟨rfl, hi1⟩
   refine RT ?_
   exact ⟨((_, xs), (_, []), d ++ [(some x, none)]), FR, ⟨zaA (fun _ => rfl) hax hgx hca, cap_tail hca, hy0, hcy, by rw [List.append_assoc, zaV]; exact hd, hi1, DO, hly⟩, by dsimp only [List.length_cons]; omega⟩
  | cons y ys =>
   obtain ⟨gy, oy, rfl, hgy, hay⟩ := hrb (by simp)
   have hay1 : At w0 gy (oy + 0 * 2) (prC y) := by rw [yaO]; exact zbt hay
   rw [zbh] at hd
   rw [yab, yab] at *
   refine KGO ?_
   refine Ya (hg1 _ _) (hcmp x y _ hK.drew) ?_
   rintro e w1 ⟨rfl, k1⟩
   have hi1 := hIk _ _ _ hid k1
   have hK1 := hI _ _ hi1
   have hi2 : I d w1.drew := hIk _ _ _ hi1 (Yb w1 n_).drew
   have hi3 : I d w1.drew.drew := hIk _ _ _ hi2 (Yb w1.drew n_).drew
   refine RT ?_
   by_cases h1 : cmp x y < 0
   ·rw [if_pos h1] at hd
    refine KGO ?_
    refine Yj (l := 1) OM OM ?_
    refine GW ?_
    refine KGO ?_
    refine KGO ?_
    refine Ya (hg2 _ _) (hsee d _ (some x) none _ _ _ hd.symm hK1.drew ⟨gx, _, rfl, hax1⟩ rfl hi2) ?_
    rintro e w2 ⟨rfl, hi4⟩
    refine RT ?_
    exact ⟨((_, xs), (_, y :: ys), d ++ [(some x, none)]), FR, ⟨zaA (fun _ => rfl) hax hgx hca, cap_tail hca, hy0, hcy, by rw [List.append_assoc]; exact hd, hi4, DO, by dsimp only [List.length_cons]; omega⟩, by dsimp only [List.length_cons]; omega⟩
   rw [if_neg h1] at hd
   by_cases h2 : cmp x y = 0
   ·rw [if_pos h2] at hd
    refine KGO ?_
    refine Yj (l := 1) OM OM ?_
    refine GW ?_
    refine KGO ?_
    refine KGO ?_
    refine Yj (l := 1) OM OM ?_
    refine GW ?_
    refine KGO ?_
    refine Ya (hg2 _ _) (hsee d _ (some x) (some y) _ _ _ hd.symm (hI _ _ hi3) ⟨gx, _, rfl, hax1⟩ ⟨gy, _, rfl, hay1⟩ hi3) ?_
    rintro e w2 ⟨rfl, hi4⟩
    refine RT ?_
    exact ⟨((_, xs), (_, ys), d ++ [(some x, some y)]), FR, ⟨zaA (fun _ => rfl) hax hgx hca, cap_tail hca, zaA (fun _ => rfl) hay hgy hcb, cap_tail hcb, by rw [List.append_assoc]; exact hd, hi4, DO, DO⟩, by dsimp only [List.length_cons]; omega⟩
   rw [if_neg h2] at hd
   refine KGO ?_
   refine Yj (l := 1) OM OM ?_
   refine GW ?_
   refine KGO ?_
   refine Ya (hg2 _ _) (hsee d _ none (some y) _ _ _ hd.symm hK1.drew rfl ⟨gy, _, rfl, hay1⟩ hi2) ?_
   rintro e w2 ⟨rfl, hi4⟩
   refine RT ?_
   exact ⟨((_, x :: xs), (_, ys), d ++ [(none, some y)]), FR, ⟨hx0, hcx, zaA (fun _ => rfl) hay hgy hcb, cap_tail hcb, by rw [List.append_assoc]; exact hd, hi4, by dsimp only [List.length_cons]; omega, DO⟩, by dsimp only [List.length_cons]; omega⟩
end
end Go.Proofs.YtennokckmjcefaaGreatDoor
