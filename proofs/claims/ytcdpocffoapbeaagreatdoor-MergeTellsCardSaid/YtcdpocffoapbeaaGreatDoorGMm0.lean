/- Helper text of this claim: lemmas and contracts that the proved statement rests on; no conditions of its own. -/
import Derived.Test.YtcdpocffoapbeaaGreatDoorGMj4
namespace Go.Proofs.YtcdpocffoapbeaaGreatDoor
set_option linter.unusedVariables false
set_option maxHeartbeats 8000000
open Go.Shelf Go.RowKit Go.Pw Go.Vc Go.Cs Go.Lib Go.Cd Go.Mg
set_option linter.unusedVariables false
set_option maxRecDepth 100000
theorem zjJ {u : List UInt8} (h : rightP (decL u).1 = false) (hu : u ≠ []) : decP u = none := by
 unfold decP
 rw [if_neg]
 rintro ⟨_, h2⟩
 unfold encP at h2
 rw [h] at h2
 exact hu h2.symm
theorem zik {l1 l2 : List Pst} {p : Pst} (h : 1099511627776 < p.doc ∨ ∃ n ∈ p.places, 1099511627776 < n) : rightP (l1 ++ p :: l2) = false := by
 cases hq : rightP (l1 ++ p :: l2) with
 | false => rfl
 | true =>
  have := (zaH.1 hq).2 p (by simp)
  rcases h with h | ⟨n, hn, h⟩
  ·omega
  ·have := this.2.2.2.2 n hn; omega
theorem zga {d n : Nat} (h : 1099511627776 < d + n) : stepN d n = 1099511627777 := by
 unfold stepN
 split <;> omega
theorem zjN {d n : Nat} (h : d + n ≤ 1099511627776) : stepN d n = d + n := by
 unfold stepN
 split <;> omega
section
variable {w : World} {b : Nat}
theorem zhy (s : St) (h : VarK w b 177 (rdC s)) : Calls Tryz.prog 122 #[.pointer (some ⟨b, 0, none⟩)] w fun e w' => e = .returned (.int .i64 (stL s : Nat)) ∧ Kp w w' n_ := by
 obtain ⟨u, y, hc, hu⟩ : ∃ u y, rdC s = [.string (str u), y] ∧ stL s = u.length := by
  cases s with
  | none => exact ⟨[], _, rfl, rfl⟩
  | some u => exact ⟨u, _, rfl, rfl⟩
 rw [hc] at h
 have ha := h.at
 refine zaa (args := [.pointer (some ⟨b, 0, none⟩)]) Tryz.func122 rfl NL ?_; refine GW ?_
 refine KGO ?_
 exact ⟨by rw [hu]; rfl, Kp.refl _ _⟩
theorem zeV (u : List UInt8) (hu : u.length ≤ 10000000) : Calls Tryz.prog 78 #[.string (str u)] w fun e w' =>
  (∃ v, e = .returned (.tuple #[v, .bool (decP u).isSome]) ∧ OwnP w' w.heap.size v ((decP u).getD []) ∧ (decP u = none → v = .slice none 0 0)) ∧ Kp w w' n_ := by
 refine zaa (args := [.string (str u)]) Tryz.func78 rfl NL ?_; refine GW ?_
 refine CallS.of (Tryz.call120 _ _) (zlS (str u)) ?_
 rintro e w1 ⟨rfl, h1, k1⟩
 obtain ⟨rb, hrb⟩ : ∃ rb, w.heap.size = rb := ⟨_, rfl⟩
 rw [hrb] at h1 ⊢
 have hstr : L (str u) = u := rfl
 rw [hstr] at h1
 refine RT ?_
 refine CallS.of (Tryz.call121 _ _) (zdB (some u) h1 (fun x e => by injection e with e; subst e; omega)) ?_
 rintro e w2 ⟨rfl, h2, k2⟩
 have K2 : Kp w w2 n_ := zah k1 k2 (by omega)
 have hl2 := zgK (some u)
 have hlt := zcL (some u)
 have hdl : decL u = dDoc (numR (some u)).1 0 (numR (some u)).2 := rfl
 generalize numR (some u) = q at *
 obtain ⟨n0, s0⟩ := q
 dsimp only at h2 hl2 hlt hdl ⊢
 refine RT ?_
 refine KGO ?_
 refine Loop.intro (ι := (Nat × Nat) × St × Value × List Pr) (fun i => [(0, .string (str u)), (4, .pointer (some ⟨rb, 0, none⟩)), (5, .int .i64 (n0 : Nat)), (6, i.2.2.1), (7, .int .i64 (i.1.2 : Nat)), (8, .int .i64 (i.1.1 : Nat))])
  (fun i wr => Kp w wr n_ ∧ VarK wr rb 177 (rdC i.2.1) ∧ OwP wr rb i.2.2.1 i.2.2.2 ∧ i.2.2.2.map (·.p) ++ (dDoc (n0 - i.1.1) i.1.2 i.2.1).1 = (decL u).1 ∧ (dDoc (n0 - i.1.1) i.1.2 i.2.1).2 = (decL u).2 ∧ (encN 0 (i.2.2.2.map (·.p))).length + 2 * stL i.2.1 ≤ 2 * u.length ∧ i.1.1 ≤ n0 ∧ i.1.2 ≤ 1099511627776)
  (fun i => n0 - i.1.1) ((0, 0), s0, .slice none 0 0, []) ⟨rfl, rfl, rfl, rfl, rfl, rfl, trivial⟩ ⟨K2, h2, ⟨World.ownsRow_nil _ _ _ _, fun x h => by cases h⟩, by rw [hdl]; rfl, by rw [hdl]; rfl, by have : stL (some u) = u.length := rfl; rw [this] at hl2; show 0 + 2 * stL s0 ≤ _; omega, Nat.zero_le _, Nat.zero_le _⟩ ?_
 rintro ⟨⟨j, d⟩, st, vo, lx⟩ gg wr ⟨hK, hv, ho, hd1, hd2, hsz, hjn, hdm⟩
 dsimp only at hv ho hd1 hd2 hsz hjn hdm ⊢
 obtain ⟨ao, co, rfl⟩ := zab ho.row
 refine GW ?_
 by_cases hk0 : n0 - j = 0
 ·have hdz : dDoc (n0 - j) d st = ([], st) := by rw [hk0]; rfl
  refine KGO ?_
  have e1 : lx.map (·.p) = (decL u).1 := by rw [← hd1, hdz, List.append_nil]
  have e2 : st = (decL u).2 := by rw [← hd2, hdz]
  refine CallS.of (Tryz.call123 _ _) (zhr st hv (fun x e => by subst e; simp only [stL] at hsz; omega)) ?_
  rintro e w3 ⟨rfl, k3⟩
  refine RT ?_
  have hdp : decP u = if st = some [] ∧ encP (lx.map (·.p)) = u then some (lx.map (·.p)) else none := by unfold decP; rw [e1, e2]
  have hn := zaD (lx.map (·.p))
  by_cases hst : st = some []
  rotate_left
  ·rw [decide_eq_false hst]
   rw [if_neg (fun h => hst h.1)] at hdp
   refine KGO ?_
   rw [hdp]
   exact ⟨⟨_, rfl, zaY _ _, fun _ => rfl⟩, hK.trans0 k3⟩
  rw [decide_eq_true hst]
  refine KGO ?_
  refine CallS.of (Tryz.call45 _ _) (zbw (w := w3) (lx.map (·.p)) ⟨lx, rfl, (ho.keep k3).rd⟩ (by omega) (fun p hp => by have := zaF _ p hp; omega) (by omega)) ?_
  rintro e w4 ⟨rfl, k4⟩
  refine RT ?_
  have ho4 := (ho.keep k3).keep k4
  by_cases heq : encP (lx.map (·.p)) = u
  ·rw [heq] at hdp ⊢
   rw [if_pos ⟨hst, rfl⟩] at hdp
   refine KGO ?_
   rw [hdp]
   exact ⟨⟨_, rfl, ⟨lx, rfl, ho4⟩, fun h => by cases h⟩, (hK.trans0 k3).trans0 k4⟩
  ·rw [if_neg (fun h => heq h.2)] at hdp
   refine KGO ?_
   refine Br.dec_no (fun h => heq (zce.1 h)) ?_
   refine GW ?_
   refine KGO ?_
   rw [hdp]
   exact ⟨⟨_, rfl, zaY _ _, fun _ => rfl⟩, (hK.trans0 k3).trans0 k4⟩
 obtain ⟨k, hk⟩ : ∃ k', n0 - j = k' + 1 := ⟨n0 - j - 1, by omega⟩
 rw [hk] at hd1 hd2
 refine KGO ?_
 refine CallS.of (Tryz.call122 _ _) (zhy st hv) ?_
 rintro e w3 ⟨rfl, k3⟩
 have hv := hv.keep0 k3
 have ho := ho.keep k3
 have hK := hK.trans0 k3
 refine RT ?_
 by_cases hs0 : stL st = 0
 ·have hdz : dDoc (k + 1) d st = ([], st) := by rw [dDoc, if_pos hs0]
  refine KGO ?_
  have e1 : lx.map (·.p) = (decL u).1 := by rw [← hd1, hdz, List.append_nil]
  have e2 : st = (decL u).2 := by rw [← hd2, hdz]
  refine CallS.of (Tryz.call123 _ _) (zhr st hv (fun x e => by subst e; simp only [stL] at hsz; omega)) ?_
  rintro e w3 ⟨rfl, k3⟩
  refine RT ?_
  have hdp : decP u = if st = some [] ∧ encP (lx.map (·.p)) = u then some (lx.map (·.p)) else none := by unfold decP; rw [e1, e2]
  have hn := zaD (lx.map (·.p))
  by_cases hst : st = some []
  rotate_left
  ·rw [decide_eq_false hst]
   rw [if_neg (fun h => hst h.1)] at hdp
   refine KGO ?_
   rw [hdp]
   exact ⟨⟨_, rfl, zaY _ _, fun _ => rfl⟩, hK.trans0 k3⟩
  rw [decide_eq_true hst]
  refine KGO ?_
  refine CallS.of (Tryz.call45 _ _) (zbw (w := w3) (lx.map (·.p)) ⟨lx, rfl, (ho.keep k3).rd⟩ (by omega) (fun p hp => by have := zaF _ p hp; omega) (by omega)) ?_
  rintro e w4 ⟨rfl, k4⟩
  refine RT ?_
  have ho4 := (ho.keep k3).keep k4
  by_cases heq : encP (lx.map (·.p)) = u
  ·rw [heq] at hdp ⊢
   rw [if_pos ⟨hst, rfl⟩] at hdp
   refine KGO ?_
   rw [hdp]
   exact ⟨⟨_, rfl, ⟨lx, rfl, ho4⟩, fun h => by cases h⟩, (hK.trans0 k3).trans0 k4⟩
  ·rw [if_neg (fun h => heq h.2)] at hdp
   refine KGO ?_
   refine Br.dec_no (fun h => heq (zce.1 h)) ?_
   refine GW ?_
   refine KGO ?_
   rw [hdp]
   exact ⟨⟨_, rfl, zaY _ _, fun _ => rfl⟩, (hK.trans0 k3).trans0 k4⟩
 rw [dDoc, if_neg hs0] at hd1 hd2
 dsimp only at hd1 hd2
 have hsl := zdN hs0
 have hune : u ≠ [] := fun e => by
  have : u.length = 0 := by rw [e]; rfl
  omega
 refine KGO ?_
 have hst0 : ∀ s x, s = some x → stL s ≤ u.length → x.length ≤ 140737488355328 := fun s x e h => by subst e; simp only [stL] at h; omega
 refine CallS.of (Tryz.call121 _ _) (zdB st hv (fun x e => hst0 st x e (by omega))) ?_
 rintro e w4 ⟨rfl, h4, k4⟩
 have hbl := zcL st
 have K4 : Kp w w4 n_ := zah hK k4 (by omega)
 have ho4 := ho.keepT k4 (zaf hv (by decide))
 generalize numR st = q1 at *
 obtain ⟨n1, s1⟩ := q1
 dsimp only at h4 hbl hd1 hd2 hsl ⊢
 refine RT ?_
 by_cases hov : 1099511627776 < d + n1
 ·refine KGO ?_
  have hnone : decP u = none := zjJ (by rw [← hd1]; exact zik (.inl (by rw [zga hov]; show (1099511627776 : Int) < ((1099511627777 : Nat) : Int); decide))) hune
  rw [hnone]
  exact ⟨⟨_, rfl, zaY _ _, fun _ => rfl⟩, K4⟩
 rw [zjN (by omega)] at hd1 hd2
 refine KGO ?_
 have h5 := h4
 have K5 := K4
 have ho5 := ho4
 obtain ⟨w5, hw5⟩ : ∃ w5, w5 = w4 := ⟨_, rfl⟩
 rw [← hw5] at h5 K5 ho5 ⊢
 have hsle : d + n1 ≤ 1099511627776 := by omega
 have hc : ((d : Nat) : Int) + ((n1 : Nat) : Int) = ((d + n1 : Nat) : Int) := by omega
 rw [hc]
 generalize d + n1 = d' at *
 refine RunV.of (zfw (d' : Nat) _) ?_
 refine KGO ?_
 have v_b8 := VarK.new w5 50 [.int .i64 (d' : Nat), .slice none 0 0]
 refine Store.fresh (vs := [.int .i64 (d' : Nat), .slice none 0 0]) (by rfl) rfl (zaq (by rfl)) ?_
 obtain ⟨a_b8, k_w6, z_w6⟩ := new3 w5 50 ([.int .i64 (d' : Nat), .slice none 0 0])
 generalize w5.alloc (.cells (List.toArray ([.int .i64 (d' : Nat), .slice none 0 0])) 50) = w6 at *
 generalize hs_b8 : w5.heap.size = b8 at *
 have h6 := h5.keep0 k_w6
 refine KGO ?_
 refine CallS.of (Tryz.call121 _ _) (zdB s1 h6 (fun x e => hst0 s1 x e (by omega))) ?_
 rintro e w7 ⟨rfl, h7, k7⟩
 have hcl := zcL s1
 have hsl2 := zgK s1
 generalize numR s1 = q2 at *
 obtain ⟨c0, s2⟩ := q2
 dsimp only at h7 hcl hd1 hd2 hsl2 ⊢
 refine RT ?_
 refine KGO ?_
 have hrb8 : rb < b8 := by have := h5.lt; omega
 have J7 : Kp w5 w7 (one_ rb) := (k_w6.of_none (c := one_ rb)).trans' k7
 have v_b8 := v_b8.keep k7 (show ¬ b8 = rb by omega)
 clear h4 h6 k4 k7 a_b8 h1 h2 k2 K2 k1 hl2 hdl ho4 hv ho hK K4
 refine Loop.intro (ι := (Nat × Nat) × St × Value × List Int) (fun i => [(0, .string (str u)), (4, .pointer (some ⟨rb, 0, none⟩)), (5, .int .i64 (n0 : Nat)), (6, .slice ao lx.length co), (7, .int .i64 (d' : Nat)), (8, .int .i64 (j : Nat)), (10, .pointer (some ⟨b8, 0, none⟩)), (11, .int .i64 (c0 : Nat)), (12, .int .i64 (i.1.2 : Nat)), (13, .int .i64 (i.1.1 : Nat))])
  (fun i wr => Kp w5 wr (one_ rb) ∧ VarK wr rb 177 (rdC i.2.1) ∧ VarK wr b8 50 [.int .i64 (d' : Nat), i.2.2.1] ∧ OwnI wr b8 i.2.2.1 i.2.2.2 ∧ i.2.2.2 ++ (dPl (c0 - i.1.1) i.1.2 i.2.1).1 = (dPl c0 0 s2).1 ∧ (dPl (c0 - i.1.1) i.1.2 i.2.1).2 = (dPl c0 0 s2).2 ∧ i.2.2.2.length + stL i.2.1 ≤ stL s2 ∧ i.1.1 ≤ c0 ∧ i.1.2 ≤ 1099511627776)
  (fun i => c0 - i.1.1) ((0, 0), s2, .slice none 0 0, []) ⟨rfl, rfl, rfl, rfl, rfl, rfl, rfl, rfl, rfl, rfl, trivial⟩ ⟨J7, h7, v_b8, World.ownsRow_nil _ _ _ _, rfl, rfl, by show 0 + stL s2 ≤ _; omega, Nat.zero_le _, Nat.zero_le _⟩ ?_
 clear J7 h7 v_b8
 rintro ⟨⟨c, a⟩, s, vp, pl⟩ gg2 wq ⟨hJ, hv, h8, hp, hp1, hp2, hps, hcc, ham⟩
 dsimp only at hv h8 hp hp1 hp2 hps hcc ham ⊢
 obtain ⟨ap, cp, rfl⟩ := zab hp
 have a8 := h8.at
 have hzq := hJ.size
 refine GW ?_
 by_cases hc0 : c0 - c = 0
 ·have hdz : dPl (c0 - c) a s = ([], s) := by rw [hc0]; rfl
  obtain ⟨wend, rfl⟩ : ∃ x, x = wq := ⟨_, rfl⟩
  have hd1 : lx.map (·.p) ++ (⟨(d' : Nat), (dPl c0 0 s2).1⟩ :: (dDoc (n0 - (j + 1)) d' (dPl c0 0 s2).2).1) = (decL u).1 := by rw [show n0 - (j + 1) = k by omega]; exact hd1
  have hd2 : (dDoc (n0 - (j + 1)) d' (dPl c0 0 s2).2).2 = (decL u).2 := by rw [show n0 - (j + 1) = k by omega]; exact hd2
  refine KGO ?_
  have e1 : pl = (dPl c0 0 s2).1 := by rw [← hp1, hdz, List.append_nil]
  have e2 : s = (dPl c0 0 s2).2 := by rw [← hp2, hdz]
  rw [← e1, ← e2] at hd1
  rw [← e2] at hd2
  have hoq := ho5.keepT hJ (zaf h5 (by decide))
  have Kq : Kp w wend n_ := zah K5 hJ (by omega)
  have zq := Kq.size
  have hn := zaD (lx.map (·.p))
  rw [List.length_map] at hn
  refine KGO ?_
  refine RunV.of (bs1P ⟨⟨(d' : Nat), pl⟩, ⟨ap, pl.length, cp⟩⟩ _) ?_
  obtain ⟨a_b14, v_b14, k_w14, z_w14, r_w14⟩ := new5 wend 50 (prC ⟨⟨(d' : Nat), pl⟩, ⟨ap, pl.length, cp⟩⟩)
  generalize wend.alloc (.cells (List.toArray (prC ⟨⟨(d' : Nat), pl⟩, ⟨ap, pl.length, cp⟩⟩)) 50) = w14 at *
  generalize hs_b14 : wend.heap.size = b14 at *
  have ho14 := hoq.keep k_w14
  have h14 := hv.keep0 k_w14
  have p14 := zac hp k_w14
  have K14 := Kq.trans0 k_w14
  have z14 := K14.size
  refine KGO ?_
  refine tyP.app1 (⟨⟨(d' : Nat), pl⟩, ⟨ap, pl.length, cp⟩⟩ : Pr) ho14.row (by omega) a_b14 (by omega) (by omega) fun v15 w15 o15 k15 => ?_
  have ho15 : OwP w15 rb v15 (lx ++ [⟨⟨(d' : Nat), pl⟩, ⟨ap, pl.length, cp⟩⟩]) := ⟨o15, fun y hy => by
   rcases List.mem_append.1 hy with hy | hy
   ·exact zad (D := [3]) (ho14.pl y hy) k15 (zaC ho14.row (by decide)) (by decide)
   ·rw [List.mem_singleton.1 hy]
    exact zar (zad (D := [3]) p14 k15 (zaC ho14.row (by decide)) (by decide)) (by omega)⟩
  have h15 := h14.keep k15 (zae ho14.row h14 (by decide))
  have K15 := zaz ho14.row k15 K14 (by omega)
  obtain ⟨a15, c15, rfl⟩ := zab o15
  refine KGO ?_
  exact ⟨((j + 1, d'), s, .slice a15 (lx ++ [(⟨⟨(d' : Nat), pl⟩, ⟨ap, pl.length, cp⟩⟩ : Pr)]).length c15, lx ++ [⟨⟨(d' : Nat), pl⟩, ⟨ap, pl.length, cp⟩⟩]), ⟨rfl, rfl, rfl, rfl, rfl, v_int (by simp), trivial⟩, ⟨K15, h15, ho15, by rw [List.map_append, List.append_assoc]; exact hd1, hd2, by rw [List.map_append, List.map_singleton, zcF]; dsimp only; omega, by dsimp only; omega, hsle⟩, by dsimp only; omega⟩
 obtain ⟨c1, hc1⟩ : ∃ c', c0 - c = c' + 1 := ⟨c0 - c - 1, by omega⟩
 rw [hc1] at hp1 hp2
 refine KGO ?_
 refine CallS.of (Tryz.call122 _ _) (zhy s hv) ?_
 rintro e w8 ⟨rfl, k8⟩
 have hJ := hJ.trans' (k8.of_none (c := one_ rb))
 have hv := hv.keep0 k8
 have h8 := h8.keep0 k8
 have hp := zac hp k8
 have a8 := h8.at
 refine RT ?_
 by_cases hs0' : stL s = 0
 ·have hdz : dPl (c1 + 1) a s = ([], s) := by rw [dPl, if_pos hs0']
  obtain ⟨wend, rfl⟩ : ∃ x, x = w8 := ⟨_, rfl⟩
  have hd1 : lx.map (·.p) ++ (⟨(d' : Nat), (dPl c0 0 s2).1⟩ :: (dDoc (n0 - (j + 1)) d' (dPl c0 0 s2).2).1) = (decL u).1 := by rw [show n0 - (j + 1) = k by omega]; exact hd1
  have hd2 : (dDoc (n0 - (j + 1)) d' (dPl c0 0 s2).2).2 = (decL u).2 := by rw [show n0 - (j + 1) = k by omega]; exact hd2
  refine KGO ?_
  have e1 : pl = (dPl c0 0 s2).1 := by rw [← hp1, hdz, List.append_nil]
  have e2 : s = (dPl c0 0 s2).2 := by rw [← hp2, hdz]
  rw [← e1, ← e2] at hd1
  rw [← e2] at hd2
  have hoq := ho5.keepT hJ (zaf h5 (by decide))
  have Kq : Kp w wend n_ := zah K5 hJ (by omega)
  have zq := Kq.size
  have hn := zaD (lx.map (·.p))
  rw [List.length_map] at hn
  refine KGO ?_
  refine RunV.of (bs1P ⟨⟨(d' : Nat), pl⟩, ⟨ap, pl.length, cp⟩⟩ _) ?_
  obtain ⟨a_b14, v_b14, k_w14, z_w14, r_w14⟩ := new5 wend 50 (prC ⟨⟨(d' : Nat), pl⟩, ⟨ap, pl.length, cp⟩⟩)
  generalize wend.alloc (.cells (List.toArray (prC ⟨⟨(d' : Nat), pl⟩, ⟨ap, pl.length, cp⟩⟩)) 50) = w14 at *
  generalize hs_b14 : wend.heap.size = b14 at *
  have ho14 := hoq.keep k_w14
  have h14 := hv.keep0 k_w14
  have p14 := zac hp k_w14
  have K14 := Kq.trans0 k_w14
  have z14 := K14.size
  refine KGO ?_
  refine tyP.app1 (⟨⟨(d' : Nat), pl⟩, ⟨ap, pl.length, cp⟩⟩ : Pr) ho14.row (by omega) a_b14 (by omega) (by omega) fun v15 w15 o15 k15 => ?_
  have ho15 : OwP w15 rb v15 (lx ++ [⟨⟨(d' : Nat), pl⟩, ⟨ap, pl.length, cp⟩⟩]) := ⟨o15, fun y hy => by
   rcases List.mem_append.1 hy with hy | hy
   ·exact zad (D := [3]) (ho14.pl y hy) k15 (zaC ho14.row (by decide)) (by decide)
   ·rw [List.mem_singleton.1 hy]
    exact zar (zad (D := [3]) p14 k15 (zaC ho14.row (by decide)) (by decide)) (by omega)⟩
  have h15 := h14.keep k15 (zae ho14.row h14 (by decide))
  have K15 := zaz ho14.row k15 K14 (by omega)
  obtain ⟨a15, c15, rfl⟩ := zab o15
  refine KGO ?_
  exact ⟨((j + 1, d'), s, .slice a15 (lx ++ [(⟨⟨(d' : Nat), pl⟩, ⟨ap, pl.length, cp⟩⟩ : Pr)]).length c15, lx ++ [⟨⟨(d' : Nat), pl⟩, ⟨ap, pl.length, cp⟩⟩]), ⟨rfl, rfl, rfl, rfl, rfl, v_int (by simp), trivial⟩, ⟨K15, h15, ho15, by rw [List.map_append, List.append_assoc]; exact hd1, hd2, by rw [List.map_append, List.map_singleton, zcF]; dsimp only; omega, by dsimp only; omega, hsle⟩, by dsimp only; omega⟩
 rw [dPl, if_neg hs0'] at hp1 hp2
 dsimp only at hp1 hp2
 have hsq := zdN hs0'
 refine KGO ?_
 refine CallS.of (Tryz.call121 _ _) (zdB s hv (fun x e => hst0 s x e (by omega))) ?_
 rintro e w9 ⟨rfl, h9, k9⟩
 have hbl2 := zcL s
 have J9 := hJ.trans' k9
 have v9 := h8.keep k9 (show ¬ b8 = rb by omega)
 have p9 := zad (D := [3]) hp k9 (zaf hv (by decide)) (by decide)
 clear hp h8 a8
 generalize numR s = q3 at *
 obtain ⟨n3, s3⟩ := q3
 dsimp only at h9 hbl2 hp1 hp2 hsq ⊢
 refine RT ?_
 by_cases hov2 : 1099511627776 < a + n3
 ·refine KGO ?_
  have hnone : decP u = none := zjJ (by rw [← hd1]; exact zik (.inr ⟨1099511627777, by dsimp only; rw [← hp1, zga hov2]; simp, by decide⟩)) hune
  rw [hnone]
  exact ⟨⟨_, rfl, zaY _ _, fun _ => rfl⟩, zah K5 J9 (by omega)⟩
 rw [zjN (by omega)] at hp1 hp2
 have a10 := v9.at
 refine KGO ?_
 have hale : a + n3 ≤ 1099511627776 := by omega
 have hc2 : ((a : Nat) : Int) + ((n3 : Nat) : Int) = ((a + n3 : Nat) : Int) := by omega
 rw [hc2]
 generalize a + n3 = a' at *
 refine KGO ?_
 refine RunV.of (bs1I (a' : Nat) _) ?_
 obtain ⟨w10, hw10⟩ : ∃ w10, w10 = w9 := ⟨_, rfl⟩
 rw [← hw10] at h9 J9 v9 p9 a10 ⊢
 obtain ⟨a_b11, v_b11, k_w11, z_w11, r_w11⟩ := new5 w10 3 (inC (a' : Nat))
 generalize w10.alloc (.cells (List.toArray (inC (a' : Nat))) 3) = w11 at *
 generalize hs_b11 : w10.heap.size = b11 at *
 have v11 := v9.keep0 k_w11
 have h11 := h9.keep0 k_w11
 have p11 := zac p9 k_w11
 have J11 := J9.trans' (k_w11.of_none (c := one_ rb))
 have z11 := J11.size
 refine KGO ?_
 refine tyI.app1 (a' : Int) p11 (by omega) a_b11 (by omega) (by omega) fun v12 w12 o12 k12 => ?_
 have J12 := zaz p11 k12 J11 (by omega)
 have v12' := v11.keep k12 (zae p11 v11 (by decide))
 have h12 := h11.keep k12 (zae p11 h11 (by decide))
 obtain ⟨a12, c12, rfl⟩ := zab o12
 refine KGO ?_
 refine Store.cellK (i := 1) v12' (by simp) (by rfl) ⟨rfl, by simp, by simp⟩ fun w13 v13 k13 => ?_
 have h13 := h12.keep k13 (show ¬ rb = b8 by omega)
 have p13 := zad (D := [3]) o12 k13 (zaf v12' (by decide)) (by decide)
 have J13 : Kp w5 w13 (one_ rb) := J12.trans k13 fun q hq e => by have e : q = b8 := e; omega
 refine KGO ?_
 exact ⟨((c + 1, a'), s3, _, pl ++ [(a' : Int)]), ⟨rfl, rfl, rfl, rfl, rfl, rfl, rfl, rfl, rfl, v_int (by simp), trivial⟩, ⟨J13, h13, v13, p13, by rw [show c0 - (c + 1) = c1 by omega, List.append_assoc]; exact hp1, by rw [show c0 - (c + 1) = c1 by omega]; exact hp2, by rw [List.length_append, List.length_singleton]; dsimp only; omega, by dsimp only; omega, hale⟩, by dsimp only; omega⟩
end
section
variable {w : World}
theorem zfO (h : Sv) (s : Sgm) (hr : RdS w h s) (hs : SmS s) (hdb : s.docs.length ≤ 10000000) : Calls Tryz.prog 39 #[.agg (sgC h).toArray] w fun e w' => e = .returned (.bool (rightS s)) ∧ Kp w w' n_ := by
 have hn1 := RowO.len hr.t
 have hn2 := RowO.len hr.d
 obtain ⟨at_, ct, et, hrt⟩ := hr.t
 obtain ⟨ad, cd, ed, hrd⟩ := hr.d
 have hrd0 := hr.d
 obtain ⟨⟨ta, tn, tc⟩, ⟨da, dn, dc⟩⟩ := h
 injection et with q1 q2 q3
 injection ed with q4 q5 q6
 dsimp only at q1 q2 q3 q4 q5 q6 hrd0
 subst q1 q2 q3 q4 q5 q6
 have hsd := hs.d
 have hst := hs.t
 clear hn1 hn2
 refine zaa (args := [.agg (sgC ⟨⟨ta, s.terms.length, tc⟩, ⟨da, s.docs.length, dc⟩⟩).toArray]) Tryz.func39 rfl NL ?_; refine GW ?_
 obtain ⟨a_b1, v_b1, k_w1, z_w1, r_w1⟩ := new5 w 31 (sgC ⟨⟨ta, s.terms.length, tc⟩, ⟨da, s.docs.length, dc⟩⟩)
 generalize w.alloc (.cells (List.toArray (sgC ⟨⟨ta, s.terms.length, tc⟩, ⟨da, s.docs.length, dc⟩⟩)) 31) = w1 at *
 generalize hs_b1 : w.heap.size = b1 at *
 unfold sgC at a_b1
 dsimp only at a_b1
 refine KGO ?_
 refine Loop.intro (ι := Nat) (fun i => [(1, .pointer (some ⟨b1, 0, none⟩)), (3, .int .i64 (i : Nat))])
  (fun i wr => Kp w1 wr n_ ∧ i ≤ s.docs.length ∧ (∀ n ∈ s.docs.take i, 1 ≤ n ∧ n ≤ 1099511627776) ∧ ∀ j (hj : j + 1 < s.docs.length), j + 1 < i → ltI (s.docs[j]'(by omega)) s.docs[j + 1] = true) (fun i => s.docs.length - i) 0 ⟨rfl, rfl, trivial⟩ ⟨Kp.refl _ _, Nat.zero_le _, by simp, fun j hj h => by omega⟩ ?_
 rintro i gg wr ⟨hK, hi, hra, hrc⟩
 have hKw := k_w1.trans0 hK
 clear r_w1
 refine GW ?_
 by_cases hlt : i < s.docs.length
 ·obtain ⟨g, o, rfl, hg, hat⟩ := hrd (by omega)
  have ci := zaX hat hlt
  have hno : ¬ (1 ≤ s.docs[i] ∧ s.docs[i] ≤ 1099511627776) → rightS s = false := fun h => by
   cases hq : rightS s with
   | false => rfl
   | true => exact absurd ((zan.1 hq).1.2 _ (List.getElem_mem hlt)) h
  have hat' := hat
  clear hrt hat
  refine KGO ?_
  refine CallS.of (Tryz.call76 _ _) (zmZ (w := wr.drew) s.docs[i] 1 1099511627776) ?_
  rintro e _ ⟨rfl, rfl⟩
  refine RT ?_
  by_cases h12 : 1 ≤ s.docs[i] ∧ s.docs[i] ≤ 1099511627776
  rotate_left
  ·rw [show (decide (1 ≤ s.docs[i]) && decide (s.docs[i] ≤ 1099511627776)) = false by simpa using h12]
   refine KGO ?_
   exact ⟨zai (hno h12).symm, hKw.drew⟩
  rw [show (decide (1 ≤ s.docs[i]) && decide (s.docs[i] ≤ 1099511627776)) = true by simpa using h12]
  have hra2 : ∀ n ∈ s.docs.take (i + 1), 1 ≤ n ∧ n ≤ 1099511627776 := fun n hn => by
   rw [List.take_succ_eq_append_getElem hlt, List.mem_append, List.mem_singleton] at hn
   rcases hn with hn | rfl
   ·exact hra n hn
   ·exact h12
  cases i with
  | zero =>
   refine KGO ?_
   exact ⟨1, ⟨rfl, rfl, trivial⟩, ⟨hK.drew, by omega, hra2, fun j hj h => by omega⟩, by dsimp only; omega⟩
  | succ k =>
   have ck : w.cell? ⟨g, o + k, none⟩ = some (.int .i64 s.docs[k]) := zaX hat' (by omega)
   have e1 : (((k + 1 : Nat) : Int) - 1).toNat = k := by omega
   refine KGO ?_
   rw [e1]
   refine KGO ?_
   by_cases h3 : s.docs[k + 1] ≤ s.docs[k]
   ·refine KGO ?_
    refine ⟨zai ?_, hKw.drew⟩
    cases hq : rightS s with
    | false => rfl
    | true =>
     have := of_decide_eq_true ((List.pairwise_iff_getElem.1 (zan.1 hq).1.1) k (k + 1) (by omega) hlt (by omega))
     omega
   ·refine KGO ?_
    refine ⟨k + 1 + 1, ⟨rfl, v_int (by simp), trivial⟩, ⟨hK.drew, by omega, hra2, fun j hj h => ?_⟩, by dsimp only; omega⟩
    by_cases hj2 : j + 1 < k + 1
    ·exact hrc j hj hj2
    ·obtain rfl : j = k := by omega
     exact decide_eq_true (by omega)
 have hdok : AscB ltI s.docs ∧ ∀ n ∈ s.docs, 1 ≤ n ∧ n ≤ 1099511627776 := by
  rw [List.take_of_length_le (by omega)] at hra
  exact ⟨zdK stoI.tr _ fun j hj => hrc j hj (by omega), hra⟩
 have q1 := Kp.refl wr n_
 clear hrd hra hrc
 refine KGO ?_
 refine Loop.intro (ι := Nat) (fun i => [(1, .pointer (some ⟨b1, 0, none⟩)), (4, .int .i64 (i : Nat))])
  (fun i wr => Kp w1 wr n_ ∧ i ≤ s.terms.length ∧ (∀ t ∈ s.terms.take i, okTerm s.docs t = true) ∧ ∀ j (hj : j + 1 < s.terms.length), j + 1 < i → ltK (s.terms[j]'(by omega)).key s.terms[j + 1].key = true) (fun i => s.terms.length - i) 0 ⟨rfl, rfl, trivial⟩ ⟨hK, Nat.zero_le _, by simp, fun j hj h => by omega⟩ ?_
 clear hlt hi hKw hK q1
 rintro i gg wr ⟨hK, hi, hok, hrc⟩
 have hKw := k_w1.trans0 hK
 refine GW ?_
 by_cases hlt : i < s.terms.length
 rotate_left
 ·rw [List.take_of_length_le (by omega)] at hok
  have hall : rightS s = true := zan.2 ⟨hdok, hok, zdK (α := Trm) (lt := fun a b => ltK a.key b.key) (fun a b c => stoK.tr _ _ _) _ fun j hj => hrc j hj (by omega)⟩
  refine KGO ?_
  exact ⟨zai hall.symm, hKw⟩
 obtain ⟨g, o, rfl, hg, hat⟩ := hrt (by omega)
 have hsm := hs.x _ (List.getElem_mem hlt)
 have hno : okTerm s.docs s.terms[i] = false → rightS s = false := fun h => by
  cases hq : rightS s with
  | false => rfl
  | true => rw [(zan.1 hq).2.1 _ (List.getElem_mem hlt)] at h; cases h
 refine KGO ?_
 have v5 := VarK.new wr 56 (tmC s.terms[i])
 refine Store.fresh (vs := tmC s.terms[i]) (by rfl) rfl (zaq (by rfl)) ?_
 obtain ⟨a_b5, k_w2, z_w2⟩ := new3 wr 56 (tmC s.terms[i])
 generalize wr.alloc (.cells (List.toArray (tmC s.terms[i])) 56) = w2 at *
 generalize hs_b5 : wr.heap.size = b5 at *
 have K2 := hKw.trans0 k_w2
 have q2 := Kp.refl w2 n_
 have hs1 : (str s.terms[i].word).size = s.terms[i].word.length := rfl
 refine KGO ?_
 refine CallS.of (Tryz.call77 _ _) (zlk (w := w2) (str s.terms[i].word) (by have := hsm.w; omega)) ?_
 rintro e w4 ⟨v4, rfl, o4, k4⟩
 rw [show listL (L (str s.terms[i].word)) = wordsOf s.terms[i].word from rfl] at o4
 have o4 := zgD o4
 have hokt0 : 1 ≤ s.terms[i].field ∧ s.terms[i].field ≤ 5 → okTerm s.docs s.terms[i] = (decide (wordsOf s.terms[i].word = [s.terms[i].word]) && okList s.docs s.terms[i].list) := fun h => by unfold okTerm; rw [decide_eq_true h]; rfl
 have hokn : ¬ (1 ≤ s.terms[i].field ∧ s.terms[i].field ≤ 5) → okTerm s.docs s.terms[i] = false := fun h => by unfold okTerm; rw [decide_eq_false h]; rfl
 generalize wordsOf s.terms[i].word = W at *
 obtain ⟨a4, c4, rfl⟩ := zab o4
 have rw4 := zaS o4
 have a54 := zam a_b5 k4
 have q4 := Kp.refl w4 n_
 refine RT ?_
 refine KGO ?_
 refine CallS.of (Tryz.call78 _ _) (zeV (w := w4) s.terms[i].list hsm.l) ?_
 rintro e w6 ⟨⟨v6, rfl, o5, hn5⟩, k46⟩
 obtain ⟨a5, c5, rfl⟩ := o5.shape
 have k26 := k4.trans0 k46
 have K6 := K2.trans0 k26
 have v5 := v5.keep0 k26
 have hat6 : At w6 g o (s.terms.flatMap tmC) := zam hat K6
 have ab1 := zam a_b1 (hK.trans0 (k_w2.trans0 k26))
 have q6 := Kp.refl w6 n_
 have kd := q6.drew
 clear a54 a_b5 q4 q2 hn5
 refine RT ?_
 refine Draw.held (fun u => Kp w6 u n_) (fun _ => true) (by decide +kernel) kd ?_
 refine GW ?_
 refine Held.one (by rfl) (fun u hu => (v5.keep0 hu).at 0 _ rfl) ?_
 refine GW ?_
 refine CallS.of (Tryz.call76 _ _) (zmZ (w := w6.drew) s.terms[i].field 1 5) ?_
 rintro e _ ⟨rfl, rfl⟩
 obtain ⟨w7, hw7⟩ : ∃ w7, w6.drew = w7 := ⟨_, rfl⟩
 rw [hw7] at kd ⊢
 refine RT ?_
 refine ⟨kd, ?_⟩
 refine GW ?_
 by_cases hf : 1 ≤ s.terms[i].field ∧ s.terms[i].field ≤ 5
 rotate_left
 ·rw [show (decide (1 ≤ s.terms[i].field) && decide (s.terms[i].field ≤ 5)) = false by simpa using hf]
  have hfail : rightS s = false := hno (hokn hf)
  clear hokt0 hokn hno hok hrc
  refine KGO ?_
  exact ⟨zai hfail.symm, K6.trans0 kd⟩
 rw [show (decide (1 ≤ s.terms[i].field) && decide (s.terms[i].field ≤ 5)) = true by simpa using hf]
 have hokt := hokt0 hf
 clear hokt0 hokn
 cases i with
 | zero =>
  have hcons : ∀ j (hj : j + 1 < s.terms.length), j + 1 < 0 + 1 → ltK (s.terms[j]'(by omega)).key s.terms[j + 1].key = true := fun j hj h => by omega
  refine KGO ?_
  by_cases g1 : W.length = 1
  rotate_left
  ·have hfail : rightS s = false := hno (by rw [hokt, decide_eq_false (fun h => g1 (by rw [h]; rfl)), Bool.false_and])
   clear hokt hno hcons hok hrc
   refine KGO ?_
   exact ⟨zai hfail.symm, K6.trans0 kd⟩
  obtain ⟨wd, rfl⟩ := List.length_eq_one_iff.1 g1
  rw [List.length_singleton] at *
  obtain ⟨_, _, e4, hr4⟩ := rw4
  injection e4 with e4 _ _
  subst e4
  obtain ⟨g4, o4', rfl, _, hat4⟩ := hr4 (by simp)
  have c40 : ∀ u, Kp w6 u n_ → u.cell? ⟨g4, o4' + 0, none⟩ = some (.string (str wd)) := fun u hu => zav (hat4 0 _ rfl) (k46.trans0 hu)
  refine KGO ?_
  refine Held.one (by rfl) (fun u hu => (v5.keep0 hu).at 1 _ rfl) ?_
  by_cases g2 : wd = s.terms[0].word
  rotate_left
  ·have g2' : ¬ str wd = str s.terms[0].word := fun h => g2 (zce.1 h)
   have hfail : rightS s = false := hno (by rw [hokt, decide_eq_false (fun h => g2 (by injection h)), Bool.false_and])
   clear hokt hno hcons hok hrc
   refine KGO ?_
   exact ⟨zai hfail.symm, K6.trans0 kd⟩
  have g2' : str wd = str s.terms[0].word := by rw [g2]
  have hokt2 : okTerm s.docs s.terms[0] = okList s.docs s.terms[0].list := by rw [hokt, decide_eq_true (by rw [g2]), Bool.true_and]
  cases hq : decP s.terms[0].list with
  | none =>
   have hfail : rightS s = false := hno (by rw [hokt2]; unfold okList; rw [hq])
   dsimp only [Option.isSome]
   clear hokt hokt2 hno hcons hok hrc
   refine KGO ?_
   exact ⟨zai hfail.symm, K6.trans0 kd⟩
  | some pl =>
   rw [hq] at o5
   dsimp only [Option.isSome, Option.getD] at o5 ⊢
   by_cases g3 : pl = []
   ·have hfail : rightS s = false := hno (by rw [hokt2]; unfold okList; rw [hq, g3]; rfl)
    have g3' : pl.length = 0 := by rw [g3]; rfl
    clear hokt hokt2 hno hcons hok hrc
    refine KGO ?_
    exact ⟨zai hfail.symm, K6.trans0 kd⟩
   have g3' : 0 < pl.length := List.length_pos_iff.2 g3
   have hall : okTerm s.docs s.terms[0] = pl.all fun x => decide (x.doc ∈ s.docs) := by
    rw [hokt2]; unfold okList; rw [hq]
    cases pl with
    | nil => exact absurd rfl g3
    | cons x l => rfl
   obtain ⟨lx, hlx, opx⟩ := o5
   have hlxl : lx.length = pl.length := by rw [← hlx, List.length_map]
   have hpb : lx.length ≤ 10000000 := by
    have h1 := zeL s.terms[0]
    rw [show plT s.terms[0] = pl from by unfold plT; rw [hq]; rfl] at h1
    have h2 := zaD pl
    unfold cntP at h1
    have h3 := hsm.l
    omega
   have opx := opx.keep kd
   rw [← hlxl] at opx g3' ⊢
   obtain ⟨g5, e5, _, _, hat5⟩ := zbH opx.row (by omega)
   obtain rfl := e5
   have hok' := hok
   have hcons' := hcons
   have ab7 := zam a_b1 ((hK.trans0 (k_w2.trans0 k26)).trans0 kd)
   clear hokt hokt2 hcons hok hrc hat4 c40 opx
   refine KGO ?_
   refine Loop.intro (ι := Nat) (fun j => [(1, .pointer (some ⟨b1, 0, none⟩)), (4, .int .i64 ((0 : Nat) : Int)), (7, .slice (some ⟨g5, 0, none⟩) lx.length c5), (9, .int .i64 (j : Nat))])
    (fun j wr => Kp w7 wr n_ ∧ j ≤ lx.length ∧ ∀ x ∈ lx.take j, x.p.doc ∈ s.docs) (fun j => lx.length - j) 0 ⟨rfl, rfl, rfl, rfl, trivial⟩ ⟨Kp.refl _ _, Nat.zero_le _, by simp⟩ ?_
   rintro j g9 wv ⟨hKv, hj, hin⟩
   refine GW ?_
   by_cases hjt : j < lx.length
   ·refine KGO ?_
    refine CallS.of (Tryz.call80 _ _) (zkj (w := wv.drew) s.docs lx[j].p.doc (hrd0.keep (K6.trans0 ((kd).trans0 hKv.drew))) (by omega)) ?_
    rintro e wu ⟨rfl, ku⟩
    refine RT ?_
    by_cases hm : lx[j].p.doc ∈ s.docs
    ·rw [decide_eq_true hm]
     refine KGO ?_
     refine ⟨j + 1, ⟨rfl, rfl, rfl, v_int (by simp), trivial⟩, ⟨hKv.drew.trans0 ku, by omega, fun x hx => ?_⟩, by dsimp only; omega⟩
     rw [List.take_succ_eq_append_getElem hjt, List.mem_append, List.mem_singleton] at hx
     rcases hx with hx | rfl
     ·exact hin x hx
     ·exact hm
    ·rw [decide_eq_false hm]
     have hfail : rightS s = false := hno (by
      rw [hall]
      cases hz : pl.all fun x => decide (x.doc ∈ s.docs) with
      | false => rfl
      | true =>
       rw [List.all_eq_true] at hz
       have := hz lx[j].p (by rw [← hlx]; exact List.mem_map.2 ⟨_, List.getElem_mem hjt, rfl⟩)
       exact absurd (of_decide_eq_true this) hm)
     refine KGO ?_
     exact ⟨zai hfail.symm, K6.trans0 (((kd).trans0 hKv.drew).trans0 ku)⟩
   ·rw [List.take_of_length_le (by omega)] at hin
    have hq2 : okTerm s.docs s.terms[0] = true := by
     rw [hall, List.all_eq_true]
     intro x hx
     rw [← hlx] at hx
     obtain ⟨y, hy, rfl⟩ := List.mem_map.1 hx
     exact decide_eq_true (hin y hy)
    refine KGO ?_
    exact ⟨0 + 1, ⟨rfl, v_int (by simp), trivial⟩, ⟨(hK.trans0 (k_w2.trans0 k26)).trans0 ((kd).trans0 hKv), by omega, fun t ht => by
     rw [List.take_succ_eq_append_getElem hlt, List.mem_append, List.mem_singleton] at ht
     rcases ht with ht | rfl
     ·exact hok' t ht
     ·exact hq2, fun j hj h => hcons' j hj (by omega)⟩, by dsimp only; omega⟩
 | succ k =>
  have e1 : (((k + 1 : Nat) : Int) - 1).toNat = k := by omega
  refine KGO ?_
  simp only [e1]
  have hkl : k < s.terms.length := by omega
  have hek : At w6 g (o + k * 3) (tmC s.terms[k]) := fun j v hv => zdj hat6 lenTm hkl j v hv
  refine HeldW (by rfl) (by rfl) hek (fun _ hu => hu) (by rfl) ?_
  refine KGO ?_
  refine HeldG (tmC s.terms[k + 1]) (by rfl) (by rfl) (fun u hu => (v5.keep0 hu).at) (by rfl) ?_
  refine KGO ?_
  refine CallS.of (Tryz.call79 _ _) (zkB (w := w7) s.terms[k] s.terms[k + 1]) ?_
  rintro e w8 ⟨rfl, k8⟩
  have kd8 := kd.trans0 k8
  refine RT ?_
  refine ⟨kd8, ?_⟩
  cases hc : ltK s.terms[k].key s.terms[k + 1].key with
  | true =>
   have hcons : ∀ j (hj : j + 1 < s.terms.length), j + 1 < (k + 1) + 1 → ltK (s.terms[j]'(by omega)).key s.terms[j + 1].key = true := fun j hj h => by
    by_cases hj2 : j + 1 < k + 1
    ·exact hrc j hj hj2
    ·obtain rfl : j = k := by omega
     exact hc
   clear hc hek
   refine KGO ?_
   by_cases g1 : W.length = 1
   rotate_left
   ·have hfail : rightS s = false := hno (by rw [hokt, decide_eq_false (fun h => g1 (by rw [h]; rfl)), Bool.false_and])
    clear hokt hno hcons hok hrc
    refine KGO ?_
    exact ⟨zai hfail.symm, K6.trans0 kd8⟩
   obtain ⟨wd, rfl⟩ := List.length_eq_one_iff.1 g1
   rw [List.length_singleton] at *
   obtain ⟨_, _, e4, hr4⟩ := rw4
   injection e4 with e4 _ _
   subst e4
   obtain ⟨g4, o4', rfl, _, hat4⟩ := hr4 (by simp)
   have c40 : ∀ u, Kp w6 u n_ → u.cell? ⟨g4, o4' + 0, none⟩ = some (.string (str wd)) := fun u hu => zav (hat4 0 _ rfl) (k46.trans0 hu)
   refine KGO ?_
   refine Held.one (by rfl) (fun u hu => (v5.keep0 hu).at 1 _ rfl) ?_
   by_cases g2 : wd = s.terms[k + 1].word
   rotate_left
   ·have g2' : ¬ str wd = str s.terms[k + 1].word := fun h => g2 (zce.1 h)
    have hfail : rightS s = false := hno (by rw [hokt, decide_eq_false (fun h => g2 (by injection h)), Bool.false_and])
    clear hokt hno hcons hok hrc
    refine KGO ?_
    exact ⟨zai hfail.symm, K6.trans0 kd8⟩
   have g2' : str wd = str s.terms[k + 1].word := by rw [g2]
   have hokt2 : okTerm s.docs s.terms[k + 1] = okList s.docs s.terms[k + 1].list := by rw [hokt, decide_eq_true (by rw [g2]), Bool.true_and]
   cases hq : decP s.terms[k + 1].list with
   | none =>
    have hfail : rightS s = false := hno (by rw [hokt2]; unfold okList; rw [hq])
    dsimp only [Option.isSome]
    clear hokt hokt2 hno hcons hok hrc
    refine KGO ?_
    exact ⟨zai hfail.symm, K6.trans0 kd8⟩
   | some pl =>
    rw [hq] at o5
    dsimp only [Option.isSome, Option.getD] at o5 ⊢
    by_cases g3 : pl = []
    ·have hfail : rightS s = false := hno (by rw [hokt2]; unfold okList; rw [hq, g3]; rfl)
     have g3' : pl.length = 0 := by rw [g3]; rfl
     clear hokt hokt2 hno hcons hok hrc
     refine KGO ?_
     exact ⟨zai hfail.symm, K6.trans0 kd8⟩
    have g3' : 0 < pl.length := List.length_pos_iff.2 g3
    have hall : okTerm s.docs s.terms[k + 1] = pl.all fun x => decide (x.doc ∈ s.docs) := by
     rw [hokt2]; unfold okList; rw [hq]
     cases pl with
     | nil => exact absurd rfl g3
     | cons x l => rfl
    obtain ⟨lx, hlx, opx⟩ := o5
    have hlxl : lx.length = pl.length := by rw [← hlx, List.length_map]
    have hpb : lx.length ≤ 10000000 := by
     have h1 := zeL s.terms[k + 1]
     rw [show plT s.terms[k + 1] = pl from by unfold plT; rw [hq]; rfl] at h1
     have h2 := zaD pl
     unfold cntP at h1
     have h3 := hsm.l
     omega
    have opx := opx.keep kd8
    rw [← hlxl] at opx g3' ⊢
    obtain ⟨g5, e5, _, _, hat5⟩ := zbH opx.row (by omega)
    obtain rfl := e5
    have hok' := hok
    have hcons' := hcons
    have ab7 := zam a_b1 ((hK.trans0 (k_w2.trans0 k26)).trans0 kd8)
    clear hokt hokt2 hcons hok hrc hat4 c40 opx
    refine KGO ?_
    refine Loop.intro (ι := Nat) (fun j => [(1, .pointer (some ⟨b1, 0, none⟩)), (4, .int .i64 ((k + 1 : Nat) : Int)), (7, .slice (some ⟨g5, 0, none⟩) lx.length c5), (9, .int .i64 (j : Nat))])
     (fun j wr => Kp w8 wr n_ ∧ j ≤ lx.length ∧ ∀ x ∈ lx.take j, x.p.doc ∈ s.docs) (fun j => lx.length - j) 0 ⟨rfl, rfl, rfl, rfl, trivial⟩ ⟨Kp.refl _ _, Nat.zero_le _, by simp⟩ ?_
    rintro j g9 wv ⟨hKv, hj, hin⟩
    refine GW ?_
    by_cases hjt : j < lx.length
    ·refine KGO ?_
     refine CallS.of (Tryz.call80 _ _) (zkj (w := wv.drew) s.docs lx[j].p.doc (hrd0.keep (K6.trans0 ((kd8).trans0 hKv.drew))) (by omega)) ?_
     rintro e wu ⟨rfl, ku⟩
     refine RT ?_
     by_cases hm : lx[j].p.doc ∈ s.docs
     ·rw [decide_eq_true hm]
      refine KGO ?_
      refine ⟨j + 1, ⟨rfl, rfl, rfl, v_int (by simp), trivial⟩, ⟨hKv.drew.trans0 ku, by omega, fun x hx => ?_⟩, by dsimp only; omega⟩
      rw [List.take_succ_eq_append_getElem hjt, List.mem_append, List.mem_singleton] at hx
      rcases hx with hx | rfl
      ·exact hin x hx
      ·exact hm
     ·rw [decide_eq_false hm]
      have hfail : rightS s = false := hno (by
       rw [hall]
       cases hz : pl.all fun x => decide (x.doc ∈ s.docs) with
       | false => rfl
       | true =>
        rw [List.all_eq_true] at hz
        have := hz lx[j].p (by rw [← hlx]; exact List.mem_map.2 ⟨_, List.getElem_mem hjt, rfl⟩)
        exact absurd (of_decide_eq_true this) hm)
      refine KGO ?_
      exact ⟨zai hfail.symm, K6.trans0 (((kd8).trans0 hKv.drew).trans0 ku)⟩
    ·rw [List.take_of_length_le (by omega)] at hin
     have hq2 : okTerm s.docs s.terms[k + 1] = true := by
      rw [hall, List.all_eq_true]
      intro x hx
      rw [← hlx] at hx
      obtain ⟨y, hy, rfl⟩ := List.mem_map.1 hx
      exact decide_eq_true (hin y hy)
     refine KGO ?_
     exact ⟨k + 1 + 1, ⟨rfl, v_int (by simp), trivial⟩, ⟨(hK.trans0 (k_w2.trans0 k26)).trans0 ((kd8).trans0 hKv), by omega, fun t ht => by
      rw [List.take_succ_eq_append_getElem hlt, List.mem_append, List.mem_singleton] at ht
      rcases ht with ht | rfl
      ·exact hok' t ht
      ·exact hq2, fun j hj h => hcons' j hj (by omega)⟩, by dsimp only; omega⟩
  | false =>
   have hfail : rightS s = false := by
    cases hq : rightS s with
    | false => rfl
    | true =>
     have := (List.pairwise_iff_getElem.1 (zan.1 hq).2.2) k (k + 1) hkl hlt (by omega)
     rw [hc] at this; cases this
   clear hokt hno hok hrc
   refine KGO ?_
   exact ⟨zai hfail.symm, K6.trans0 kd8⟩
end
theorem zee {l : List Int} : AscB ltI l ↔ l.Pairwise (· < ·) := by
 unfold AscB
 simp only [ltI, decide_eq_true_eq]
theorem zmn {a b : List Int} (ha : AscB ltI a) (hb : AscB ltI b) : b.foldl withL a = unI a b := by
 have h1 := zdo b a (zee.1 ha)
 have h2 := zcD _ a b (Nat.le_refl _) ha hb
 exact zbL stoI _ _ (zee.2 h1.1) h2.1 fun z => by rw [h1.2, h2.2]
theorem zmK (l : List Pst) (d : Int) : ofP l d = atD l d := by
 unfold ofP atD
 cases l.find? fun p => decide (p.doc = d) <;> rfl
theorem zdp {l : List Pst} (h : rightP l = true) (d : Int) : d ∈ l.map (·.doc) ↔ atD l d ≠ [] := by
 constructor
 ·intro hm
  obtain ⟨p, hp, rfl⟩ := List.mem_map.1 hm
  rw [zcc (zaZ h) hp]
  exact ((zaH.1 h).2 p hp).2.2.1
 ·intro hn
  obtain ⟨p, hp, e, _⟩ := znh hn
  exact List.mem_map.2 ⟨p, hp, e⟩
theorem zeN {a b : List Pst} (ha : rightP a = true) (hb : rightP b = true) : orF a b = orP a b := by
 have hr := zfe ha hb
 have hda := zcU.1 (zaZ ha)
 have hdb := zcU.1 (zaZ hb)
 have hdr := zcU.1 (zaZ hr)
 have hD : (b.map (·.doc)).foldl withL (a.map (·.doc)) = (orP a b).map (·.doc) := by
  have h1 := zdo (b.map (·.doc)) (a.map (·.doc)) (zee.1 hda)
  refine zbL stoI _ _ (zee.2 h1.1) hdr fun z => ?_
  rw [h1.2, zdp ha, zdp hb, zdp hr, zgQ ha hb]
  simp only [ne_eq, zeb]
  by_cases h1 : atD a z = [] <;> by_cases h2 : atD b z = [] <;> simp [h1, h2]
 unfold orF
 rw [hD, List.map_map]
 conv => rhs; rw [← List.map_id (orP a b)]
 refine List.map_congr_left fun p hp => ?_
 obtain ⟨d, pl⟩ := p
 have e := zcc (zaZ hr) hp
 rw [zgQ ha hb] at e
 dsimp only [Function.comp, id] at e ⊢
 rw [zmK, zmK, zmn (zil ha d).1 (zil hb d).1, e]
end Go.Proofs.YtcdpocffoapbeaaGreatDoor
