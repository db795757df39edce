/- Helper lemmas; no conditions of their own. -/
import Derived.Test.YtennokckmjcefaaGreatDoorGMj9
set_option linter.unusedVariables false
set_option maxHeartbeats 8000000
set_option maxRecDepth 100000
namespace Go.Proofs.YtennokckmjcefaaGreatDoor
open Go.Shelf Go.RowKit Go.Pw Go.Vc Go.Cs Go.Lib Go.Cd Go.Mg
theorem zlb {u : List UInt8} (h : zan (decL u).1 = false) (hu : u ≠ []) : decP u = none := by
 unfold decP
 rw [if_neg]
 rintro ⟨_, h2⟩
 unfold encP at h2
 rw [h] at h2
 exact hu h2.symm
theorem ziC {l1 l2 : List Pst} {p : Pst} (h : 1099511627776 < p.doc ∨ ∃ n ∈ p.places, 1099511627776 < n) : zan (l1 ++ p :: l2) = false := by
 cases hq : zan (l1 ++ p :: l2) with
 | false => rfl
 | true =>
  have := (zaw.1 hq).2 p (by simp)
  rcases h with h | ⟨n, hn, h⟩
  ·omega
  have := this.2.2.2.2 n hn; omega
theorem zgv {d n : Nat} (h : 1099511627776 < d + n) : stepN d n = 1099511627777 := by
 unfold stepN
 split <;> omega
theorem zkL {d n : Nat} (h : d + n ≤ 1099511627776) : stepN d n = d + n := by
 unfold stepN
 split <;> omega
section
variable {w : World} {b : Nat}
theorem zcC (s : St) (h : VarK w b 145 (rdC s)) : Calls Tryz.prog 60 #[.pointer (some ⟨b, 0, none⟩)] w fun e w' => e = .returned (.int .i64 (stL s : Nat)) ∧ Kp w w' n_ := by
 obtain ⟨u, y, hc, hu⟩ : ∃ u y, rdC s = [.string (str u), y] ∧ stL s = u.length := by
  cases s with
  | none => exact ⟨[], _, rfl, rfl⟩
  | some u => exact ⟨u, _, rfl, rfl⟩
 rw [hc] at h
 have ha := h.at
 refine zaa (args := [.pointer (some ⟨b, 0, none⟩)]) Tryz.func60 rfl NL ?_; refine GW ?_
 refine KGO ?_
 exact ⟨by rw [hu]; rfl, Yb _ _⟩
theorem zkd (u : List UInt8) (hu : u.length ≤ 10000000) : Calls Tryz.prog 172 #[.string (str u)] w fun e w' =>
  (∃ v, e = .returned (.tuple #[v, .bool (decP u).isSome]) ∧ OwnP w' w.heap.size v ((decP u).getD []) ∧ (decP u = none → v = .slice none 0 0)) ∧ Kp w w' n_ := by
 refine zaa (args := [.string (str u)]) Tryz.func172 rfl NL ?_; refine GW ?_
 refine Ya (Tryz.call58 _ _) (zfy (str u)) ?_
 rintro e w1 ⟨rfl, h1, k1⟩
 obtain ⟨rb, hrb⟩ : ∃ rb, w.heap.size = rb := ⟨_, rfl⟩
 rw [hrb] at h1 ⊢
 have hstr : L (str u) = u := rfl
 rw [hstr] at h1
 refine RT ?_
 refine Ya (Tryz.call59 _ _) (zbo (some u) h1 (fun x e => by injection e with e; subst e; omega)) ?_
 rintro e w2 ⟨rfl, h2, k2⟩
 have K2 : Kp w w2 n_ := keeps_new k1 k2 OM
 have hl2 := zbs (some u)
 have hlt := zaW (some u)
 have hdl : decL u = dDoc (numR (some u)).1 0 (numR (some u)).2 := rfl
 generalize numR (some u) = q at *
 obtain ⟨n0, s0⟩ := q
 dsimp only at h2 hl2 hlt hdl ⊢
 refine RT ?_
 refine KGO ?_
 refine Yc (ι := (Nat × Nat) × St × Value × List Pr) (fun i => [(0, .string (str u)), (4, .pointer (some ⟨rb, 0, none⟩)), (5, .int .i64 (n0 : Nat)), (6, i.2.2.1), (7, .int .i64 (i.1.2 : Nat)), (8, .int .i64 (i.1.1 : Nat))])
  (fun i wr => Kp w wr n_ ∧ VarK wr rb 145 (rdC i.2.1) ∧ OwP wr rb i.2.2.1 i.2.2.2 ∧ i.2.2.2.map (·.p) ++ (dDoc (n0 - i.1.1) i.1.2 i.2.1).1 = (decL u).1 ∧ (dDoc (n0 - i.1.1) i.1.2 i.2.1).2 = (decL u).2 ∧ (encN 0 (i.2.2.2.map (·.p))).length + 2 * stL i.2.1 ≤ 2 * u.length ∧ i.1.1 ≤ n0 ∧ i.1.2 ≤ 1099511627776)
  (fun i => n0 - i.1.1) ((0, 0), s0, .slice none 0 0, []) FR ⟨K2, h2, ⟨World.ownsRow_nil _ _ _ _, fun x h => by cases h⟩, by rw [hdl]; rfl, by rw [hdl]; rfl, by have : stL (some u) = u.length := rfl; rw [this] at hl2; show 0 + 2 * stL s0 ≤ _; omega, yal _, yal _⟩ ?_
 rintro ⟨⟨j, d⟩, st, vo, lx⟩ gg wr ⟨hK, hv, ho, hd1, hd2, hsz, hjn, hdm⟩
 dsimp only at hv ho hd1 hd2 hsz hjn hdm ⊢
 obtain ⟨ao, co, rfl⟩ := zab ho.row
 refine GW ?_
 by_cases hk0 : n0 - j = 0
 ·have hdz : dDoc (n0 - j) d st = ([], st) := by rw [hk0]; rfl
  refine KGO ?_
  have e1 : lx.map (·.p) = (decL u).1 := by rw [← hd1, hdz, yaA]
  have e2 : st = (decL u).2 := by rw [← hd2, hdz]
  refine Ya (Tryz.call64 _ _) (zdK st hv (fun x e => by subst e; simp only [stL] at hsz; omega)) ?_
  rintro e w3 ⟨rfl, k3⟩
  refine RT ?_
  have hdp : decP u = if st = some [] ∧ encP (lx.map (·.p)) = u then some (lx.map (·.p)) else none := by unfold decP; rw [e1, e2]
  have hn := zaZ (lx.map (·.p))
  by_cases hst : st = some []
  rotate_left
  ·rw [decide_eq_false hst]
   rw [if_neg (fun h => hst h.1)] at hdp
   refine KGO ?_
   rw [hdp]
   exact ⟨⟨_, rfl, ownP_nil _ _, fun _ => rfl⟩, hK.trans0 k3⟩
  rw [decide_eq_true hst]
  refine KGO ?_
  refine Ya (Tryz.call155 _ _) (zfD (w := w3) (lx.map (·.p)) ⟨lx, rfl, (ho.keep k3).rd⟩ OM (fun p hp => by have := zbj _ p hp; omega) OM) ?_
  rintro e w4 ⟨rfl, k4⟩
  refine RT ?_
  have ho4 := (ho.keep k3).keep k4
  by_cases heq : encP (lx.map (·.p)) = u
  ·rw [heq] at hdp ⊢
   rw [if_pos ⟨hst, rfl⟩] at hdp
   refine KGO ?_
   rw [hdp]
   exact ⟨⟨_, rfl, ⟨lx, rfl, ho4⟩, fun h => by cases h⟩, (hK.trans0 k3).trans0 k4⟩
  rw [if_neg (fun h => heq h.2)] at hdp
  refine KGO ?_
  refine Br.dec_no (fun h => heq (zbB.1 h)) ?_
  refine GW ?_
  refine KGO ?_
  rw [hdp]
  exact ⟨⟨_, rfl, ownP_nil _ _, fun _ => rfl⟩, (hK.trans0 k3).trans0 k4⟩
 obtain ⟨k, hk⟩ : ∃ k', n0 - j = k' + 1 := ⟨n0 - j - 1, OM⟩
 rw [hk] at hd1 hd2
 refine KGO ?_
 refine Ya (Tryz.call60 _ _) (zcC st hv) ?_
 rintro e w3 ⟨rfl, k3⟩
 have hv := hv.keep0 k3
 have ho := ho.keep k3
 have hK := hK.trans0 k3
 refine RT ?_
 by_cases hs0 : stL st = 0
 ·have hdz : dDoc (k + 1) d st = ([], st) := by rw [dDoc, if_pos hs0]
  refine KGO ?_
  have e1 : lx.map (·.p) = (decL u).1 := by rw [← hd1, hdz, yaA]
  have e2 : st = (decL u).2 := by rw [← hd2, hdz]
  refine Ya (Tryz.call64 _ _) (zdK st hv (fun x e => by subst e; simp only [stL] at hsz; omega)) ?_
  rintro e w3 ⟨rfl, k3⟩
  refine RT ?_
  have hdp : decP u = if st = some [] ∧ encP (lx.map (·.p)) = u then some (lx.map (·.p)) else none := by unfold decP; rw [e1, e2]
  have hn := zaZ (lx.map (·.p))
  by_cases hst : st = some []
  rotate_left
  ·rw [decide_eq_false hst]
   rw [if_neg (fun h => hst h.1)] at hdp
   refine KGO ?_
   rw [hdp]
   exact ⟨⟨_, rfl, ownP_nil _ _, fun _ => rfl⟩, hK.trans0 k3⟩
  rw [decide_eq_true hst]
  refine KGO ?_
  refine Ya (Tryz.call155 _ _) (zfD (w := w3) (lx.map (·.p)) ⟨lx, rfl, (ho.keep k3).rd⟩ OM (fun p hp => by have := zbj _ p hp; omega) OM) ?_
  rintro e w4 ⟨rfl, k4⟩
  refine RT ?_
  have ho4 := (ho.keep k3).keep k4
  by_cases heq : encP (lx.map (·.p)) = u
  ·rw [heq] at hdp ⊢
   rw [if_pos ⟨hst, rfl⟩] at hdp
   refine KGO ?_
   rw [hdp]
   exact ⟨⟨_, rfl, ⟨lx, rfl, ho4⟩, fun h => by cases h⟩, (hK.trans0 k3).trans0 k4⟩
  rw [if_neg (fun h => heq h.2)] at hdp
  refine KGO ?_
  refine Br.dec_no (fun h => heq (zbB.1 h)) ?_
  refine GW ?_
  refine KGO ?_
  rw [hdp]
  exact ⟨⟨_, rfl, ownP_nil _ _, fun _ => rfl⟩, (hK.trans0 k3).trans0 k4⟩
 rw [dDoc, if_neg hs0] at hd1 hd2
 dsimp only at hd1 hd2
 have hsl := zcj hs0
 have hune : u ≠ [] := fun e => by
  have : u.length = 0 := by rw [e]; rfl
  omega
 refine KGO ?_
 have hst0 : ∀ s x, s = some x → stL s ≤ u.length → x.length ≤ 140737488355328 := fun s x e h => by subst e; simp only [stL] at h; omega
 refine Ya (Tryz.call59 _ _) (zbo st hv (fun x e => hst0 st x e OM)) ?_
 rintro e w4 ⟨rfl, h4, k4⟩
 have hbl := zaW st
 have K4 : Kp w w4 n_ := keeps_new hK k4 OM
 have ho4 := ho.keepT k4 (zag hv (by decide))
 generalize numR st = q1 at *
 obtain ⟨n1, s1⟩ := q1
 dsimp only at h4 hbl hd1 hd2 hsl ⊢
 refine RT ?_
 by_cases hov : 1099511627776 < d + n1
 ·refine KGO ?_
  have hnone : decP u = none := zlb (by rw [← hd1]; exact ziC (.inl (by rw [zgv hov]; show (1099511627776 : Int) < ((1099511627777 : Nat) : Int); decide))) hune
  rw [hnone]
  exact ⟨⟨_, rfl, ownP_nil _ _, fun _ => rfl⟩, K4⟩
 rw [zkL OM] at hd1 hd2
 refine KGO ?_
 have h5 := h4
 have K5 := K4
 have ho5 := ho4
 obtain ⟨w5, hw5⟩ : ∃ w5, w5 = w4 := ⟨_, rfl⟩
 rw [← hw5] at h5 K5 ho5 ⊢
 have hsle : d + n1 ≤ 1099511627776 := OM
 have hc : ((d : Nat) : Int) + ((n1 : Nat) : Int) = ((d + n1 : Nat) : Int) := OM
 rw [hc]
 generalize d + n1 = d' at *
 refine Ye (zej (d' : Nat) _) ?_
 refine KGO ?_
 have v_b8 := Yk w5 44 [.int .i64 (d' : Nat), .slice none 0 0]
 refine Yg (vs := [.int .i64 (d' : Nat), .slice none 0 0]) (by rfl) rfl (zak (by rfl)) ?_
 obtain ⟨a_b8, k_w6, z_w6⟩ := new3 w5 44 ([.int .i64 (d' : Nat), .slice none 0 0])
 generalize w5.alloc (.cells (List.toArray ([.int .i64 (d' : Nat), .slice none 0 0])) 44) = w6 at *
 generalize hs_b8 : w5.heap.size = b8 at *
 have h6 := h5.keep0 k_w6
 refine KGO ?_
 refine Ya (Tryz.call59 _ _) (zbo s1 h6 (fun x e => hst0 s1 x e OM)) ?_
 rintro e w7 ⟨rfl, h7, k7⟩
 have hcl := zaW s1
 have hsl2 := zbs s1
 generalize numR s1 = q2 at *
 obtain ⟨c0, s2⟩ := q2
 dsimp only at h7 hcl hd1 hd2 hsl2 ⊢
 refine RT ?_
 refine KGO ?_
 have hrb8 : rb < b8 := by have := h5.lt; omega
 have J7 : Kp w5 w7 (one_ rb) := (k_w6.of_none (c := one_ rb)).trans' k7
 have v_b8 := v_b8.keep k7 (show ¬ b8 = rb by omega)
 clear h4 h6 k4 k7 a_b8 h1 h2 k2 K2 k1 hl2 hdl ho4 hv ho hK K4
 refine Yc (ι := (Nat × Nat) × St × Value × List Int) (fun i => [(0, .string (str u)), (4, .pointer (some ⟨rb, 0, none⟩)), (5, .int .i64 (n0 : Nat)), (6, .slice ao lx.length co), (7, .int .i64 (d' : Nat)), (8, .int .i64 (j : Nat)), (10, .pointer (some ⟨b8, 0, none⟩)), (11, .int .i64 (c0 : Nat)), (12, .int .i64 (i.1.2 : Nat)), (13, .int .i64 (i.1.1 : Nat))])
  (fun i wr => Kp w5 wr (one_ rb) ∧ VarK wr rb 145 (rdC i.2.1) ∧ VarK wr b8 44 [.int .i64 (d' : Nat), i.2.2.1] ∧ OwnI wr b8 i.2.2.1 i.2.2.2 ∧ i.2.2.2 ++ (dPl (c0 - i.1.1) i.1.2 i.2.1).1 = (dPl c0 0 s2).1 ∧ (dPl (c0 - i.1.1) i.1.2 i.2.1).2 = (dPl c0 0 s2).2 ∧ i.2.2.2.length + stL i.2.1 ≤ stL s2 ∧ i.1.1 ≤ c0 ∧ i.1.2 ≤ 1099511627776)
  (fun i => c0 - i.1.1) ((0, 0), s2, .slice none 0 0, []) FR ⟨J7, h7, v_b8, World.ownsRow_nil _ _ _ _, rfl, rfl, by show 0 + stL s2 ≤ _; omega, yal _, yal _⟩ ?_
 clear J7 h7 v_b8
 rintro ⟨⟨c, a⟩, s, vp, pl⟩ gg2 wq ⟨hJ, hv, h8, hp, hp1, hp2, hps, hcc, ham⟩
 dsimp only at hv h8 hp hp1 hp2 hps hcc ham ⊢
 obtain ⟨ap, cp, rfl⟩ := zab hp
 have a8 := h8.at
 have hzq := hJ.size
 refine GW ?_
 by_cases hc0 : c0 - c = 0
 ·have hdz : dPl (c0 - c) a s = ([], s) := by rw [hc0]; rfl
  obtain ⟨wend, rfl⟩ : ∃ x, x = wq := ⟨_, rfl⟩
  have hd1 : lx.map (·.p) ++ (⟨(d' : Nat), (dPl c0 0 s2).1⟩ :: (dDoc (n0 - (j + 1)) d' (dPl c0 0 s2).2).1) = (decL u).1 := by rw [show n0 - (j + 1) = k by omega]; exact hd1
  have hd2 : (dDoc (n0 - (j + 1)) d' (dPl c0 0 s2).2).2 = (decL u).2 := by rw [show n0 - (j + 1) = k by omega]; exact hd2
  refine KGO ?_
  have e1 : pl = (dPl c0 0 s2).1 := by rw [← hp1, hdz, yaA]
  have e2 : s = (dPl c0 0 s2).2 := by rw [← hp2, hdz]
  rw [← e1, ← e2] at hd1
  rw [← e2] at hd2
  have hoq := ho5.keepT hJ (zag h5 (by decide))
  have Kq : Kp w wend n_ := keeps_new K5 hJ OM
  have zq := Kq.size
  have hn := zaZ (lx.map (·.p))
  rw [yaf] at hn
  refine KGO ?_
  refine Ye (bs1P ⟨⟨(d' : Nat), pl⟩, ⟨ap, pl.length, cp⟩⟩ _) ?_
  obtain ⟨a_b14, v_b14, k_w14, z_w14, r_w14⟩ := new5 wend 44 (prC ⟨⟨(d' : Nat), pl⟩, ⟨ap, pl.length, cp⟩⟩)
  generalize wend.alloc (.cells (List.toArray (prC ⟨⟨(d' : Nat), pl⟩, ⟨ap, pl.length, cp⟩⟩)) 44) = w14 at *
  generalize hs_b14 : wend.heap.size = b14 at *
  have ho14 := hoq.keep k_w14
  have h14 := hv.keep0 k_w14
  have p14 := own_keep0 hp k_w14
  have K14 := Kq.trans0 k_w14
  have z14 := K14.size
  refine KGO ?_
  refine tyP.app1 (⟨⟨(d' : Nat), pl⟩, ⟨ap, pl.length, cp⟩⟩ : Pr) ho14.row OM a_b14 OM OM fun v15 w15 o15 k15 => ?_
  have ho15 : OwP w15 rb v15 (lx ++ [⟨⟨(d' : Nat), pl⟩, ⟨ap, pl.length, cp⟩⟩]) := ⟨o15, fun y hy => by
   rcases yaj.1 hy with hy | hy
   ·exact zad (D := [3]) (ho14.pl y hy) k15 (zaC ho14.row (by decide)) (by decide)
   rw [yac.1 hy]
   exact own_base (zad (D := [3]) p14 k15 (zaC ho14.row (by decide)) (by decide)) OM⟩
  have h15 := h14.keep k15 (zac ho14.row h14 (by decide))
  have K15 := zav ho14.row k15 K14 OM
  obtain ⟨a15, c15, rfl⟩ := zab o15
  refine KGO ?_
  exact ⟨((j + 1, d'), s, .slice a15 (lx ++ [(⟨⟨(d' : Nat), pl⟩, ⟨ap, pl.length, cp⟩⟩ : Pr)]).length c15, lx ++ [⟨⟨(d' : Nat), pl⟩, ⟨ap, pl.length, cp⟩⟩]), FR, ⟨K15, h15, ho15, by rw [List.map_append, List.append_assoc]; exact hd1, hd2, by rw [List.map_append, List.map_singleton, encN_snoc]; dsimp only; omega, DO, hsle⟩, DO⟩
 obtain ⟨c1, hc1⟩ : ∃ c', c0 - c = c' + 1 := ⟨c0 - c - 1, OM⟩
 rw [hc1] at hp1 hp2
 refine KGO ?_
 refine Ya (Tryz.call60 _ _) (zcC s hv) ?_
 rintro e w8 ⟨rfl, k8⟩
 have hJ := hJ.trans' (k8.of_none (c := one_ rb))
 have hv := hv.keep0 k8
 have h8 := h8.keep0 k8
 have hp := own_keep0 hp k8
 have a8 := h8.at
 refine RT ?_
 by_cases hs0' : stL s = 0
 ·have hdz : dPl (c1 + 1) a s = ([], s) := by rw [dPl, if_pos hs0']
  obtain ⟨wend, rfl⟩ : ∃ x, x = w8 := ⟨_, rfl⟩
  have hd1 : lx.map (·.p) ++ (⟨(d' : Nat), (dPl c0 0 s2).1⟩ :: (dDoc (n0 - (j + 1)) d' (dPl c0 0 s2).2).1) = (decL u).1 := by rw [show n0 - (j + 1) = k by omega]; exact hd1
  have hd2 : (dDoc (n0 - (j + 1)) d' (dPl c0 0 s2).2).2 = (decL u).2 := by rw [show n0 - (j + 1) = k by omega]; exact hd2
  refine KGO ?_
  have e1 : pl = (dPl c0 0 s2).1 := by rw [← hp1, hdz, yaA]
  have e2 : s = (dPl c0 0 s2).2 := by rw [← hp2, hdz]
  rw [← e1, ← e2] at hd1
  rw [← e2] at hd2
  have hoq := ho5.keepT hJ (zag h5 (by decide))
  have Kq : Kp w wend n_ := keeps_new K5 hJ OM
  have zq := Kq.size
  have hn := zaZ (lx.map (·.p))
  rw [yaf] at hn
  refine KGO ?_
  refine Ye (bs1P ⟨⟨(d' : Nat), pl⟩, ⟨ap, pl.length, cp⟩⟩ _) ?_
  obtain ⟨a_b14, v_b14, k_w14, z_w14, r_w14⟩ := new5 wend 44 (prC ⟨⟨(d' : Nat), pl⟩, ⟨ap, pl.length, cp⟩⟩)
  generalize wend.alloc (.cells (List.toArray (prC ⟨⟨(d' : Nat), pl⟩, ⟨ap, pl.length, cp⟩⟩)) 44) = w14 at *
  generalize hs_b14 : wend.heap.size = b14 at *
  have ho14 := hoq.keep k_w14
  have h14 := hv.keep0 k_w14
  have p14 := own_keep0 hp k_w14
  have K14 := Kq.trans0 k_w14
  have z14 := K14.size
  refine KGO ?_
  refine tyP.app1 (⟨⟨(d' : Nat), pl⟩, ⟨ap, pl.length, cp⟩⟩ : Pr) ho14.row OM a_b14 OM OM fun v15 w15 o15 k15 => ?_
  have ho15 : OwP w15 rb v15 (lx ++ [⟨⟨(d' : Nat), pl⟩, ⟨ap, pl.length, cp⟩⟩]) := ⟨o15, fun y hy => by
   rcases yaj.1 hy with hy | hy
   ·exact zad (D := [3]) (ho14.pl y hy) k15 (zaC ho14.row (by decide)) (by decide)
   rw [yac.1 hy]
   exact own_base (zad (D := [3]) p14 k15 (zaC ho14.row (by decide)) (by decide)) OM⟩
  have h15 := h14.keep k15 (zac ho14.row h14 (by decide))
  have K15 := zav ho14.row k15 K14 OM
  obtain ⟨a15, c15, rfl⟩ := zab o15
  refine KGO ?_
  exact ⟨((j + 1, d'), s, .slice a15 (lx ++ [(⟨⟨(d' : Nat), pl⟩, ⟨ap, pl.length, cp⟩⟩ : Pr)]).length c15, lx ++ [⟨⟨(d' : Nat), pl⟩, ⟨ap, pl.length, cp⟩⟩]), FR, ⟨K15, h15, ho15, by rw [List.map_append, List.append_assoc]; exact hd1, hd2, by rw [List.map_append, List.map_singleton, encN_snoc]; dsimp only; omega, DO, hsle⟩, DO⟩
 rw [dPl, if_neg hs0'] at hp1 hp2
 dsimp only at hp1 hp2
 have hsq := zcj hs0'
 refine KGO ?_
 refine Ya (Tryz.call59 _ _) (zbo s hv (fun x e => hst0 s x e OM)) ?_
 rintro e w9 ⟨rfl, h9, k9⟩
 have hbl2 := zaW s
 have J9 := hJ.trans' k9
 have v9 := h8.keep k9 (show ¬ b8 = rb by omega)
 have p9 := zad (D := [3]) hp k9 (zag hv (by decide)) (by decide)
 clear hp h8 a8
 generalize numR s = q3 at *
 obtain ⟨n3, s3⟩ := q3
 dsimp only at h9 hbl2 hp1 hp2 hsq ⊢
 refine RT ?_
 by_cases hov2 : 1099511627776 < a + n3
 ·refine KGO ?_
  have hnone : decP u = none := zlb (by rw [← hd1]; exact ziC (.inr ⟨1099511627777, by dsimp only; rw [← hp1, zgv hov2]; simp, by decide⟩)) hune
  rw [hnone]
  exact ⟨⟨_, rfl, ownP_nil _ _, fun _ => rfl⟩, keeps_new K5 J9 OM⟩
 rw [zkL OM] at hp1 hp2
 have a10 := v9.at
 refine KGO ?_
 have hale : a + n3 ≤ 1099511627776 := OM
 have hc2 : ((a : Nat) : Int) + ((n3 : Nat) : Int) = ((a + n3 : Nat) : Int) := OM
 rw [hc2]
 generalize a + n3 = a' at *
 refine KGO ?_
 refine Ye (bs1I (a' : Nat) _) ?_
 obtain ⟨w10, hw10⟩ : ∃ w10, w10 = w9 := ⟨_, rfl⟩
 rw [← hw10] at h9 J9 v9 p9 a10 ⊢
 obtain ⟨a_b11, v_b11, k_w11, z_w11, r_w11⟩ := new5 w10 3 (inC (a' : Nat))
 generalize w10.alloc (.cells (List.toArray (inC (a' : Nat))) 3) = w11 at *
 generalize hs_b11 : w10.heap.size = b11 at *
 have v11 := v9.keep0 k_w11
 have h11 := h9.keep0 k_w11
 have p11 := own_keep0 p9 k_w11
 have J11 := J9.trans' (k_w11.of_none (c := one_ rb))
 have z11 := J11.size
 refine KGO ?_
 refine tyI.app1 (a' : Int) p11 OM a_b11 OM OM fun v12 w12 o12 k12 => ?_
 have J12 := zav p11 k12 J11 OM
 have v12' := v11.keep k12 (zac p11 v11 (by decide))
 have h12 := h11.keep k12 (zac p11 h11 (by decide))
 obtain ⟨a12, c12, rfl⟩ := zab o12
 refine KGO ?_
 refine Yd (i := 1) v12' (by simp) (by rfl) ⟨rfl, by simp, by simp⟩ fun w13 v13 k13 => ?_
 have h13 := h12.keep k13 (show ¬ rb = b8 by omega)
 have p13 := zad (D := [3]) o12 k13 (zag v12' (by decide)) (by decide)
 have J13 : Kp w5 w13 (one_ rb) := J12.trans k13 fun q hq e => by have e : q = b8 := e; omega
 refine KGO ?_
 exact ⟨((c + 1, a'), s3, _, pl ++ [(a' : Int)]), FR, ⟨J13, h13, v13, p13, by rw [show c0 - (c + 1) = c1 by omega, List.append_assoc]; exact hp1, by rw [show c0 - (c + 1) = c1 by omega]; exact hp2, by rw [List.length_append, List.length_singleton]; dsimp only; omega, DO, hale⟩, DO⟩
end
section
variable {w : World}
theorem zeB (h : Sv) (s : Sgm) (hr : RdS w h s) (hs : SmS s) (hdb : s.docs.length ≤ 10000000) : Calls Tryz.prog 120 #[.agg (sgC h).toArray] w fun e w' => e = .returned (.bool (rightS s)) ∧ Kp w w' n_ := by
 have hn1 := Yl hr.t
 have hn2 := Yl hr.d
 obtain ⟨at_, ct, et, hrt⟩ := hr.t
 obtain ⟨ad, cd, ed, hrd⟩ := hr.d
 have hrd0 := hr.d
 obtain ⟨⟨ta, tn, tc⟩, ⟨da, dn, dc⟩⟩ := h
 injection et with q1 q2 q3
 injection ed with q4 q5 q6
 dsimp only at q1 q2 q3 q4 q5 q6 hrd0
 subst q1 q2 q3 q4 q5 q6
 have hsd := hs.d
 have hst := hs.t
 clear hn1 hn2
 refine zaa (args := [.agg (sgC ⟨⟨ta, s.terms.length, tc⟩, ⟨da, s.docs.length, dc⟩⟩).toArray]) Tryz.func120 rfl NL ?_; refine GW ?_
 obtain ⟨a_b1, v_b1, k_w1, z_w1, r_w1⟩ := new5 w 65 (sgC ⟨⟨ta, s.terms.length, tc⟩, ⟨da, s.docs.length, dc⟩⟩)
 generalize w.alloc (.cells (List.toArray (sgC ⟨⟨ta, s.terms.length, tc⟩, ⟨da, s.docs.length, dc⟩⟩)) 65) = w1 at *
 generalize hs_b1 : w.heap.size = b1 at *
 unfold sgC at a_b1
 dsimp only at a_b1
 refine KGO ?_
 refine Yc (ι := Nat) (fun i => [(1, .pointer (some ⟨b1, 0, none⟩)), (3, .int .i64 (i : Nat))])
  (fun i wr => Kp w1 wr n_ ∧ i ≤ s.docs.length ∧ (∀ n ∈ s.docs.take i, 1 ≤ n ∧ n ≤ 1099511627776) ∧ ∀ j (hj : j + 1 < s.docs.length), j + 1 < i → ltI (s.docs[j]'OM) s.docs[j + 1] = true) (fun i => s.docs.length - i) 0 FR ⟨Yb _ _, yal _, by simp, fun j hj h => OM⟩ ?_
 rintro i gg wr ⟨hK, hi, hra, hrc⟩
 have hKw := k_w1.trans0 hK
 clear r_w1
 refine GW ?_
 by_cases hlt : i < s.docs.length
 ·obtain ⟨g, o, rfl, hg, hat⟩ := hrd OM
  have ci := zaJ hat hlt
  have hno : ¬ (1 ≤ s.docs[i] ∧ s.docs[i] ≤ 1099511627776) → rightS s = false := fun h => by
   cases hq : rightS s with
   | false => rfl
   | true => exact absurd ((zah.1 hq).1.2 _ (yak hlt)) h
  have hat' := hat
  clear hrt hat
  refine KGO ?_
  refine Ya (Tryz.call171 _ _) (zov (w := wr.drew) s.docs[i] 1 1099511627776) ?_
  rintro e _ ⟨rfl, rfl⟩
  refine RT ?_
  by_cases h12 : 1 ≤ s.docs[i] ∧ s.docs[i] ≤ 1099511627776
  rotate_left
  ·rw [show (decide (1 ≤ s.docs[i]) && decide (s.docs[i] ≤ 1099511627776)) = false by simpa using h12]
   refine KGO ?_
   exact ⟨ret_bool (hno h12).symm, hKw.drew⟩
  rw [show (decide (1 ≤ s.docs[i]) && decide (s.docs[i] ≤ 1099511627776)) = true by simpa using h12]
  have hra2 : ∀ n ∈ s.docs.take (i + 1), 1 ≤ n ∧ n ≤ 1099511627776 := fun n hn => by
   rw [yad hlt, yaj, yac] at hn
   rcases hn with hn | rfl
   ·exact hra n hn
   exact h12
  cases i with
  | zero =>
   refine KGO ?_
   exact ⟨1, FR, ⟨hK.drew, OM, hra2, fun j hj h => OM⟩, DO⟩
  | succ k =>
   have ck : w.cell? ⟨g, o + k, none⟩ = some (.int .i64 s.docs[k]) := zaJ hat' OM
   have e1 : (((k + 1 : Nat) : Int) - 1).toNat = k := OM
   refine KGO ?_
   rw [e1]
   refine KGO ?_
   by_cases h3 : s.docs[k + 1] ≤ s.docs[k]
   ·refine KGO ?_
    refine ⟨ret_bool ?_, hKw.drew⟩
    cases hq : rightS s with
    | false => rfl
    | true =>
     have := of_decide_eq_true ((yaH.1 (zah.1 hq).1.1) k (k + 1) OM hlt OM)
     omega
   refine KGO ?_
   refine ⟨k + 1 + 1, FR, ⟨hK.drew, OM, hra2, fun j hj h => ?_⟩, DO⟩
   by_cases hj2 : j + 1 < k + 1
   ·exact hrc j hj hj2
   obtain rfl : j = k := OM
   exact decide_eq_true OM
 have hdok : AscB ltI s.docs ∧ ∀ n ∈ s.docs, 1 ≤ n ∧ n ≤ 1099511627776 := by
  rw [yaz OM] at hra
  exact ⟨pw_consec stoI.tr _ fun j hj => hrc j hj OM, hra⟩
 have q1 := Yb wr n_
 clear hrd hra hrc
 refine KGO ?_
 refine Yc (ι := Nat) (fun i => [(1, .pointer (some ⟨b1, 0, none⟩)), (4, .int .i64 (i : Nat))])
  (fun i wr => Kp w1 wr n_ ∧ i ≤ s.terms.length ∧ (∀ t ∈ s.terms.take i, zax s.docs t = true) ∧ ∀ j (hj : j + 1 < s.terms.length), j + 1 < i → ltK (s.terms[j]'OM).key s.terms[j + 1].key = true) (fun i => s.terms.length - i) 0 FR ⟨hK, yal _, by simp, fun j hj h => OM⟩ ?_
 clear hlt hi hKw hK q1
 rintro i gg wr ⟨hK, hi, hok, hrc⟩
 have hKw := k_w1.trans0 hK
 refine GW ?_
 by_cases hlt : i < s.terms.length
 rotate_left
 ·rw [yaz OM] at hok
  have hall : rightS s = true := zah.2 ⟨hdok, hok, pw_consec (α := Trm) (lt := fun a b => ltK a.key b.key) (fun a b c => stoK.tr _ _ _) _ fun j hj => hrc j hj OM⟩
  refine KGO ?_
  exact ⟨ret_bool hall.symm, hKw⟩
 obtain ⟨g, o, rfl, hg, hat⟩ := hrt OM
 have hsm := hs.x _ (yak hlt)
 have hno : zax s.docs s.terms[i] = false → rightS s = false := fun h => by
  cases hq : rightS s with
  | false => rfl
  | true => rw [(zah.1 hq).2.1 _ (yak hlt)] at h; cases h
 refine KGO ?_
 have v5 := Yk wr 141 (tmC s.terms[i])
 refine Yg (vs := tmC s.terms[i]) (by rfl) rfl (zak (by rfl)) ?_
 obtain ⟨a_b5, k_w2, z_w2⟩ := new3 wr 141 (tmC s.terms[i])
 generalize wr.alloc (.cells (List.toArray (tmC s.terms[i])) 141) = w2 at *
 generalize hs_b5 : wr.heap.size = b5 at *
 have K2 := hKw.trans0 k_w2
 have q2 := Yb w2 n_
 have hs1 : (str s.terms[i].word).size = s.terms[i].word.length := rfl
 refine KGO ?_
 refine Ya (Tryz.call158 _ _) (zmD (w := w2) (str s.terms[i].word) (by have := hsm.w; omega)) ?_
 rintro e w4 ⟨v4, rfl, o4, k4⟩
 rw [show listL (L (str s.terms[i].word)) = wordsOf s.terms[i].word from rfl] at o4
 have o4 := zhA o4
 have hokt0 : 1 ≤ s.terms[i].field ∧ s.terms[i].field ≤ 5 → zax s.docs s.terms[i] = (decide (wordsOf s.terms[i].word = [s.terms[i].word]) && zbx s.docs s.terms[i].list) := fun h => by unfold zax; rw [decide_eq_true h]; rfl
 have hokn : ¬ (1 ≤ s.terms[i].field ∧ s.terms[i].field ≤ 5) → zax s.docs s.terms[i] = false := fun h => by unfold zax; rw [decide_eq_false h]; rfl
 generalize wordsOf s.terms[i].word = W at *
 obtain ⟨a4, c4, rfl⟩ := zab o4
 have rw4 := own_rowO o4
 have a54 := at_mono a_b5 k4
 have q4 := Yb w4 n_
 refine RT ?_
 refine KGO ?_
 refine Ya (Tryz.call172 _ _) (zkd (w := w4) s.terms[i].list hsm.l) ?_
 rintro e w6 ⟨⟨v6, rfl, o5, hn5⟩, k46⟩
 obtain ⟨a5, c5, rfl⟩ := o5.shape
 have k26 := k4.trans0 k46
 have K6 := K2.trans0 k26
 have v5 := v5.keep0 k26
 have hat6 : At w6 g o (s.terms.flatMap tmC) := at_mono hat K6
 have ab1 := at_mono a_b1 (hK.trans0 (k_w2.trans0 k26))
 have q6 := Yb w6 n_
 have kd := q6.drew
 clear a54 a_b5 q4 q2 hn5
 refine RT ?_
 refine Yo (fun u => Kp w6 u n_) (fun _ => true) (by decide +kernel) kd ?_
 refine GW ?_
 refine Yf (by rfl) (fun u hu => (v5.keep0 hu).at 0 _ rfl) ?_
 refine GW ?_
 refine Ya (Tryz.call171 _ _) (zov (w := w6.drew) s.terms[i].field 1 5) ?_
 rintro e _ ⟨rfl, rfl⟩
 obtain ⟨w7, hw7⟩ : ∃ w7, w6.drew = w7 := ⟨_, rfl⟩
 rw [hw7] at kd ⊢
 refine RT ?_
 refine ⟨kd, ?_⟩
 refine GW ?_
 by_cases hf : 1 ≤ s.terms[i].field ∧ s.terms[i].field ≤ 5
 rotate_left
 ·rw [show (decide (1 ≤ s.terms[i].field) && decide (s.terms[i].field ≤ 5)) = false by simpa using hf]
  have hfail : rightS s = false := hno (hokn hf)
  clear hokt0 hokn hno hok hrc
  refine KGO ?_
  exact ⟨ret_bool hfail.symm, K6.trans0 kd⟩
 rw [show (decide (1 ≤ s.terms[i].field) && decide (s.terms[i].field ≤ 5)) = true by simpa using hf]
 have hokt := hokt0 hf
 clear hokt0 hokn
 cases i with
 | zero =>
  have hcons : ∀ j (hj : j + 1 < s.terms.length), j + 1 < 0 + 1 → ltK (s.terms[j]'OM).key s.terms[j + 1].key = true := fun j hj h => OM
  refine KGO ?_
  by_cases g1 : W.length = 1
  rotate_left
  ·have hfail : rightS s = false := hno (by rw [hokt, decide_eq_false (fun h => g1 (by rw [h]; rfl)), Bool.false_and])
   clear hokt hno hcons hok hrc
   refine KGO ?_
   exact ⟨ret_bool hfail.symm, K6.trans0 kd⟩
  obtain ⟨wd, rfl⟩ := ybO.1 g1
  rw [ybu] at *
  obtain ⟨_, _, e4, hr4⟩ := rw4
  injection e4 with e4 _ _
  subst e4
  obtain ⟨g4, o4', rfl, _, hat4⟩ := hr4 (by simp)
  have c40 : ∀ u, Kp w6 u n_ → u.cell? ⟨g4, o4' + 0, none⟩ = some (.string (str wd)) := fun u hu => zao (hat4 0 _ rfl) (k46.trans0 hu)
  refine KGO ?_
  refine Yf (by rfl) (fun u hu => (v5.keep0 hu).at 1 _ rfl) ?_
  by_cases g2 : wd = s.terms[0].word
  rotate_left
  ·have g2' : ¬ str wd = str s.terms[0].word := fun h => g2 (zbB.1 h)
   have hfail : rightS s = false := hno (by rw [hokt, decide_eq_false (fun h => g2 (by injection h)), Bool.false_and])
   clear hokt hno hcons hok hrc
   refine KGO ?_
   exact ⟨ret_bool hfail.symm, K6.trans0 kd⟩
  have g2' : str wd = str s.terms[0].word := by rw [g2]
  have hokt2 : zax s.docs s.terms[0] = zbx s.docs s.terms[0].list := by rw [hokt, decide_eq_true (by rw [g2]), Bool.true_and]
  cases hq : decP s.terms[0].list with
  | none =>
   have hfail : rightS s = false := hno (by rw [hokt2]; unfold zbx; rw [hq])
   dsimp only [Option.isSome]
   clear hokt hokt2 hno hcons hok hrc
   refine KGO ?_
   exact ⟨ret_bool hfail.symm, K6.trans0 kd⟩
  | some pl =>
   rw [hq] at o5
   dsimp only [Option.isSome, Option.getD] at o5 ⊢
   by_cases g3 : pl = []
   ·have hfail : rightS s = false := hno (by rw [hokt2]; unfold zbx; rw [hq, g3]; rfl)
    have g3' : pl.length = 0 := by rw [g3]; rfl
    clear hokt hokt2 hno hcons hok hrc
    refine KGO ?_
    exact ⟨ret_bool hfail.symm, K6.trans0 kd⟩
   have g3' : 0 < pl.length := yaN.2 g3
   have hall : zax s.docs s.terms[0] = pl.all fun x => decide (x.doc ∈ s.docs) := by
    rw [hokt2]; unfold zbx; rw [hq]
    cases pl with
    | nil => exact absurd rfl g3
    | cons x l => rfl
   obtain ⟨lx, hlx, opx⟩ := o5
   have hlxl : lx.length = pl.length := by rw [← hlx, yaf]
   have hpb : lx.length ≤ 10000000 := by
    have h1 := zhp s.terms[0]
    rw [show plT s.terms[0] = pl from by unfold plT; rw [hq]; rfl] at h1
    have h2 := zaZ pl
    unfold cntP at h1
    have h3 := hsm.l
    omega
   have opx := opx.keep kd
   rw [← hlxl] at opx g3' ⊢
   obtain ⟨g5, e5, _, _, hat5⟩ := zdY opx.row OM
   obtain rfl := e5
   have hok' := hok
   have hcons' := hcons
   have ab7 := at_mono a_b1 ((hK.trans0 (k_w2.trans0 k26)).trans0 kd)
   clear hokt hokt2 hcons hok hrc hat4 c40 opx
   refine KGO ?_
   refine Yc (ι := Nat) (fun j => [(1, .pointer (some ⟨b1, 0, none⟩)), (4, .int .i64 ((0 : Nat) : Int)), (7, .slice (some ⟨g5, 0, none⟩) lx.length c5), (9, .int .i64 (j : Nat))])
    (fun j wr => Kp w7 wr n_ ∧ j ≤ lx.length ∧ ∀ x ∈ lx.take j, x.p.doc ∈ s.docs) (fun j => lx.length - j) 0 FR ⟨Yb _ _, yal _, by simp⟩ ?_
   rintro j g9 wv ⟨hKv, hj, hin⟩
   refine GW ?_
   by_cases hjt : j < lx.length
   ·refine KGO ?_
    refine Ya (Tryz.call173 _ _) (zlY (w := wv.drew) s.docs lx[j].p.doc (hrd0.keep (K6.trans0 ((kd).trans0 hKv.drew))) OM) ?_
    rintro e wu ⟨rfl, ku⟩
    refine RT ?_
    by_cases hm : lx[j].p.doc ∈ s.docs
    ·rw [decide_eq_true hm]
     refine KGO ?_
     refine ⟨j + 1, FR, ⟨hKv.drew.trans0 ku, OM, fun x hx => ?_⟩, DO⟩
     rw [yad hjt, yaj, yac] at hx
     rcases hx with hx | rfl
     ·exact hin x hx
     exact hm
    rw [decide_eq_false hm]
    have hfail : rightS s = false := hno (by
     rw [hall]
     cases hz : pl.all fun x => decide (x.doc ∈ s.docs) with
     | false => rfl
     | true =>
      rw [yaF] at hz
      have := hz lx[j].p (by rw [← hlx]; exact yay.2 ⟨_, yak hjt, rfl⟩)
      exact absurd (of_decide_eq_true this) hm)
    refine KGO ?_
    exact ⟨ret_bool hfail.symm, K6.trans0 (((kd).trans0 hKv.drew).trans0 ku)⟩
   rw [yaz OM] at hin
   have hq2 : zax s.docs s.terms[0] = true := by
    rw [hall, yaF]
    intro x hx
    rw [← hlx] at hx
    obtain ⟨y, hy, rfl⟩ := yay.1 hx
    exact decide_eq_true (hin y hy)
   refine KGO ?_
   exact ⟨0 + 1, FR, ⟨(hK.trans0 (k_w2.trans0 k26)).trans0 ((kd).trans0 hKv), OM, fun t ht => by
    rw [yad hlt, yaj, yac] at ht
    rcases ht with ht | rfl
    ·exact hok' t ht
    exact hq2, fun j hj h => hcons' j hj OM⟩, DO⟩
 | succ k =>
  have e1 : (((k + 1 : Nat) : Int) - 1).toNat = k := OM
  refine KGO ?_
  simp only [e1]
  have hkl : k < s.terms.length := OM
  have hek : At w6 g (o + k * 3) (tmC s.terms[k]) := fun j v hv => zea hat6 lenTm hkl j v hv
  refine HeldW (by rfl) (by rfl) hek (fun _ hu => hu) (by rfl) ?_
  refine KGO ?_
  refine HeldG (tmC s.terms[k + 1]) (by rfl) (by rfl) (fun u hu => (v5.keep0 hu).at) (by rfl) ?_
  refine KGO ?_
  refine Ya (Tryz.call159 _ _) (zmC (w := w7) s.terms[k] s.terms[k + 1]) ?_
  rintro e w8 ⟨rfl, k8⟩
  have kd8 := kd.trans0 k8
  refine RT ?_
  refine ⟨kd8, ?_⟩
  cases hc : ltK s.terms[k].key s.terms[k + 1].key with
  | true =>
   have hcons : ∀ j (hj : j + 1 < s.terms.length), j + 1 < (k + 1) + 1 → ltK (s.terms[j]'OM).key s.terms[j + 1].key = true := fun j hj h => by
    by_cases hj2 : j + 1 < k + 1
    ·exact hrc j hj hj2
    obtain rfl : j = k := OM
    exact hc
   clear hc hek
   refine KGO ?_
   by_cases g1 : W.length = 1
   rotate_left
   ·have hfail : rightS s = false := hno (by rw [hokt, decide_eq_false (fun h => g1 (by rw [h]; rfl)), Bool.false_and])
    clear hokt hno hcons hok hrc
    refine KGO ?_
    exact ⟨ret_bool hfail.symm, K6.trans0 kd8⟩
   obtain ⟨wd, rfl⟩ := ybO.1 g1
   rw [ybu] at *
   obtain ⟨_, _, e4, hr4⟩ := rw4
   injection e4 with e4 _ _
   subst e4
   obtain ⟨g4, o4', rfl, _, hat4⟩ := hr4 (by simp)
   have c40 : ∀ u, Kp w6 u n_ → u.cell? ⟨g4, o4' + 0, none⟩ = some (.string (str wd)) := fun u hu => zao (hat4 0 _ rfl) (k46.trans0 hu)
   refine KGO ?_
   refine Yf (by rfl) (fun u hu => (v5.keep0 hu).at 1 _ rfl) ?_
   by_cases g2 : wd = s.terms[k + 1].word
   rotate_left
   ·have g2' : ¬ str wd = str s.terms[k + 1].word := fun h => g2 (zbB.1 h)
    have hfail : rightS s = false := hno (by rw [hokt, decide_eq_false (fun h => g2 (by injection h)), Bool.false_and])
    clear hokt hno hcons hok hrc
    refine KGO ?_
    exact ⟨ret_bool hfail.symm, K6.trans0 kd8⟩
   have g2' : str wd = str s.terms[k + 1].word := by rw [g2]
   have hokt2 : zax s.docs s.terms[k + 1] = zbx s.docs s.terms[k + 1].list := by rw [hokt, decide_eq_true (by rw [g2]), Bool.true_and]
   cases hq : decP s.terms[k + 1].list with
   | none =>
    have hfail : rightS s = false := hno (by rw [hokt2]; unfold zbx; rw [hq])
    dsimp only [Option.isSome]
    clear hokt hokt2 hno hcons hok hrc
    refine KGO ?_
    exact ⟨ret_bool hfail.symm, K6.trans0 kd8⟩
   | some pl =>
    rw [hq] at o5
    dsimp only [Option.isSome, Option.getD] at o5 ⊢
    by_cases g3 : pl = []
    ·have hfail : rightS s = false := hno (by rw [hokt2]; unfold zbx; rw [hq, g3]; rfl)
     have g3' : pl.length = 0 := by rw [g3]; rfl
     clear hokt hokt2 hno hcons hok hrc
     refine KGO ?_
     exact ⟨ret_bool hfail.symm, K6.trans0 kd8⟩
    have g3' : 0 < pl.length := yaN.2 g3
    have hall : zax s.docs s.terms[k + 1] = pl.all fun x => decide (x.doc ∈ s.docs) := by
     rw [hokt2]; unfold zbx; rw [hq]
     cases pl with
     | nil => exact absurd rfl g3
     | cons x l => rfl
    obtain ⟨lx, hlx, opx⟩ := o5
    have hlxl : lx.length = pl.length := by rw [← hlx, yaf]
    have hpb : lx.length ≤ 10000000 := by
     have h1 := zhp s.terms[k + 1]
     rw [show plT s.terms[k + 1] = pl from by unfold plT; rw [hq]; rfl] at h1
     have h2 := zaZ pl
     unfold cntP at h1
     have h3 := hsm.l
     omega
    have opx := opx.keep kd8
    rw [← hlxl] at opx g3' ⊢
    obtain ⟨g5, e5, _, _, hat5⟩ := zdY opx.row OM
    obtain rfl := e5
    have hok' := hok
    have hcons' := hcons
    have ab7 := at_mono a_b1 ((hK.trans0 (k_w2.trans0 k26)).trans0 kd8)
    clear hokt hokt2 hcons hok hrc hat4 c40 opx
    refine KGO ?_
    refine Yc (ι := Nat) (fun j => [(1, .pointer (some ⟨b1, 0, none⟩)), (4, .int .i64 ((k + 1 : Nat) : Int)), (7, .slice (some ⟨g5, 0, none⟩) lx.length c5), (9, .int .i64 (j : Nat))])
     (fun j wr => Kp w8 wr n_ ∧ j ≤ lx.length ∧ ∀ x ∈ lx.take j, x.p.doc ∈ s.docs) (fun j => lx.length - j) 0 FR ⟨Yb _ _, yal _, by simp⟩ ?_
    rintro j g9 wv ⟨hKv, hj, hin⟩
    refine GW ?_
    by_cases hjt : j < lx.length
    ·refine KGO ?_
     refine Ya (Tryz.call173 _ _) (zlY (w := wv.drew) s.docs lx[j].p.doc (hrd0.keep (K6.trans0 ((kd8).trans0 hKv.drew))) OM) ?_
     rintro e wu ⟨rfl, ku⟩
     refine RT ?_
     by_cases hm : lx[j].p.doc ∈ s.docs
     ·rw [decide_eq_true hm]
      refine KGO ?_
      refine ⟨j + 1, FR, ⟨hKv.drew.trans0 ku, OM, fun x hx => ?_⟩, DO⟩
      rw [yad hjt, yaj, yac] at hx
      rcases hx with hx | rfl
      ·exact hin x hx
      exact hm
     rw [decide_eq_false hm]
     have hfail : rightS s = false := hno (by
      rw [hall]
      cases hz : pl.all fun x => decide (x.doc ∈ s.docs) with
      | false => rfl
      | true =>
       rw [yaF] at hz
       have := hz lx[j].p (by rw [← hlx]; exact yay.2 ⟨_, yak hjt, rfl⟩)
       exact absurd (of_decide_eq_true this) hm)
     refine KGO ?_
     exact ⟨ret_bool hfail.symm, K6.trans0 (((kd8).trans0 hKv.drew).trans0 ku)⟩
    rw [yaz OM] at hin
    have hq2 : zax s.docs s.terms[k + 1] = true := by
     rw [hall, yaF]
     intro x hx
     rw [← hlx] at hx
     obtain ⟨y, hy, rfl⟩ := yay.1 hx
     exact decide_eq_true (hin y hy)
    refine KGO ?_
    exact ⟨k + 1 + 1, FR, ⟨(hK.trans0 (k_w2.trans0 k26)).trans0 ((kd8).trans0 hKv), OM, fun t ht => by
     rw [yad hlt, yaj, yac] at ht
     rcases ht with ht | rfl
     ·exact hok' t ht
     exact hq2, fun j hj h => hcons' j hj OM⟩, DO⟩
  | false =>
   have hfail : rightS s = false := by
    cases hq : rightS s with
    | false => rfl
    | true =>
     have := (yaH.1 (zah.1 hq).2.2) k (k + 1) hkl hlt OM
     rw [hc] at this; cases this
   clear hokt hno hok hrc
   refine KGO ?_
   exact ⟨ret_bool hfail.symm, K6.trans0 kd8⟩
end
end Go.Proofs.YtennokckmjcefaaGreatDoor
