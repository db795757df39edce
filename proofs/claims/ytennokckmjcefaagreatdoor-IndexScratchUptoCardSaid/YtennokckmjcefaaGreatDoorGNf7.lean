/- Helper lemmas that the proved statement rests on; no conditions of their own. -/
import Derived.Test.YtennokckmjcefaaGreatDoorGNf2
set_option linter.unusedVariables false
set_option maxHeartbeats 8000000
set_option maxRecDepth 100000
namespace Go.Proofs.YtennokckmjcefaaGreatDoor
open Go.Shelf Go.RowKit Go.Pw Go.Vc Go.Cs Go.Lib Go.Cd Go.Mg
theorem zoH (x : Ix) (i n : Nat) (s : Sgm) (h : s.docs.length ≤ docN ((x.segs.drop i).take n)) : docN (replX x i n s).segs ≤ docN x.segs := by
 have e : x.segs = x.segs.take i ++ ((x.segs.drop i).take n ++ x.segs.drop (i + n)) := by
  rw [show x.segs.drop (i + n) = (x.segs.drop i).drop n from by rw [List.drop_drop], List.take_append_drop, List.take_append_drop]
 have h1 := zfA (x.segs.take i ++ s :: x.segs.drop (i + n))
 have h2 : docN x.segs = docN (x.segs.take i) + (docN ((x.segs.drop i).take n) + docN (x.segs.drop (i + n))) := by rw [← zcc, ← zcc, ← e]
 rw [zcc, zaZ] at h1
 show docN (fullL (x.segs.take i ++ s :: x.segs.drop (i + n))) ≤ _
 omega
theorem znV {x : Ix} (hx : IxOk x) (doc : Int) : docN (readX x doc).segs ≤ docN x.segs := by
 unfold readX
 split
 ·rename_i i h
  obtain ⟨hi, _⟩ := zcu h
  refine zoH x i 1 _ ?_
  have h := zmC (hx.rt _ (List.getElem_mem hi)) zcX [doc]
  rw [zbv hi]
  have e : (x.segs.drop i).take 1 = [x.segs[i]] := by rw [List.drop_eq_getElem_cons hi]; rfl
  rw [e, zaZ]
  simp only [List.length_nil] at h
  omega
 ·exact Nat.le_refl _
theorem zmN {p : Ix × List LDoc} (h : RunOk p) (a : Am) (hL : wA a ≤ 1500) : docN (runS p a.ak).1.segs ≤ docN p.1.segs + 1 := by
 unfold runS
 split
 ·show docN (addX p.1 a.doc a.tx).2.segs ≤ _
  unfold addX
  split
  ·exact Nat.le_add_right _ _
  ·rename_i hr
   split
   ·exact Nat.le_add_right _ _
   ·have h1 := znV h.ok a.doc
    have hs : lenX a.tx ≤ wA a := by rw [zcE]; unfold wA; omega
    have h2 := (zgh (d := a.doc) (tx := a.tx) (by omega) (by omega) fun t ht => by have := zcP (tx := a.tx) rfl t ht; omega).2
    dsimp only
    rw [zcc, zaZ, h2]
    have h4 : docN [] = 0 := rfl
    simp only [List.length_singleton]
    omega
 ·split
  ·show docN (dropX p.1 a.doc).2.segs ≤ _
   unfold dropX
   split <;> exact Nat.le_add_right _ _
  ·show docN (stepX p.1).2.segs ≤ _
   cases hs : (stepX p.1).1 with
   | false => rw [znq hs]; exact Nat.le_add_right _ _
   | true => have := (znx h.ok hs).2; omega
theorem zon {lx : List (Sl × Am)} (hw : wAs (lx.map (·.2)) ≤ 1500) : ∀ i, i ≤ lx.length → docN (runA lx i).1.segs ≤ i := by
 intro i
 induction i with
 | zero => intro _; exact Nat.le_refl 0
 | succ i ih =>
  intro hi
  have h1 := zec (l := lx.map (·.2)) (i := i) (by rw [List.length_map]; omega)
  rw [List.getElem_map] at h1
  have h2 := zeF (lx.map (·.2)) (i + 1)
  have h3 := ih (by omega)
  have h4 := zmN (zjm hw i (by omega)) lx[i].2 (by omega)
  rw [zdd (by omega)]
  omega
section
end
section
variable {w : World}
theorem zhA {va : Value} (la : List Int) (n : Int) (ha : RowI w va la) (hl : la.length ≤ 100000000) :
  Calls Tryz.prog 20 #[va, .int .i64 n] w fun e w' => e = .returned (.bool (decide (n ∈ la))) ∧ Kp w w' n_ := by
 obtain ⟨a, ca, rfl, hra⟩ := ha
 refine zaa (args := [.slice a la.length ca, .int .i64 n]) Tryz.func20 rfl NL ?_; refine GW ?_
 refine Loop.intro (ι := Nat) (fun i => [(0, .slice a la.length ca), (1, .int .i64 n), (5, .int .i64 (i : Nat))])
  (fun i wr => Kp w wr n_ ∧ i ≤ la.length ∧ n ∉ la.take i) (fun i => la.length - i) 0 ⟨rfl, rfl, rfl, trivial⟩ ⟨Kp.refl _ _, Nat.zero_le _, by simp⟩ ?_
 rintro i gg wr ⟨hK, hi, ht⟩
 refine GW ?_
 by_cases hlt : i < la.length
 ·obtain ⟨ga, oa, rfl, hga, hata⟩ := hra (by omega)
  have ca := zaY hata hlt
  by_cases he : la[i] = n
  ·refine KGO ?_
   exact ⟨zal (decide_eq_true (he ▸ List.getElem_mem hlt)).symm, hK⟩
  ·refine KGO ?_
   exact ⟨i + 1, ⟨rfl, rfl, v_int (by simp), trivial⟩, ⟨hK, by omega, by
    rw [List.take_succ_eq_append_getElem hlt, List.mem_append, List.mem_singleton]
    exact fun q => q.elim ht fun q => he q.symm⟩, by dsimp only; omega⟩
 ·refine KGO ?_
  rw [List.take_of_length_le (by omega)] at ht
  exact ⟨zal (decide_eq_false ht).symm, hK⟩
end
theorem znW {p : Ix × List LDoc} (a : Am) : (runS p a.ak).2.length ≤ p.2.length + 1 ∧ ∀ e ∈ (runS p a.ak).2, e ∈ p.2 ∨ e = a.ld := by
 unfold runS
 split
 ·dsimp only
  split
  ·exact ⟨by rw [List.length_append]; exact Nat.le_refl _, fun e he => (List.mem_append.1 he).imp id fun h => List.mem_singleton.1 h⟩
  ·exact ⟨by omega, fun e he => .inl he⟩
 split
 ·dsimp only
  split
  ·exact ⟨Nat.le_trans (List.length_filter_le _ _) (by omega), fun e he => .inl (List.mem_filter.1 he).1⟩
  ·exact ⟨by omega, fun e he => .inl he⟩
 ·exact ⟨by dsimp only; omega, fun e he => .inl he⟩
theorem znJ (lx : List (Sl × Am)) : ∀ i, i ≤ lx.length → (runA lx i).2.length ≤ i ∧ ∀ e ∈ (runA lx i).2, ∃ p ∈ lx, e = p.2.ld := by
 intro i
 induction i with
 | zero => exact fun _ => ⟨Nat.le_refl _, fun e he => by cases he⟩
 | succ i ih =>
  intro hi
  obtain ⟨h1, h2⟩ := ih (by omega)
  rw [zdd (by omega)]
  obtain ⟨h3, h4⟩ := znW (p := runA lx i) (lx[i]'(by omega)).2
  refine ⟨by omega, fun e he => ?_⟩
  rcases h4 e he with h | h
  ·exact h2 e h
  ·exact ⟨_, List.getElem_mem _, h⟩
def entsM (L : List Am) : List Ent := L.flatMap fun a => entsX a.doc a.tx
theorem ziE (L : List Am) : (entsM L).length = 5 * L.length := by
 unfold entsM
 induction L with
 | nil => rfl
 | cons a L ih => rw [List.flatMap_cons, List.length_append, ih, List.length_cons, show (entsX a.doc a.tx).length = 5 from rfl]; omega
theorem zhd (L : List Am) : entsM L = entsL (L.map Am.ld) := by
 unfold entsM entsL
 rw [List.flatMap_map]; rfl
section
variable {w : World}
theorem zmk {v : Value} (L : List Am) (hr : RowO w v dcC L) (hl : L.length ≤ 100) (htx : ∀ a ∈ L, lenX a.tx ≤ 1500) (hE : CEnv w) :
  Calls Tryz.prog 42 #[v] w fun e w' => ∃ h' s, e = .returned (.agg (sgC h').toArray) ∧ OwS w' w.heap.size h' s ∧ Built s (keptE (entsL (L.map Am.ld))) ∧ Kp w w' n_ := by
 obtain ⟨a, c, rfl, hra⟩ := hr
 refine zaa (args := [.slice a L.length c]) Tryz.func42 rfl NL ?_; refine GW ?_
 have vs := VarK.new w 65 [.slice none 0 0, .slice none 0 0]
 have ks : Kp w (w.alloc (.cells (List.toArray [.slice none 0 0, .slice none 0 0]) 65)) n_ := (Kp.refl _ _).alloc _
 have zs : (w.alloc (.cells (List.toArray [.slice none 0 0, .slice none 0 0]) 65)).heap.size = w.heap.size + 1 := by simp
 generalize w.alloc (.cells (List.toArray [.slice none 0 0, .slice none 0 0]) 65) = w0 at *
 obtain ⟨sb, hsb⟩ : ∃ sb, w.heap.size = sb := ⟨_, rfl⟩
 rw [hsb] at vs zs ⊢
 refine KGO ?_
 refine Loop.intro (ι := Nat × Sl) (fun q => [(0, .slice a L.length c), (2, .pointer (some ⟨sb, 0, none⟩)), (3, .slice q.2.a q.2.n q.2.c), (4, .int .i64 (q.1 : Nat))])
  (fun q wr => Kp w0 wr n_ ∧ q.1 ≤ L.length ∧ OwnR 111 enC 3 wr w0.heap.size q.2.v (entsM (L.take q.1))) (fun q => L.length - q.1) (0, ⟨none, 0, 0⟩) ⟨rfl, rfl, rfl, rfl, trivial⟩ ⟨Kp.refl _ _, Nat.zero_le _, World.ownsRow_nil _ _ _ _⟩ ?_
 rintro ⟨i, so⟩ gg wr ⟨hK, hi, ho⟩
 dsimp only at hi ho ⊢
 have hel := ziE (L.take i)
 rw [List.length_take, Nat.min_eq_left hi] at hel
 obtain ⟨aj, cj, ej⟩ := zab ho
 obtain ⟨ja, jn, jc⟩ := so
 injection ej with e1 e2 e3
 dsimp only at e1 e2 e3
 subst e1 e2 e3
 have zr := hK.size
 refine GW ?_
 by_cases hlt : i < L.length
 ·obtain ⟨gb, o, rfl, hgb, hat⟩ := hra (by omega)
  have hat := zai hat ks
  have hts : entsM (L.take (i + 1)) = entsM (L.take i) ++ entsX L[i].doc L[i].tx := by unfold entsM; rw [List.take_succ_eq_append_getElem hlt, List.flatMap_append]; simp
  have hlx := htx L[i] (List.getElem_mem hlt)
  generalize entsM (L.take i) = F at *
  refine KGO ?_
  refine Loop.intro (ι := Nat × Sl) (fun q => [(0, .slice (some ⟨gb, o, none⟩) L.length c), (2, .pointer (some ⟨sb, 0, none⟩)), (3, .slice q.2.a q.2.n q.2.c), (4, .int .i64 (i : Nat)), (5, .int .i64 ((q.1 + 1 : Nat) : Int))])
   (fun q wk => Kp w0 wk n_ ∧ q.1 ≤ 5 ∧ OwnR 111 enC 3 wk w0.heap.size q.2.v (F ++ (entsX L[i].doc L[i].tx).take q.1)) (fun q => 5 - q.1) (0, ⟨ja, F.length, jc⟩) ⟨rfl, rfl, rfl, rfl, rfl, trivial⟩ ⟨hK, Nat.zero_le _, by rw [List.take_zero, List.append_nil]; exact ho⟩ ?_
  rintro ⟨f, so⟩ gf wk ⟨hKf, hf, hof⟩
  dsimp only at hf hof ⊢
  have hle : ((entsX L[i].doc L[i].tx).take f).length ≤ 5 := by rw [List.length_take]; exact Nat.min_le_right _ _
  have hal : (F ++ (entsX L[i].doc L[i].tx).take f).length ≤ 600 := by rw [List.length_append]; omega
  obtain ⟨ak, ck, ek⟩ := zab hof
  obtain ⟨ra, rn, rc⟩ := so
  injection ek with e1 e2 e3
  dsimp only at e1 e2 e3
  subst e1 e2 e3
  have zk := hKf.size
  refine GW ?_
  by_cases hft : f < 5
  ·have hst : (F ++ (entsX L[i].doc L[i].tx).take (f + 1)) = (F ++ (entsX L[i].doc L[i].tx).take f) ++ [⟨L[i].doc, ((f + 1 : Nat) : Int), L[i].tx.getD (f + 1) []⟩] := by
    rw [List.append_assoc]
    congr 1
    exact ziP L[i].doc L[i].t0 L[i].t1 L[i].t2 L[i].t3 L[i].t4 L[i].t5 (f + 1) (by omega) (by omega)
   have hatk := zai hat hKf
   have ct : wk.cell? ⟨gb, o + i * 7 + 1 + (f + 1), none⟩ = some (.string (str (L[i].tx.getD (f + 1) []))) := by
    have := zdk hatk lenDc hlt (1 + (f + 1)) (.string (str (L[i].tx.getD (f + 1) []))) (by
     match f, hft with
     | 0, _ => rfl
     | 1, _ => rfl
     | 2, _ => rfl
     | 3, _ => rfl
     | 4, _ => rfl)
    rwa [← Nat.add_assoc] at this
   have qk := Kp.refl wk n_
   generalize (F ++ (entsX L[i].doc L[i].tx).take f) = G at *
   refine KGO ?_
   refine RunV.of (zld ⟨L[i].doc, ((f + 1 : Nat) : Int), L[i].tx.getD (f + 1) []⟩ _) ?_
   refine KGO ?_
   refine RunV.of (bs1En ⟨L[i].doc, ((f + 1 : Nat) : Int), L[i].tx.getD (f + 1) []⟩ _) ?_
   obtain ⟨a_b7, v_b7, k_w5, z_w5, r_w5⟩ := new5 wk.drew 111 (enC ⟨L[i].doc, ((f + 1 : Nat) : Int), L[i].tx.getD (f + 1) []⟩)
   generalize wk.drew.alloc (.cells (List.toArray (enC ⟨L[i].doc, ((f + 1 : Nat) : Int), L[i].tx.getD (f + 1) []⟩)) 111) = w5 at *
   generalize hs_b7 : wk.drew.heap.size = b7 at *
   have kd := (Kp.refl wk n_).drew
   have ho5 := zac (zac hof kd) k_w5
   have K5 := (hKf.trans0 kd).trans0 k_w5
   have z5 := K5.size
   refine KGO ?_
   refine tyEn.app1 ⟨L[i].doc, ((f + 1 : Nat) : Int), L[i].tx.getD (f + 1) []⟩ ho5 (by omega) a_b7 (by omega) (by omega) fun v6 w6 o6 k6 => ?_
   have K6 := zaE ho5 k6 K5 (Nat.le_refl _)
   obtain ⟨a6, c6, rfl⟩ := zab o6
   refine KGO ?_
   exact ⟨(f + 1, ⟨a6, _, c6⟩), ⟨rfl, rfl, rfl, rfl, v_int (by simp), trivial⟩, ⟨K6, by dsimp only; omega, by dsimp only; rw [hst]; exact o6⟩, by dsimp only; omega⟩
  obtain rfl : f = 5 := by omega
  rw [show (entsX L[i].doc L[i].tx).take 5 = entsX L[i].doc L[i].tx from rfl, ← hts] at hof ⊢
  refine KGO ?_
  exact ⟨(i + 1, ⟨ra, _, rc⟩), ⟨rfl, rfl, rfl, v_int (by simp), trivial⟩, ⟨hKf, by dsimp only; omega, hof⟩, by dsimp only; omega⟩
 obtain rfl : i = L.length := by omega
 rw [List.take_length, zhd] at *
 have hen : ∀ e ∈ entsL (L.map Am.ld), e.text.length ≤ 10000 := fun e he => by
  rw [← zhd] at he
  unfold entsM at he
  obtain ⟨y, hy, h1⟩ := List.mem_flatMap.1 he
  have h2 := zcP (tx := y.tx) rfl
  have h3 := htx y hy
  exact Nat.le_trans (zhr (L := 1500) (fun t ht => Nat.le_trans (h2 t ht) h3) e h1) (by omega)
 have vr := vs.keep0 hK
 generalize entsL (L.map Am.ld) = ES at *
 refine KGO ?_
 refine CallS.of (Tryz.call85 _ _) (zlf (w := wr) ES (zao ho) ((hE.keep ks).keep hK) (by omega) hen) ?_
 rintro e w5 ⟨h', s, rfl, oy, hbu, k5⟩
 have vr5 := vr.keep0 k5
 refine RT ?_
 refine KGO ?_
 refine Store.varK (P := Tryz.prog) (t := 65) (sgC h') vr5 (by rfl) rfl (zar (by rfl)) fun w7 v7 k7 => ?_
 have a7 := v7.at
 have q7 := Kp.refl w7 n_
 refine KGO ?_
 refine GW ?_
 have nd : ∀ q, q < w5.heap.size → one_ sb q → notD DS w5 q := zaj vr5 (by decide)
 exact ⟨h', s, rfl, (oy.keepT k7 nd).base (by have := hK.size; omega), hbu, (((ks.trans0 hK).trans0 k5)).trans k7 fun q hq e => by have e : q = sb := e; omega⟩
end
def phAt (W ws : List (List UInt8)) (p : Nat) : Prop := ∀ (i : Nat) (h : i < ws.length), W[p + i]? = some ws[i]
theorem zpe {W ws : List (List UInt8)} {p : Nat} (h0 : ws ≠ []) (h : phAt W ws p) : p + ws.length ≤ W.length := by
 have hl : 0 < ws.length := List.length_pos_iff.2 h0
 have h1 := h (ws.length - 1) (by omega)
 obtain ⟨h2, _⟩ := List.getElem?_eq_some_iff.1 h1
 omega
section
variable {w : World}
theorem zjH {vw : Value} (am : Am) (field : Int) (ws : List (List UInt8)) (hws : RowO w vw txC ws) (hwl : ws.length ≤ 100000) (htx : lenX am.tx ≤ 1500) (hE : CEnv w) :
  Calls Tryz.prog 45 #[.agg (dcC am).toArray, .int .i64 field, vw] w fun e w' => ∃ b, e = .returned (.bool b) ∧ (b = true ↔ ws ≠ [] ∧ hasPh am.tx field ws) ∧ Kp w w' n_ := by
 obtain ⟨wa, wc, rfl, hwr⟩ := hws
 refine zaa (args := [.agg (dcC am).toArray, .int .i64 field, .slice wa ws.length wc]) Tryz.func45 rfl NL ?_; refine GW ?_
 obtain ⟨a_b3, v_b3, k_w1, z_w1, r_w1⟩ := new5 w 69 (dcC am)
 generalize w.alloc (.cells (List.toArray (dcC am)) 69) = w1 at *
 generalize hs_b3 : w.heap.size = b3 at *
 have ht1 : At w1 b3 (0 + 1) (am.tx.flatMap txC) := fun j u hj => by
  have := a_b3 (j + 1) u hj
  rwa [show 0 + (j + 1) = 0 + 1 + j by omega] at this
 have E1 := hE.keep k_w1
 clear a_b3
 refine KGO ?_
 refine Loop.intro (ι := Nat) (fun i => [(1, .int .i64 field), (2, .slice wa ws.length wc), (3, .pointer (some ⟨b3, 0, none⟩)), (7, .int .i64 ((i + 1 : Nat) : Int))])
  (fun i wr => Kp w1 wr n_ ∧ i ≤ 5 ∧ ∀ g : Nat, 1 ≤ g → g ≤ i → (field = 0 ∨ (g : Int) = field) → ws ≠ [] → ∀ p, ¬ phAt (wordsOf (am.tx.getD g [])) ws p) (fun i => 5 - i) 0 ⟨rfl, rfl, rfl, rfl, trivial⟩ ⟨Kp.refl _ _, Nat.zero_le _, fun g h1 h2 => by omega⟩ ?_
 rintro i gi wr ⟨hK, hi, hno⟩
 refine GW ?_
 by_cases hft : i < 5
 rotate_left
 ·obtain rfl : i = 5 := by omega
  refine KGO ?_
  refine ⟨false, rfl, ⟨fun h => (by cases h), fun ⟨h0, f, h1, h2, p, hp⟩ => ?_⟩, k_w1.trans0 hK⟩
  refine absurd hp (hno f.toNat (by omega) (by omega) ?_ h0 p)
  rw [Int.toNat_of_nonneg (by omega)]; exact h2
 by_cases hff : field = 0 ∨ ((i + 1 : Nat) : Int) = field
 rotate_left
 ·have hf0 : ¬ field = 0 := fun e => hff (.inl e)
  have hf1 : ¬ field = ((i + 1 : Nat) : Int) := fun e => hff (.inr e.symm)
  refine KGO ?_
  exact ⟨i + 1, ⟨rfl, rfl, rfl, v_int (by simp), trivial⟩, ⟨hK, by omega, fun g h1 h2 h3 => by
   by_cases h : g = i + 1
   ·rw [h] at h3; exact absurd h3 hff
   ·exact hno g h1 (by omega) h3⟩, by dsimp only; omega⟩
 have h6 : am.tx.length = 6 := rfl
 have ct : wr.cell? ⟨b3, 0 + 1 + (i + 1), none⟩ = some (.string (str (am.tx[i + 1]'(by omega)))) := ziT (zai ht1 hK) (by omega)
 have hgd : am.tx.getD (i + 1) [] = am.tx[i + 1]'(by omega) := by simp [List.getD, show i + 1 < am.tx.length by omega]
 have hz3 := zcP (tx := am.tx) rfl (am.tx[i + 1]'(by omega)) (List.getElem_mem _)
 have hhit : ∀ p, ws ≠ [] → phAt (wordsOf (am.tx[i + 1]'(by omega))) ws p → hasPh am.tx field ws := fun p h0 hp => ⟨((i + 1 : Nat) : Int), by omega, hff.imp id id, p, fun j hj => by rw [Int.toNat_natCast, hgd]; exact hp j hj⟩
 have hmiss : (ws ≠ [] → ∀ p, ¬ phAt (wordsOf (am.tx[i + 1]'(by omega))) ws p) → ∀ g : Nat, 1 ≤ g → g ≤ i + 1 → (field = 0 ∨ (g : Int) = field) → ws ≠ [] → ∀ p, ¬ phAt (wordsOf (am.tx.getD g [])) ws p := fun h g h1 h2 h3 => by
  by_cases h4 : g = i + 1
  ·rw [h4, hgd]; exact h
  ·exact hno g h1 (by omega) h3
 have hz2 : (str (am.tx[i + 1]'(by omega))).size = (am.tx[i + 1]'(by omega)).length := rfl
 generalize am.tx[i + 1]'(by omega) = T at *
 clear hno hgd
 by_cases hf0 : field = 0
 all_goals
  refine KGO ?_
  refine CallS.of (Tryz.call25 _ _) (zeP (w := wr) (str T) ((E1.keep hK).c) ((E1.keep hK).f) (by omega)) ?_
  rintro e w4 ⟨v4, rfl, o4, k4⟩
  rw [show listL (L (str T)) = wordsOf T from rfl] at o4
  have o4 := zhm o4
  have K4 := hK.trans0 k4
  have hwT := zbd T
  generalize wordsOf T = W at *
  obtain ⟨a4, c4, rfl⟩ := zab o4
  obtain ⟨a4', c4', e4, hr4⟩ := zao o4
  injection e4 with e41 _ e43
  subst e41; subst e43
  refine RT ?_
  refine KGO ?_
  refine Loop.intro (ι := Nat) (fun p => [(1, .int .i64 field), (2, .slice wa ws.length wc), (3, .pointer (some ⟨b3, 0, none⟩)), (7, .int .i64 ((i + 1 : Nat) : Int)), (8, .slice a4 W.length c4), (9, .int .i64 (p : Nat))])
   (fun p wk => Kp w4 wk n_ ∧ p ≤ W.length + 1 ∧ ∀ q, q < p → ¬ phAt W ws q) (fun p => W.length + 1 - p) 0 ⟨rfl, rfl, rfl, rfl, rfl, rfl, trivial⟩ ⟨Kp.refl _ _, Nat.zero_le _, fun q h => by omega⟩ ?_
  rintro p gp wk ⟨hKp, hp, hnp⟩
  refine GW ?_
  by_cases hc1 : p + ws.length ≤ W.length
  rotate_left
  ·refine KGO ?_
   exact ⟨i + 1, ⟨rfl, rfl, rfl, v_int (by simp), trivial⟩, ⟨K4.trans0 hKp, by omega, hmiss fun h0 q hq => by
    have h1 := zpe h0 hq
    exact hnp q (by omega) hq⟩, by dsimp only; omega⟩
  by_cases hc2 : 0 < ws.length
  rotate_left
  ·refine KGO ?_
   exact ⟨i + 1, ⟨rfl, rfl, rfl, v_int (by simp), trivial⟩, ⟨K4.trans0 hKp, by omega, hmiss fun h0 => absurd (List.length_eq_zero_iff.1 (by omega)) h0⟩, by dsimp only; omega⟩
  have h0 : ws ≠ [] := List.length_pos_iff.1 hc2
  refine KGO ?_
  refine Loop.intro (ι := Nat × Bool) (fun q => [(1, .int .i64 field), (2, .slice wa ws.length wc), (3, .pointer (some ⟨b3, 0, none⟩)), (7, .int .i64 ((i + 1 : Nat) : Int)), (8, .slice a4 W.length c4), (9, .int .i64 (p : Nat)), (10, .bool q.2), (11, .int .i64 (q.1 : Nat))])
   (fun q wj => Kp wk wj n_ ∧ q.1 ≤ ws.length ∧ (q.2 = true ↔ ∀ (j : Nat) (h : j < ws.length), j < q.1 → W[p + j]? = some ws[j])) (fun q => ws.length - q.1) (0, true) ⟨rfl, rfl, rfl, rfl, rfl, rfl, rfl, rfl, trivial⟩ ⟨Kp.refl _ _, Nat.zero_le _, ⟨fun _ j _ h => by omega, fun _ => rfl⟩⟩ ?_
  rintro ⟨j, al⟩ gj wj ⟨hKj, hj, hal⟩
  dsimp only at hj hal ⊢
  refine GW ?_
  by_cases hjt : j < ws.length
  ·obtain ⟨g2, o2, rfl, hg2, hat2⟩ := hr4 (by omega)
   obtain ⟨g5, o5, rfl, hg5, hat5⟩ := hwr (by omega)
   have cj := ziT (zai hat2 (hKp.trans0 hKj)) (show p + j < W.length by omega)
   have cw := ziT (zai hat5 ((k_w1.trans0 K4).trans0 (hKp.trans0 hKj))) hjt
   have qj := Kp.refl wj n_
   have hWj : W[p + j]? = some (W[p + j]'(by omega)) := List.getElem?_eq_getElem _
   cases al with
   | true =>
    have hal := hal.1 rfl
    refine KGO ?_
    exact ⟨(j + 1, decide (W[p + j]'(by omega) = ws[j])), ⟨rfl, rfl, rfl, rfl, rfl, rfl, congrArg Value.bool (decide_eq_decide.2 zcD), v_int (by simp), trivial⟩, ⟨hKj.drew, by dsimp only; omega, by
     dsimp only
     rw [decide_eq_true_iff]
     constructor
     ·intro h k hk hkj
      by_cases h1 : k = j
      ·subst h1; rw [hWj, h]
      ·exact hal k hk (by omega)
     ·intro h
      have := h j hjt (by omega)
      rw [hWj] at this
      injection this⟩, by dsimp only; omega⟩
   | false =>
    refine KGO ?_
    exact ⟨(j + 1, false), ⟨rfl, rfl, rfl, rfl, rfl, rfl, rfl, v_int (by simp), trivial⟩, ⟨hKj.drew, by dsimp only; omega, by
     dsimp only
     exact ⟨fun h => (by cases h), fun h => hal.2 fun k hk hkj => h k hk (by omega)⟩⟩, by dsimp only; omega⟩
  obtain rfl : j = ws.length := by omega
  cases al with
  | true =>
   have hal := hal.1 rfl
   refine KGO ?_
   exact ⟨true, rfl, ⟨fun _ => ⟨h0, hhit p h0 fun k hk => hal k hk hk⟩, fun _ => rfl⟩, k_w1.trans0 (K4.trans0 (hKp.trans0 hKj))⟩
  | false =>
   refine KGO ?_
   exact ⟨p + 1, ⟨rfl, rfl, rfl, rfl, rfl, v_int (by simp), trivial⟩, ⟨hKp.trans0 hKj, by omega, fun q hq hpq => by
    by_cases h1 : q = p
    ·subst h1
     have := hal.2 fun k hk _ => hpq k hk
     cases this
    ·exact hnp q (by omega) hpq⟩, by dsimp only; omega⟩
end
theorem zrj {a : Am} : ∀ {l : List Am}, a ∈ l → wA a ≤ wAs l
 | x :: l, h => by
  rcases List.mem_cons.1 h with rfl | h
  ·unfold wAs; simp
  ·have := zrj h
   unfold wAs at *
   simp only [List.map_cons, List.sum_cons]
   omega
section
variable {w : World}
theorem ziG {v vw : Value} (lx : List (Sl × Am)) (field : Int) (word : List UInt8) (ws : List (List UInt8)) (hA : RowA w v lx) (hd : ∀ p ∈ lx, -9223372036854775808 ≤ p.2.doc ∧ p.2.doc ≤ 9223372036854775807) (hlx : lx.length ≤ 2000000) (hwt : wAs (lx.map (·.2)) ≤ 1000000000) (hws : RowO w vw txC ws) (hwc : CapK vw) (hwl : ws.length ≤ 2000000) (hwd : word.length ≤ 1000000000) (hE : CEnv w) :
  Calls Tryz.prog 7 #[v, .int .i64 field, .string (str word), vw] w fun e w' => e = .returned (.bool true) ∧ Kp w w' n_ := by
 have hD := znJ lx lx.length (Nat.le_refl _)
 obtain ⟨a, cap, rfl, hr0⟩ := hA.row
 have hws0 := hws
 obtain ⟨wa, wc, rfl, _⟩ := hws
 have hz : (str word).size = word.length := rfl
 refine zaa (args := [.slice a lx.length cap, .int .i64 field, .string (str word), .slice wa ws.length wc]) Tryz.func7 rfl NL ?_; refine GW ?_
 refine KGO ?_
 refine CallS.of (Tryz.call11 _ _) (zmj (w := w) hE) ?_
 rintro e w1 ⟨rfl, k1⟩
 refine RT ?_
 refine KGO ?_
 refine CallS.of (Tryz.call16 _ _) (zrd (w := w1)) ?_
 rintro e w2 ⟨rfl, hx, k2⟩
 obtain ⟨b, hb⟩ : ∃ b, w1.heap.size = b := ⟨_, rfl⟩
 rw [hb] at hx ⊢
 have K2 := k1.trans0 k2
 have hbw : w.heap.size ≤ b := by have := k1.size; omega
 refine RT ?_
 refine KGO ?_
 refine CallS.of (Tryz.call17 _ _) (zpY (w := w2) lx (hA.keep K2) (by omega) hwt) ?_
 rintro e w3 ⟨rfl, k3⟩
 have K3 := K2.trans0 k3
 have hx := hx.keep0 k3
 refine RT ?_
 by_cases hfw : lx.length ≤ 30 ∧ wAs (lx.map (·.2)) ≤ 1500
 rotate_left
 ·rw [decide_eq_false hfw]
  refine KGO ?_
  exact ⟨rfl, K3⟩
 rw [decide_eq_true hfw]
 obtain ⟨h30, h1500⟩ := hfw
 by_cases h100 : 100 < word.length
 ·refine KGO ?_
  exact ⟨rfl, K3⟩
 by_cases hw10 : 10 < ws.length
 ·refine KGO ?_
  exact ⟨rfl, K3⟩
 have B3 : Bs w w3 b ⟨none, 0, 0⟩ ⟨none, 0, 0⟩ [] := ⟨K3, fun q e => by have := hx.fp_ge q e; omega, hE⟩
 have hAk : ∀ u, Kp w3 u (fpX b ⟨none, 0, 0⟩ ⟨none, 0, 0⟩ []) → RowA u (.slice a lx.length cap) lx := fun u hu => hA.keep (K3.trans hu fun q hq e => by have := B3.lo q e; omega)
 clear k1 k2 k3 K2
 refine KGO ?_
 refine CallS.of (Tryz.call18 _ _) (zpo (w := w3) lx hx B3 hAk hd h30 h1500) ?_
 rintro e w4 ⟨v4, LV, sv4, dv4, l4, rfl, oL, hLV, h4, M4⟩
 have B4 := B3.mut M4
 have hI4 := zoj h1500 lx.length (Nat.le_refl _)
 have hR4 := zjm h1500 lx.length (Nat.le_refl _)
 have hN4 := zon h1500 lx.length (Nat.le_refl _)
 have hwf := zeF (lx.map (·.2)) lx.length
 rw [← zkT] at hLV h4
 generalize runA lx lx.length = p0 at *
 obtain ⟨x0, DL⟩ := p0
 dsimp only at hLV h4 hI4 hN4
 have hI : Iw x0 150 16000 15000 := hI4.mono (by omega) (by omega) (by omega)
 obtain ⟨aL, cL, rfl⟩ := zab oL
 clear hI4 hx B3 M4 K3 hAk hwf
 refine RT ?_
 refine KGO ?_
 obtain ⟨hD1, hD2⟩ := hD
 dsimp only at hD1 hD2
 have hLl : LV.length ≤ 30 := by have := congrArg List.length hLV; rw [List.length_map] at this; omega
 have htL : ∀ a ∈ LV, lenX a.tx ≤ 1500 := fun a ha => by
  have h1 : a.ld ∈ DL := by rw [← hLV]; exact List.mem_map_of_mem ha
  obtain ⟨p, hp, h2⟩ := hD2 _ h1
  have h3 : a.tx = p.2.tx := congrArg Prod.snd h2
  have h4 : wA p.2 ≤ wAs (lx.map (·.2)) := zrj (List.mem_map_of_mem (f := (·.2)) hp)
  rw [h3, zcE]
  unfold wA at h4
  omega
 have hne := ziE LV
 rw [zhd, hLV] at hne
 have hte : ∀ e ∈ entsL DL, 2 * e.text.length + 1 ≤ 3001 := fun e he => by
  rw [← hLV, ← zhd] at he
  unfold entsM at he
  obtain ⟨y, hy, h1⟩ := List.mem_flatMap.1 he
  have h2 := zcP (tx := y.tx) rfl
  have h3 := htL y hy
  have := zhr (L := 1500) (fun t ht => Nat.le_trans (h2 t ht) h3) e h1
  omega
 refine CallS.of (Tryz.call42 _ _) (zmk (w := w4) LV (zao oL) (by omega) htL B4.env) ?_
 rintro e w5 ⟨h', s, rfl, os, hbu, k5⟩
 rw [hLV] at hbu
 obtain ⟨hsd, hsl⟩ := zjl hR4 hbu
 have hkE := zgz hR4
 dsimp only at hsd hsl hkE
 rw [zic hkE] at hbu
 have hbd : Bd s 1000000 1000000 900000 := (zky hbu hkE (n := 150) (m := 3001) (by omega) hte).mono (by omega) (by omega) (by omega)
 have h5 := h4.keep0 k5
 have B5 := B4.keep k5
 have oL5 := zac oL k5
 have lx0 := fun f q => ziN hI.ok hI.wt f q
 have hpl0 := zlS hI.ok hI.wt field ws
 have hdl0 := (zlv hI.ok hI.wt).2.2.2
 clear h4 B4 oL hte hne k5 hD1 hD2
 refine RT ?_
 refine KGO ?_
 have v_b12 := VarK.new w5 65 (sgC h')
 refine Store.fresh (vs := sgC h') (by rfl) rfl (zar (by rfl)) ?_
 obtain ⟨a_b12, k_w6, z_w6⟩ := new3 w5 65 (sgC h')
 generalize w5.alloc (.cells (List.toArray (sgC h')) 65) = w6 at *
 generalize hs_b12 : w5.heap.size = b12 at *
 have h6 := h5.keep0 k_w6
 have B6 := B5.keep k_w6
 have oL6 := zac oL5 k_w6
 have os6 := os.keep k_w6
 have c12 := v_b12.at
 have d12 : ∀ u, Kp w6 u n_ → u.cell? ⟨b12, 0 + 1, none⟩ = some (.slice h'.d.a h'.d.n h'.d.c) := fun u hu => zay (c12 1 _ rfl) hu
 have s12 : ∀ u, Kp w6 u n_ → At u b12 0 (sgC h') := fun u hu => zai c12 hu
 clear h5 B5 oL5 os a_b12
 refine KGO ?_
 refine Draw.held (fun u => Kp w6 u n_) (fun _ => true) (by decide +kernel) (Kp.refl w6 n_).drew ?_
 refine KGO ?_
 have J6 := (Kp.refl w6 n_).drew
 have h7 := h6.keep0 J6
 have B7 := B6.keep J6
 generalize w6.drew = w7 at *
 refine CallS.of (Tryz.call19 _ _) (zhi (w := w7) h7 (hI.b (by omega) (by omega)) B7.env field word) ?_
 rintro e w8 ⟨v8, rfl, o8, k8⟩
 have J8 := J6.trans0 k8
 have h8 := h7.keep0 k8
 have B8 := B7.keep k8
 obtain ⟨a8, c8, rfl⟩ := o8.shape
 refine RT ?_
 refine ⟨J8, ?_⟩
 refine KGO ?_
 refine CallS.of (Tryz.call43 _ _) (zoR (w := w8) h' s field word ((os6.keep J8).rd) hbd B8.env) ?_
 rintro e w9 ⟨v9, rfl, o9, k9⟩
 have o9 : OwnP w9 w8.heap.size v9 (lookX x0 field (eqW word)) := by rw [hsl]; exact o9
 have J9 := J8.trans0 k9
 obtain ⟨a9, c9, rfl⟩ := o9.shape
 refine RT ?_
 refine ⟨J9, ?_⟩
 refine KGO ?_
 obtain ⟨q1, q2⟩ := lx0 field (eqW word)
 refine CallS.of (Tryz.call23 _ _) (ziW (w := w9) (lookX x0 field (eqW word)) (lookX x0 field (eqW word)) (o8.keep k9).row o9.row (by omega) (by omega) (fun p hp => by have := q2 p hp; omega) (fun p hp => by have := q2 p hp; omega)) ?_
 rintro e w10 ⟨rfl, k10⟩
 rw [decide_eq_true rfl]
 have J10 := J9.trans0 k10
 have h10 := (h8.keep0 k9).keep0 k10
 have B10 := (B8.keep k9).keep k10
 clear h7 B7 h8 B8 o8 o9 k8 k9 k10 q1 q2
 refine RT ?_
 refine ⟨J10, ?_⟩
 refine KGO ?_
 refine CallS.of (Tryz.call34 _ _) (zoc (w := w10) h10 (hI.b (by omega) (by omega)) B10.env field word) ?_
 rintro e w11 ⟨v11, rfl, o11, k11⟩
 have J11 := J10.trans0 k11
 have h11 := h10.keep0 k11
 have B11 := B10.keep k11
 obtain ⟨a11, c11, rfl⟩ := o11.shape
 refine RT ?_
 refine ⟨J11, ?_⟩
 refine KGO ?_
 refine CallS.of (Tryz.call44 _ _) (ziq (w := w11) h' s field word ((os6.keep J11).rd) hbd B11.env) ?_
 rintro e w12 ⟨v12, rfl, o12, k12⟩
 have o12 : OwnP w12 w11.heap.size v12 (lookX x0 field (fun x => hasPrefix x word)) := by rw [hsl]; exact o12
 have J12 := J11.trans0 k12
 obtain ⟨a12, c12', rfl⟩ := o12.shape
 refine RT ?_
 refine ⟨J12, ?_⟩
 refine KGO ?_
 obtain ⟨q1, q2⟩ := lx0 field (fun x => hasPrefix x word)
 refine CallS.of (Tryz.call23 _ _) (ziW (w := w12) (lookX x0 field (fun x => hasPrefix x word)) (lookX x0 field (fun x => hasPrefix x word)) (o11.keep k12).row o12.row (by omega) (by omega) (fun p hp => by have := q2 p hp; omega) (fun p hp => by have := q2 p hp; omega)) ?_
 rintro e w13 ⟨rfl, k13⟩
 rw [decide_eq_true rfl]
 have J13 := J12.trans0 k13
 have h13 := (h11.keep0 k12).keep0 k13
 have B13 := (B11.keep k12).keep k13
 clear h10 B10 h11 B11 o11 o12 k11 k12 k13 q1 q2
 refine RT ?_
 refine ⟨J13, ?_⟩
 refine KGO ?_
 refine CallS.of (Tryz.call21 _ _) (zmT (w := w13) h13 (hI.b (by omega) (by omega))) ?_
 rintro e w14 ⟨v14, rfl, o14, k14⟩
 have J14 := J13.trans0 k14
 have h14 := h13.keep0 k14
 have B14 := B13.keep k14
 obtain ⟨a14, c14, rfl⟩ := zab o14
 refine RT ?_
 refine ⟨J14, ?_⟩
 refine KGO ?_
 have hod : RowI w14 (.slice h'.d.a h'.d.n h'.d.c) (docsX x0) := by rw [← hsd]; exact zao (os6.keep J14).d
 refine CallS.of (Tryz.call36 _ _) (zfr (w := w14) (docsX x0) (docsX x0) (zao o14) hod (by omega) (by omega)) ?_
 rintro e w15 ⟨rfl, k15⟩
 rw [decide_eq_true rfl]
 have J15 := J14.trans0 k15
 have h15 := h14.keep0 k15
 have B15 := B14.keep k15
 clear h13 B13 h14 B14 o14 hod k14 k15 J6 J8 J9 J10 J11 J12 J13 J14
 refine RT ?_
 refine ⟨J15, ?_⟩
 refine KGO ?_
 refine CallS.of (Tryz.call37 _ _) (zeh (w := w15) h15 (hI.b (by omega) (by omega)) B15.env (zeU hI (by omega)) field ws (hws0.keep B15.K) hwc (by omega)) ?_
 rintro e w16 ⟨v16, rfl, o16, k16⟩
 have J16 := J15.trans0 k16
 have B16 := B15.keep k16
 have hph : ∀ a ∈ LV, (a.doc ∈ phraseX x0 field ws ↔ ws ≠ [] ∧ hasPh a.tx field ws) := fun a ha => by
  by_cases h0 : ws = []
  ·subst h0
   exact ⟨fun h => (by rw [zfE [] x0 field] at h; cases h), fun h => absurd rfl h.1⟩
  ·have h1 : a.ld ∈ DL := by rw [← hLV]; exact List.mem_map_of_mem ha
   exact (zeC hR4 field h0 h1).trans ⟨fun h => ⟨h0, h⟩, fun h => h.2⟩
 have hpa := zdu x0 field ws
 have hpd : ∀ d ∈ phraseX x0 field ws, d ∈ docsX x0 := fun d h => zdv hI.ok h
 generalize phraseX x0 field ws = P at *
 obtain ⟨a16, c16, rfl⟩ := zab o16
 have rP : RowI w16 (.slice a16 P.length c16) P := zao o16
 obtain ⟨_, _, e1, hrL⟩ := zao (zac oL6 J16)
 injection e1 with e1 _ _
 subst e1
 have os16 := os6.keep J16
 have ht16 : At w16 b12 0 (sgC h') := s12 _ J16
 clear h6 B6 oL6 os6 h15 B15 o16 k16 s12 d12 c12 hbd hsl hbu hkE lx0
 refine RT ?_
 refine KGO ?_
 refine Loop.intro (ι := Nat) (fun i => [(1, .int .i64 field), (3, .slice wa ws.length wc), (9, .bool true), (11, .slice aL LV.length cL), (12, .pointer (some ⟨b12, 0, none⟩)), (13, .slice a16 P.length c16), (14, .int .i64 (i : Nat))])
  (fun i wr => Kp w16 wr n_ ∧ i ≤ LV.length) (fun i => LV.length - i) 0 ⟨rfl, rfl, rfl, rfl, rfl, rfl, rfl, trivial⟩ ⟨Kp.refl _ _, Nat.zero_le _⟩ ?_
 rintro i gi wr ⟨hK, hi⟩
 refine GW ?_
 by_cases hlt : i < LV.length
 ·obtain ⟨gb, o, rfl, hgb, hat⟩ := hrL (by omega)
  have hat := zai hat hK
  have hel := zdk hat lenDc hlt
  have cd0 : ∀ u, Kp wr u n_ → u.cell? ⟨gb, o + i * 7, none⟩ = some (.int .i64 LV[i].doc) := fun u hu => zay (hel 0 _ rfl) hu
  have hela : ∀ u, Kp wr u n_ → At u gb (o + i * 7) (dcC LV[i]) := fun u hu => zai hel hu
  have hp1 := hph LV[i] (List.getElem_mem hlt)
  have ht1 := htL LV[i] (List.getElem_mem hlt)
  have rPr := rP.keep hK
  have qr := Kp.refl wr n_
  refine KGO ?_
  refine Draw.held (fun u => Kp wr u n_) (fun _ => true) (by decide +kernel) qr.drew ?_
  refine KGO ?_
  have J0 := qr.drew
  generalize wr.drew = wd at *
  refine CallS.of (Tryz.call20 _ _) (zhA (w := wd) P LV[i].doc (rPr.keep J0) (by omega)) ?_
  rintro e w17 ⟨rfl, k17⟩
  have J17 := J0.trans0 k17
  refine RT ?_
  refine ⟨J17, ?_⟩
  refine KGO ?_
  refine CallS.of (Tryz.call45 _ _) (zjH (w := w17) LV[i] field ws (hws0.keep (((B16.K.trans0 hK)).trans0 J17)) (by omega) ht1 ((B16.env.keep hK).keep J17)) ?_
  rintro e w18 ⟨bb, rfl, hbb, k18⟩
  have J18 := J17.trans0 k18
  have hdb : decide (LV[i].doc ∈ P) = bb := by
   rw [Bool.eq_iff_iff, decide_eq_true_iff]
   exact hp1.trans hbb.symm
  rw [hdb]
  refine RT ?_
  refine ⟨J18, ?_⟩
  clear hbb hdb
  cases bb
  all_goals
   refine KGO ?_
   exact ⟨i + 1, ⟨rfl, rfl, rfl, rfl, rfl, rfl, v_int (by simp), trivial⟩, ⟨hK.trans0 J18, by omega⟩, by dsimp only; omega⟩
 clear hrL hph
 refine KGO ?_
 refine Loop.intro (ι := Nat) (fun i => [(9, .bool true), (12, .pointer (some ⟨b12, 0, none⟩)), (13, .slice a16 P.length c16), (15, .int .i64 (i : Nat))])
  (fun i wk => Kp wr wk n_ ∧ i ≤ P.length) (fun i => P.length - i) 0 ⟨rfl, rfl, rfl, rfl, trivial⟩ ⟨Kp.refl _ _, Nat.zero_le _⟩ ?_
 rintro k gk wk ⟨hKk, hk⟩
 obtain ⟨aP, cP, eP, hrP⟩ := rP
 injection eP with eP1 _ eP3
 subst eP1; subst eP3
 refine GW ?_
 by_cases hkt : k < P.length
 rotate_left
 ·refine KGO ?_
  exact ⟨rfl, (B16.K.trans0 hK).trans0 hKk⟩
 obtain ⟨gp, op, rfl, hgp, hatp⟩ := hrP (by omega)
 have K0 := hK.trans0 hKk
 have cp : ∀ u, Kp wk u n_ → u.cell? ⟨gp, op + k, none⟩ = some (.int .i64 P[k]) := fun u hu => zay (zaY hatp hkt) (K0.trans0 hu)
 have cs : ∀ u, Kp wk u n_ → u.cell? ⟨b12, 0 + 1, none⟩ = some (.slice h'.d.a h'.d.n h'.d.c) := fun u hu => zay (ht16 1 _ rfl) (K0.trans0 hu)
 have hdk := hpd P[k] (List.getElem_mem hkt)
 have hod : RowI wk (.slice h'.d.a h'.d.n h'.d.c) (docsX x0) := by rw [← hsd]; exact zao (os16.keep K0).d
 have qk := Kp.refl wk n_
 by_cases hk0 : 0 < k
 ·have hlt1 : P[k - 1]'(by omega) < P[k] := of_decide_eq_true (List.pairwise_iff_getElem.1 hpa (k - 1) k (by omega) hkt (by omega))
  have cp1 : ∀ u, Kp wk u n_ → u.cell? ⟨gp, op + ((k : Int) - 1).toNat, none⟩ = some (.int .i64 (P[k - 1]'(by omega))) := fun u hu => by rw [show ((k : Int) - 1).toNat = k - 1 by omega]; exact zay (zaY hatp (by omega)) (K0.trans0 hu)
  generalize P[k - 1]'(by omega) = pp at *
  refine KGO ?_
  have J0 := qk.drew
  have cpd := cp _ J0
  have cpd1 := cp1 _ J0
  generalize wk.drew = wd at *
  have qd := Kp.refl wd n_
  refine KGO ?_
  refine CallS.of (Tryz.call20 _ _) (zhA (w := wd) (docsX x0) P[k] (hod.keep J0) (by omega)) ?_
  rintro e w19 ⟨rfl, k19⟩
  rw [decide_eq_true hdk]
  have J19 := J0.trans0 k19
  have cpd := cp _ J19
  have cpd1 := cp1 _ J19
  have q19 := Kp.refl w19 n_
  refine RT ?_
  refine KGO ?_
  exact ⟨k + 1, ⟨rfl, rfl, rfl, v_int (by simp), trivial⟩, ⟨hKk.trans0 J19, by omega⟩, by dsimp only; omega⟩
 ·obtain rfl : k = 0 := by omega
  refine KGO ?_
  have J0 := qk.drew
  have cpd := cp _ J0
  generalize wk.drew = wd at *
  have qd := Kp.refl wd n_
  refine KGO ?_
  refine CallS.of (Tryz.call20 _ _) (zhA (w := wd) (docsX x0) P[0] (hod.keep J0) (by omega)) ?_
  rintro e w19 ⟨rfl, k19⟩
  rw [decide_eq_true hdk]
  have J19 := J0.trans0 k19
  have q19 := Kp.refl w19 n_
  refine RT ?_
  refine KGO ?_
  exact ⟨0 + 1, ⟨rfl, rfl, rfl, v_int (by simp), trivial⟩, ⟨hKk.trans0 J19, by omega⟩, by dsimp only; omega⟩
end
end Go.Proofs.YtennokckmjcefaaGreatDoor
namespace Go.Proofs.YtennokckmjcefaaGreatDoor
open Go.Shelf Go.RowKit Go.Pw Go.Vc Go.Cs Go.Lib Go.Mg
instance : Inhabited Ent := ⟨⟨0, 0, []⟩⟩
def slM : Value → Sl
 | .slice a n c => ⟨a, n, c⟩
 | _ => ⟨none, 0, 0⟩
theorem zqO {α : Type} {W : World} {v : Value} {c : α → List Value} {l : List α} (h : RowO W v c l) : v = (slM v).v := by
 obtain ⟨a, cap, rfl, _⟩ := h
 rfl
instance : Inhabited (Sv × Sgm) := ⟨(default, ⟨[], []⟩)⟩
section
end
end Go.Proofs.YtennokckmjcefaaGreatDoor
