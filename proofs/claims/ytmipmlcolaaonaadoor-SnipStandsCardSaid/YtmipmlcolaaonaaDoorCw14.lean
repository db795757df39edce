/- Helper text of this claim: Cw14: lemmas and contracts that the proved statement rests on; no conditions of its own. -/
import Derived.Test.YtmipmlcolaaonaaDoorCw9
import Derived.Test.YtmipmlcolaaonaaDoorGct
import Derived.Test.YtmipmlcolaaonaaDoorCh6
import Derived.Maps.AppendAt
import Derived.Test.YtmipmlcolaaonaaDoorWcz
-- alias Tryd
namespace Go.Proofs.YtmipmlcolaaonaaDoor
open Go.RowKit Go.Pw Go.Vc Go.Cs Go.Lib
set_option linter.unusedVariables false
set_option maxRecDepth 100000
theorem app_word_at {w : World} {K : Value → World → Prop} {B : Nat} {v : Value} {l : List Wd} {cs : Array Bool} (h : Wds w B v l) (hB : B ≤ w.heap.size) (x : Wd) (hl : l.length ≤ 1000000000)
    (k : ∀ v' w', Wds w' B v' (l ++ [x]) → (w.alloc (.cells (wordCells x).toArray 41)).grownBy w' v.ownBlock → (v'.ownBlock = v.ownBlock ∨ v'.ownBlock = some (w.heap.size + 1)) → K v' w') :
    RunN Tryd.prog (builtin .append #[34, 34] 34 cs [v, .slice (some ⟨w.heap.size, 0, none⟩) 1 1].toArray) (w.alloc (.cells (wordCells x).toArray 41)) K := by
  obtain ⟨i, hi, hi2⟩ := Option.map_eq_some_iff.1 wordInfo
  simp only [Prod.mk.injEq] at hi2
  obtain ⟨z1, z2, z3⟩ := hi2
  obtain ⟨v', w', h1, h2, h3, _, h5⟩ := run_append_own_at (P := Tryd.prog) (w.alloc (.cells (wordCells x).toArray 41)) B 34 34 41 i _ 3 32 Tryd.underlying34 hi z1 z2 z3 rfl (by decide) v l.length _ (own_keep0 h ((Keeps.refl _ _).alloc _)) ⟨w.heap.size, 0, none⟩ 1 1 (wordCells x) rfl (new_cells _ _ _) (by simp [wordCells, Value.oneCell']) (by rw [show maxLen = 9223372036854775807 from rfl]; omega) (by omega) (Nat.le_trans hB ((Keeps.refl w none_).alloc _).size)
  refine ⟨v', w', ?_, k v' w' ?_ h3 (by simpa using h5)⟩
  · show (do pure (Next.value (← Builtin.append_ #[34, 34] 34 #[v, .slice (some ⟨w.heap.size, 0, none⟩) 1 1])) : Sem Next).run Tryd.prog _ = _
    simp [h1]
  · unfold Wds
    rw [List.length_append, List.flatMap_append]
    simpa using h2
section
variable {w : World}
theorem words_le {s : ByteArray} {n : Nat} (h : s.size ≤ n) (hn : n ≤ 10000000) : (wordsL (L s)).length ≤ 100000000 := by
  have := wordsL_len (L s)
  have := L_len s
  omega
theorem nw_cell (w : World) (T : TypeId) (cs : List Value) (i : Nat) (v : Value) (h : cs[i]? = some v) : (w.alloc (.cells cs.toArray T)).cell? ⟨w.heap.size, 0 + i, none⟩ = some v := at_cells (heap_alloc_new w (.cells cs.toArray T)) i v h
theorem nw_frozen (w : World) (T : TypeId) (cs : Array Value) (i : Nat) : (w.alloc (.cells cs T)).frozen? ⟨w.heap.size, i, none⟩ = false := by
  unfold World.frozen?; dsimp only; rw [heap_alloc_new]; rfl
theorem wordFlat' (x : Wd) : ∀ v ∈ wordCells x, Flat v := by
  intro v hv
  simp only [wordCells, List.mem_cons, List.not_mem_nil, or_false] at hv
  rcases hv with rfl | rfl | rfl <;> trivial
set_option maxHeartbeats 4000000 in
theorem both_walk (a b : ByteArray) (r : Int) (hr : -9223372036854775808 ≤ r ∧ r ≤ 9223372036854775807) (hC : CutTab w) (hF : FoldTab w) (hT : Tabs w) : Calls Tryd.prog 13 #[.string a, .string b, .int .i64 r] w fun e w' => e = .returned (.bool true) ∧ Keeps w w' none_ := by
  refine calls_of_vc (args := [.string a, .string b, .int .i64 r]) Tryd.func13 rfl (Nat.le_of_ble_eq_true rfl) ?_; refine Sat.go hmix ?_; conv => whnf
  refine CallS.of (Tryd.call32 _ _) (law32_small hC hF) ?_
  rintro e w1 ⟨rfl, k1⟩
  refine ⟨_, rfl, ?_⟩; (first | refine Then.go hmix ?_ | refine Sat.go hmix ?_ | refine ResK.go ?_ | skip); conv => whnf
  refine GO ?_
  refine CallS.of (Tryd.call26 _ _) (cs_Rune r hr) ?_
  rintro e w1' ⟨rfl, rfl⟩
  refine ⟨_, rfl, ?_⟩; (first | refine Then.go hmix ?_ | refine Sat.go hmix ?_ | refine ResK.go ?_ | skip); conv => whnf
  have hel : (encodeRune r).length ≤ 4 := by
    have := runeCells_le r
    rw [runeCells_length] at this; exact this.2
  have hes : (str (encodeRune r)).size ≤ 4 := hel
  by_cases ha : 1000 < a.size
  · refine GO ?_
    exact ⟨rfl, k1⟩
  by_cases hb : 1000 < b.size
  · refine GO ?_
    exact ⟨rfl, k1⟩
  refine GO ?_
  refine CallS.of (Tryd.call33 _ _) (cut_Kind r (hC.keep k1)) ?_
  rintro e w2 ⟨rfl, k2⟩
  have K2 := k1.trans0 k2
  refine ⟨_, rfl, ?_⟩; (first | refine Then.go hmix ?_ | refine Sat.go hmix ?_ | refine ResK.go ?_ | skip); conv => whnf
  by_cases hk : kindI r = 0
  rotate_left
  · refine GO ?_
    exact ⟨rfl, K2⟩
  rw [hk]
  refine LGO ?_
  refine CallS.of (Tryd.call22 _ _) (cs_Runes (str (encodeRune r)) (hT.keep K2) (by omega)) ?_
  rintro e w3 ⟨v3, rfl, hR, k3⟩
  have K3 := K2.trans0 k3
  rw [L_str] at hR
  generalize hrs : runes (encodeRune r) = R at *
  obtain ⟨a3, c3, rfl⟩ : ∃ x c, v3 = .slice x R.length c := hR.shape
  refine ⟨_, rfl, ?_⟩; (first | refine Then.go hmix ?_ | refine Sat.go hmix ?_ | refine ResK.go ?_ | skip); conv => whnf
  by_cases h1 : R.length = 1
  rotate_left
  · refine GO ?_
    exact ⟨rfl, K3⟩
  refine LGO ?_
  refine CallS.of (Tryd.call22 _ _) (cs_Runes (str (encodeRune r)) (hT.keep K3) (by omega)) ?_
  rintro e w4 ⟨v4, rfl, hR4, k4⟩
  have K4 := K3.trans0 k4
  rw [L_str, hrs] at hR4
  obtain ⟨a4, c4, rfl⟩ : ∃ x c, v4 = .slice x R.length c := hR4.shape
  obtain ⟨g4, rfl, _, _, cc⟩ := rns_cell hR4 (i := 0) (by omega)
  refine ⟨_, rfl, ?_⟩; (first | refine Then.go hmix ?_ | refine Sat.go hmix ?_ | refine ResK.go ?_ | skip); conv => whnf
  refine LGO ?_
  by_cases he : ((R.getD 0 0 : Nat) : Int) = r
  rotate_left
  · refine LGO ?_
    exact ⟨rfl, K4⟩
  refine LGO ?_
  obtain ⟨c, hsc, hrc⟩ := runes_one r (by rw [hrs]; exact h1) (by rw [hrs]; exact he)
  have henc : encodeRune r = enc c := by rw [hrc]; rfl
  have hkc : kindN c = 0 := by rw [hrc] at hk; unfold kindI at hk; rw [if_neg (by omega)] at hk; exact hk
  rw [henc] at *
  have hlb := words_small (L b)
  have hboth := words_both (L a) (L b) c hsc hkc
  have hla := words_le (s := a) (n := 2000) (by omega) (by omega)
  have hlbl := words_le (s := b) (n := 2000) (by omega) (by omega)
  have hLa := L_len a
  have hLb := L_len b
  refine CallS.of (Tryd.call36 _ _) (cut_Words a (hC.keep K4) (hF.keep K4) (by omega)) ?_
  rintro e w5 ⟨vA, rfl, hA, k5⟩
  have K5 := K4.trans0 k5
  obtain ⟨aA, cA, rfl, _⟩ := own_rd hA
  refine ⟨_, rfl, ?_⟩; (first | refine Then.go hmix ?_ | refine Sat.go hmix ?_ | refine ResK.go ?_ | skip); conv => whnf
  refine LGO ?_
  refine CallS.of (Tryd.call36 _ _) (cut_Words b (hC.keep K5) (hF.keep K5) (by omega)) ?_
  rintro e w6 ⟨vB, rfl, hB, k6⟩
  have K6 := K5.trans0 k6
  obtain ⟨aB, cB, rfl, _⟩ := own_rd hB
  have hA6 : Wds w6 w4.heap.size (.slice aA (wordsL (L a)).length cA) (wordsL (L a)) := own_keep0 hA k6
  refine ⟨_, rfl, ?_⟩; (first | refine Then.go hmix ?_ | refine Sat.go hmix ?_ | refine ResK.go ?_ | skip); conv => whnf
  refine LGO ?_
  generalize hD : (L a).length + (enc c).length = D at *
  have hec := enc_len c
  have hbase : ∀ gB, aB = some ⟨gB, 0, none⟩ → 0 < (wordsL (L b)).length → w5.heap.size ≤ gB ∧ gB < w6.heap.size ∧ At w6 gB 0 ((wordsL (L b)).flatMap wordCells) := by
    intro gB hg h0
    obtain ⟨g', e, x1, x2, x3⟩ := own_at hB h0
    rw [hg] at e
    injection e with e
    injection e with e
    subst e
    exact ⟨x1, x2, x3⟩
  have hlt6 := hA.lt
  generalize hWA : wordsL (L a) = WA at *
  generalize hWB : wordsL (L b) = WB at *
  refine Loop.intro (ι := Nat × Option Addr × Nat × List Wd) (fun i => [(0, .string a), (1, .string b), (7, .bool true), (8, .string (str (enc c))), (9, .slice i.2.1 i.2.2.2.length i.2.2.1), (10, .slice aB WB.length cB), (11, .int .i64 (i.1 : Nat))])
    (fun i wr => Keeps w wr none_ ∧ i.1 ≤ WB.length ∧ i.2.2.2 = WA ++ (WB.take i.1).map (shiftW D) ∧ Wds wr w4.heap.size (.slice i.2.1 i.2.2.2.length i.2.2.1) i.2.2.2 ∧ w4.heap.size ≤ wr.heap.size ∧
      ∀ gB, aB = some ⟨gB, 0, none⟩ → 0 < WB.length → At wr gB 0 (WB.flatMap wordCells) ∧ gB < wr.heap.size ∧ (Value.slice i.2.1 i.2.2.2.length i.2.2.1).ownBlock ≠ some gB) (fun i => WB.length - i.1) (0, aA, cA, WA) ⟨rfl, rfl, rfl, rfl, rfl, rfl, rfl, trivial⟩
    ⟨K6, Nat.zero_le _, by simp, hA6, Nat.le_trans k5.size k6.size, fun gB hg h0 => by
      obtain ⟨x1, x2, x3⟩ := hbase gB hg h0
      exact ⟨x3, x2, fun e => by have := (hlt6 gB e).2; omega⟩⟩ ?_
  rintro ⟨j, va, vc, acc⟩ gg wr ⟨hK, hj, hacc, hW, hsz4, hRB⟩
  dsimp only at hj hacc hW hRB ⊢
  (first | refine Then.go hmix ?_ | refine Sat.go hmix ?_ | refine ResK.go ?_ | skip); conv => whnf
  by_cases hlt : j < WB.length
  · obtain ⟨gB, hgB, _, _⟩ : ∃ gB, aB = some ⟨gB, 0, none⟩ ∧ True ∧ True := by
      obtain ⟨g', e, _, _, _⟩ := own_at hB (by omega)
      exact ⟨g', e, trivial, trivial⟩
    subst hgB
    obtain ⟨hat, hgl, hne⟩ := hRB gB rfl (by omega)
    have cw := at_word hat hlt
    have hx := hlb WB[j] (List.getElem_mem hlt)
    have hstep : (WB.take (j + 1)).map (shiftW D) = (WB.take j).map (shiftW D) ++ [shiftW D WB[j]] := by
      rw [List.take_succ_eq_append_getElem hlt, List.map_append]; rfl
    have hal : acc.length ≤ 1000000000 := by rw [hacc]; simp; omega
    generalize WB[j] = x at *
    obtain ⟨tx, fx, ox⟩ := x
    dsimp only at hx
    refine GO ?_
    refine Load.agg (wordCells (tx, fx, ox)) (by rfl) (by rfl) (by rfl) cw ?_
    refine GO ?_
    refine Store.fresh (vs := wordCells (tx, fx, ox)) (by rfl) rfl (wordFlat' _) ?_
    have hsz : ((str (enc c)).size : Int) = ((enc c).length : Nat) := rfl
    have q1 := nw_cell wr 41 (wordCells (tx, fx, ox)) 1 (.int .i64 (fx : Nat)) rfl
    refine GO ?_
    rw [show ((fx : Int) + (a.size : Nat) + ((str (enc c)).size : Nat)) = ((fx + D : Nat) : Int) by rw [hsz]; omega]
    refine Store.one (by rfl) ⟨rfl, by simp, by simp⟩ q1 (nw_frozen _ _ _ _) ?_
    rw [setCell_new, show (wordCells (tx, fx, ox)).toArray.setIfInBounds (0 + 1) (.int .i64 ((fx + D : Nat) : Int)) = (wordCells (tx, fx + D, ox)).toArray from rfl]
    have q2 := nw_cell wr 41 (wordCells (tx, fx + D, ox)) 2 (.int .i64 (ox : Nat)) rfl
    refine GO ?_
    rw [show ((ox : Int) + (a.size : Nat) + ((str (enc c)).size : Nat)) = ((ox + D : Nat) : Int) by rw [hsz]; omega]
    refine Store.one (by rfl) ⟨rfl, by simp, by simp⟩ q2 (nw_frozen _ _ _ _) ?_
    rw [setCell_new, show (wordCells (tx, fx + D, ox)).toArray.setIfInBounds (0 + 2) (.int .i64 ((ox + D : Nat) : Int)) = (wordCells (tx, fx + D, ox + D)).toArray from rfl]
    refine GO ?_
    refine Load.agg (wordCells (tx, fx + D, ox + D)) (by rfl) (by rfl) (by rfl) (at_cells (heap_alloc_new wr (.cells (wordCells (tx, fx + D, ox + D)).toArray 41))) ?_
    have k7 : Keeps wr (wr.alloc (.cells (wordCells (tx, fx + D, ox + D)).toArray 41)) none_ := (Keeps.refl _ _).alloc _
    generalize wr.alloc (.cells (wordCells (tx, fx + D, ox + D)).toArray 41) = w7 at *
    refine GO ?_
    refine RunV.of (build_words1 _ _ _ _) ?_
    refine GO ?_
    have hW7 : Wds w7 w4.heap.size (.slice va acc.length vc) acc := own_keep0 hW k7
    refine app_word_at hW7 (Nat.le_trans hsz4 k7.size) (tx, fx + D, ox + D) hal fun v' w8 h8 g8 o8 => ?_
    obtain ⟨a8, c8, rfl⟩ : ∃ x y, v' = .slice x (acc ++ [(tx, fx + D, ox + D)]).length y := own_shape h8
    refine GO ?_
    have K8 : Keeps w w8 none_ := ((hK.trans0 k7).alloc _).own (own_keep0 hW7 ((Keeps.refl _ _).alloc _)) K4.size g8
    have kk := ((Keeps.refl w7 none_).alloc (.cells (wordCells (tx, fx + D, ox + D)).toArray 41))
    refine ⟨(j + 1, a8, c8, acc ++ [(tx, fx + D, ox + D)]), ⟨rfl, rfl, rfl, rfl, rfl, rfl, v_int (by simp), trivial⟩, ⟨K8, by dsimp only; omega, by dsimp only; rw [hacc, hstep, List.append_assoc]; rfl, h8, by have := k7.size; have := kk.size; have := g8.size; omega, ?_⟩, by dsimp only; omega⟩
    intro g' e h0
    injection e with e
    injection e with e
    subst e
    have kg := Keeps.ofGrown g8
    have s7 := k7.size
    have s8 := kk.size
    have s9 := kg.size
    refine ⟨fun i v hi => ?_, by omega, fun e => ?_⟩
    · have h1 := at_keep (at_keep hat k7) kk i v hi
      rw [kg.cell (cell_lt h1) hne]
      exact h1
    · dsimp only at e
      rcases o8 with o | o
      · exact hne (o.symm.trans e)
      · rw [o] at e
        injection e with e
        omega
  · refine GO ?_
    refine RunV.cat (by show (L a).length + (enc c).length ≤ _; omega) ?_
    refine GO ?_
    refine RunV.cat (by rw [ByteArray.size_append]; show (L a).length + (enc c).length + b.size ≤ _; omega) ?_
    refine GO ?_
    have hL : L (a ++ str (enc c) ++ b) = L a ++ enc c ++ L b := by
      rw [← str_L a, ← str_L b, str_append, str_append]; rfl
    have hsz : (a ++ str (enc c) ++ b).size ≤ 10000000 := by
      rw [← L_len, hL]; simp only [List.length_append]; omega
    refine CallS.of (Tryd.call36 _ _) (cut_Words (a ++ str (enc c) ++ b) (hC.keep hK) (hF.keep hK) hsz) ?_
    rintro e w9 ⟨v9, rfl, hN, k9⟩
    have e : j = WB.length := by omega
    subst e
    rw [hL, hboth] at hN
    rw [List.take_length] at hacc
    rw [← hacc] at hN
    have RN := own_rd hN
    have RW := (own_rd hW).keep k9
    obtain ⟨a9, c9, rfl, _⟩ := own_rd hN
    have hal : acc.length ≤ 1000000000 := by rw [hacc]; simp; omega
    refine ⟨_, rfl, ?_⟩; (first | refine Then.go hmix ?_ | refine Sat.go hmix ?_ | refine ResK.go ?_ | skip); conv => whnf
    refine GO ?_
    refine CallS.of (Tryd.call35 _ _) (ref_Same (w := w9) RN RW hal hal) ?_
    rintro e w10 ⟨rfl, k10⟩
    rw [show decide (acc = acc) = true by simp]
    refine ⟨_, rfl, ?_⟩; (first | refine Then.go hmix ?_ | refine Sat.go hmix ?_ | refine ResK.go ?_ | skip); conv => whnf
    refine GO ?_
    exact ⟨rfl, (hK.trans0 k9).trans0 k10⟩
end
end Go.Proofs.YtmipmlcolaaonaaDoor
