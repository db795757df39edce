/- Helper text of this claim: Sw5: lemmas and contracts that the proved statement rests on; no conditions of its own. -/
import Derived.Test.YtmipmlcolaaonaaDoorSw4
import Derived.Test.YtmipmlcolaaonaaDoorWcz
-- alias Tryd
namespace Go.Proofs.YtmipmlcolaaonaaDoor
open Go.RowKit Go.Pw Go.Vc Go.Cs Go.Lib
set_option linter.unusedVariables false
set_option maxRecDepth 100000
def markCells (p : Nat × Nat) : List Value := [.int .i64 (p.1 : Nat), .int .i64 (p.2 : Nat)]
/-- A row of marks, the call's own. -/
def Mks (w : World) (B : Nat) (v : Value) (l : List (Nat × Nat)) : Prop := w.ownsRow B 56 2 v l.length (l.flatMap markCells)
theorem markInfo : (Tryd.prog.info? 56).map (fun i => (i.zero, i.size, i.bytes)) = some (some (.agg #[.int .i64 0, .int .i64 0]), 2, 16) := by kernel_rfl
theorem build_snip0 (s : ByteArray) (w : World) : (Instr.build 50 [(0, .string s)].toArray).run Tryd.prog w = .ok (.agg #[.string s, .slice none 0 0]) w := by
  simp [Instr.build, Instr.fill, go_sem, Tryd.runUnderlying50]
theorem build_mark (a b : Int) (w : World) : (Instr.build 56 [(0, .int .i64 a), (1, .int .i64 b)].toArray).run Tryd.prog w = .ok (.agg #[.int .i64 a, .int .i64 b]) w := by
  simp [Instr.build, Instr.fill, go_sem, Tryd.runUnderlying56]
theorem build_marks1 (a b : Int) (w : World) : (Instr.buildSlice 48 1 [(0, .agg #[.int .i64 a, .int .i64 b])].toArray).run Tryd.prog w = .ok (.slice (some ⟨w.heap.size, 0, none⟩) 1 1) (w.alloc (.cells #[.int .i64 a, .int .i64 b] 56)) := by
  simp [Instr.buildSlice, go_sem, Tryd.runUnderlying48]
theorem app_mark {w : World} {K : Value → World → Prop} {B : Nat} {v : Value} {l : List (Nat × Nat)} {cs : Array Bool} (h : Mks w B v l) (hB : B ≤ w.heap.size) (x : Nat × Nat) (hl : l.length ≤ 1000000000)
    (k : ∀ v' w', Mks w' B v' (l ++ [x]) → (w.alloc (.cells (markCells x).toArray 56)).grownBy w' v.ownBlock → K v' w') :
    RunN Tryd.prog (builtin .append #[48, 48] 48 cs [v, .slice (some ⟨w.heap.size, 0, none⟩) 1 1].toArray) (w.alloc (.cells (markCells x).toArray 56)) K := by
  refine RunN.app Tryd.underlying48 markInfo rfl (by decide) (own_keep0 h ((Keeps.refl _ _).alloc _)) (Nat.le_trans hB ((Keeps.refl w none_).alloc _).size) ⟨w.heap.size, 0, none⟩ 1 1 (markCells x) rfl (new_cells _ _ _) (by simp [markCells, Value.oneCell']) (by omega) (by omega) fun v' w' h2 h3 => k v' w' ?_ h3
  unfold Mks
  rw [List.length_append, List.flatMap_append]
  simpa using h2
theorem own_cap {w : World} {B s n n' cap : Nat} {e : TypeId} {a : Option Addr} {xs : List Value} (h : w.ownsRow B e s (.slice a n' cap) n xs) : n ≤ cap := by
  rcases h.2 with ⟨h1, h2⟩ | ⟨g, cap', cur, h1, _, _, h3, _⟩
  · omega
  · injection h1 with _ _ h1
    omega
theorem marksL_snoc (ks : List (List UInt8)) (at_ : Nat) (ws : List Wd) (x : Wd) : marksL ks at_ (ws ++ [x]) = if x.1 ∈ ks then marksL ks at_ ws ++ [(x.2.1 - at_, x.2.2 - at_)] else marksL ks at_ ws := by
  unfold marksL
  rw [List.filter_append, List.map_append]
  by_cases h : x.1 ∈ ks <;> simp [h]
theorem marksL_len (ks : List (List UInt8)) (at_ : Nat) (ws : List Wd) : (marksL ks at_ ws).length ≤ ws.length := by
  unfold marksL; rw [List.length_map]; exact List.length_filter_le _ _
section
variable {w : World}
set_option maxHeartbeats 8000000 in
theorem sn_Make {v : Value} (s : ByteArray) (ws : List (List UInt8)) (width : Int) (hw : -9223372036854775808 ≤ width ∧ width ≤ 9223372036854775807) (hv : RdO w v ws.length (ws.map sv)) (hC : CutTab w) (hF : FoldTab w) (hl : ws.length ≤ 1000) (hs : ∀ x ∈ ws, x.length ≤ 10000) (hss : s.size ≤ 10000) :
    Calls Tryd.prog 48 #[.string s, v, .int .i64 width] w fun e w' => ∃ mv, e = .returned (.agg #[.string (str (snipL (soughtL ws) (L s) width).1), mv]) ∧ Mks w' w.heap.size mv (snipL (soughtL ws) (L s) width).2 ∧ Keeps w w' none_ := by
  have hv0 := hv
  obtain ⟨a, cap, rfl, hr⟩ := hv
  have hLs := L_len s
  have hord := words_order (L s)
  have hwl := wordsL_len (L s)
  rw [hLs] at hwl hord
  refine calls_of_vc (args := [.string s, .slice a ws.length cap, .int .i64 width]) Tryd.func48 rfl (Nat.le_of_ble_eq_true rfl) ?_; refine Sat.go hmix ?_; conv => whnf
  have v6 := VarC.new w 50 [.string ⟨#[]⟩, .slice none 0 0]
  have k6 : Keeps w (w.alloc (.cells [Value.string ⟨#[]⟩, .slice none 0 0].toArray 50)) none_ := (Keeps.refl _ _).alloc _
  have z6 : (w.alloc (.cells [Value.string ⟨#[]⟩, .slice none 0 0].toArray 50)).heap.size = w.heap.size + 1 := by simp
  have eq6 : w.alloc (.cells #[Value.string ⟨#[]⟩, .slice none 0 0] 50) = w.alloc (.cells [Value.string ⟨#[]⟩, .slice none 0 0].toArray 50) := rfl
  rw [eq6]
  generalize w.alloc (.cells [Value.string ⟨#[]⟩, .slice none 0 0].toArray 50) = w1 at *
  refine CallS.of (Tryd.call79 _ _) (sn_sought ws (hv0.keep k6) (hC.keep k6) (hF.keep k6) hl hs) ?_
  rintro e w2 ⟨b, m, rfl, hb, hm, hset, k2⟩
  have K2 := k6.trans0 k2
  have v6 := v6.keep k2 id
  generalize hks : soughtL ws = ks at *
  refine ⟨_, rfl, ?_⟩; (first | refine Then.go hmix ?_ | refine Sat.go hmix ?_ | refine ResK.go ?_ | skip); conv => whnf
  refine GO ?_
  refine CallS.of (Tryd.call36 _ _) (cut_Words s (hC.keep K2) (hF.keep K2) (by omega)) ?_
  rintro e w3 ⟨vW, rfl, hW, k3⟩
  have K3 := K2.trans0 k3
  have v6 := v6.keep k3 id
  have hm3 := hm.keep k3 id
  have hsnip : snipL ks (L s) width = match bestN ks (wordsL (L s)) width (wordsL (L s)).length with
    | none => ((L s).take (startN (units (L s)) 0 width), [])
    | some f => (cutL (L s) (fromOf (wordsL (L s)) f, toOf (wordsL (L s)) (winE (wordsL (L s)) width f - 1)), marksL ks (fromOf (wordsL (L s)) f) (winW (wordsL (L s)) width f)) := rfl
  generalize hwds : wordsL (L s) = W at *
  generalize snipL ks (L s) width = R at *
  have RW := own_rd hW
  have hcap : ∀ {a n c}, vW = .slice a n c → W.length ≤ c := fun e => by subst e; exact own_cap hW
  obtain ⟨aW, cW, rfl, hrW⟩ := own_rd hW
  have hcap := hcap rfl
  refine ⟨_, rfl, ?_⟩; (first | refine Then.go hmix ?_ | refine Sat.go hmix ?_ | refine ResK.go ?_ | skip); conv => whnf
  refine GO ?_
  refine CallS.of (Tryd.call80 _ _) (sn_best W ks width hw RW hm3 hset hord (by omega) (by omega)) ?_
  rintro e w4 ⟨x, y, z, rfl, hxy, k4⟩
  have K4 := K3.trans0 k4
  have v6 := v6.keep k4 id
  have hm4 := hm3.keep k4 id
  refine ⟨_, rfl, ?_⟩; (first | refine Then.go hmix ?_ | refine Sat.go hmix ?_ | refine ResK.go ?_ | skip); conv => whnf
  refine Store.fresh (vs := [.int .i64 x, .int .i64 y, .int .i64 z]) (by rfl) rfl (by simp [Flat]) ?_
  have v9 := VarC.new w4 93 [.int .i64 x, .int .i64 y, .int .i64 z]
  have k5 : Keeps w4 (w4.alloc (.cells [Value.int .i64 x, .int .i64 y, .int .i64 z].toArray 93)) none_ := (Keeps.refl _ _).alloc _
  have v6 := v6.keep k5 id
  have hm5 := hm4.keep k5 id
  have K5 := K4.trans0 k5
  have z5 : w4.heap.size < (w4.alloc (.cells [Value.int .i64 x, .int .i64 y, .int .i64 z].toArray 93)).heap.size := by simp
  generalize w4.alloc (.cells [Value.int .i64 x, .int .i64 y, .int .i64 z].toArray 93) = w5 at *
  cases hbest : bestN ks W width W.length with
  | none =>
    rw [hbest] at hsnip
    dsimp only at hsnip
    refine GO ?_
    refine CallS.of (Tryd.call81 _ _) (sn_start (w := w5) s width hw (by omega)) ?_
    rintro e w6 ⟨rfl, k6'⟩
    refine ⟨_, rfl, ?_⟩; (first | refine Then.go hmix ?_ | refine Sat.go hmix ?_ | refine ResK.go ?_ | skip); conv => whnf
    refine RunV.of (build_snip0 _ _) ?_
    refine GO ?_
    have v6 := v6.keep k6' id
    refine Store.var [.string (str ((L s).take (startN (units (L s)) 0 width))), .slice none 0 0] v6 (by rfl) rfl (by simp [Flat]) fun w7 v7 k7 => ?_
    (first | refine Then.go hmix ?_ | refine Sat.go hmix ?_ | refine ResK.go ?_ | skip); conv => whnf
    refine Load.agg [.string (str ((L s).take (startN (units (L s)) 0 width))), .slice none 0 0] (by rfl) (by rfl) (by rfl) v7.at ?_
    (first | refine Then.go hmix ?_ | refine Sat.go hmix ?_ | refine ResK.go ?_ | skip); conv => whnf
    rw [hsnip]
    exact ⟨_, rfl, World.ownsRow_nil _ _ _ _, (K5.trans0 k6').trans k7 fun i hi e => by
      have e : i = w.heap.size := e
      omega⟩
  | some f =>
    obtain ⟨hx, hy⟩ := hxy f hbest
    obtain ⟨hf, hfE, _⟩ := bestN_spec ks W width W.length f hbest
    have hEl := (winE_le W width f (by omega)).2
    rw [hbest] at hsnip
    dsimp only at hsnip
    have hwin : winW W width f = cutW W f (winE W width f) := rfl
    rw [hwin] at hsnip
    generalize winE W width f = E at *
    subst hx
    subst hy
    clear hxy
    obtain ⟨gW, rfl, hgW, hatW⟩ := hrW (by omega)
    have hat5 := at_keep hatW (k4.trans0 k5)
    have cf := at_word hat5 hf
    have hE1 : E - 1 < W.length := by omega
    have ce := at_word hat5 hE1
    have hff : fromOf W f = W[f].2.1 := by unfold fromOf; rw [List.getD_eq_getElem?_getD, List.getElem?_eq_getElem hf]; rfl
    have hte : toOf W (E - 1) = W[E - 1].2.2 := by unfold toOf; rw [List.getD_eq_getElem?_getD, List.getElem?_eq_getElem hE1]; rfl
    have hof := hord.each f hf
    have hoe := hord.each (E - 1) hE1
    have hfe : fromOf W f ≤ toOf W (E - 1) := by
      have := hord.mono (show f ≤ E - 1 by omega) hE1
      omega
    have d0 : w5.cell? ⟨w4.heap.size, 0, none⟩ = some (.int .i64 (f : Nat)) := v9.at 0 _ rfl
    have d1 : w5.cell? ⟨w4.heap.size, 0 + 1, none⟩ = some (.int .i64 (E : Nat)) := v9.at 1 _ rfl
    have d2 : w5.cell? ⟨gW, 0 + f * 3 + 1, none⟩ = some (.int .i64 (fromOf W f : Nat)) := by rw [hff]; exact cf 1 _ rfl
    have hEi : ((E : Nat) : Int) - 1 = ((E - 1 : Nat) : Int) := by omega
    have d3 : w5.cell? ⟨gW, 0 + (((E : Nat) : Int) - 1).toNat * 3 + 2, none⟩ = some (.int .i64 (toOf W (E - 1) : Nat)) := by rw [hEi, Int.toNat_natCast, hte]; exact ce 2 _ rfl
    have hx : s.extract (fromOf W f) (toOf W (E - 1)) = str (cutL (L s) (fromOf W f, toOf W (E - 1))) := by rw [← str_L (s.extract _ _)]; exact congrArg str (L_extract s _ _)
    generalize hat0 : fromOf W f = at_ at *
    generalize toOf W (E - 1) = to_ at *
    refine GO ?_
    rw [hx]
    refine RunV.of (build_snip0 _ _) ?_
    refine GO ?_
    refine Store.fresh (vs := [.string (str (cutL (L s) (at_, to_))), .slice none 0 0]) (by rfl) rfl (by simp [Flat]) ?_
    have v12 := VarC.new w5 50 [.string (str (cutL (L s) (at_, to_))), .slice none 0 0]
    have k12 : Keeps w5 (w5.alloc (.cells [Value.string (str (cutL (L s) (at_, to_))), .slice none 0 0].toArray 50)) none_ := (Keeps.refl _ _).alloc _
    have v6 := v6.keep k12 id
    have hm6 := hm5.keep k12 id
    have K6 := K5.trans0 k12
    have hat6 := at_keep hat5 k12
    have z12 : (w5.alloc (.cells [Value.string (str (cutL (L s) (at_, to_))), .slice none 0 0].toArray 50)).heap.size = w5.heap.size + 1 := by simp
    have d0 := (k12.cell (cell_lt d0) id).trans d0
    have d1 := (k12.cell (cell_lt d1) id).trans d1
    generalize w5.alloc (.cells [Value.string (str (cutL (L s) (at_, to_))), .slice none 0 0].toArray 50) = w6 at *
    generalize hb12 : w5.heap.size = b12 at *
    refine GO ?_
    generalize hT : cutL (L s) (at_, to_) = T at *
    have hb6 : w.heap.size < b12 := by have := v9.lt; have := K4.size; omega
    have hbm : b < b12 := by have := hm5.lt; omega
    have hcl := cutW_len W f E hEl
    have hgW12 : gW < b12 := by have := (k4.trans0 k5).size; omega
    refine Loop.intro (ι := Nat × Option Addr × Nat × List (Nat × Nat)) (fun i => [(6, .pointer (some ⟨w.heap.size, 0, none⟩)), (7, .map (some b)), (11, .int .i64 (at_ : Nat)), (12, .pointer (some ⟨b12, 0, none⟩)), (54, .slice (some ⟨gW, 0 + f * 3, none⟩) (E - f) (cW - f)), (55, .int .i64 ((E - f : Nat) : Int)), (56, .int .i64 (i.1 : Nat))])
      (fun i wr => Keeps w wr none_ ∧ Keeps w6 wr (one_ b12) ∧ i.1 ≤ E - f ∧ VarC wr b12 50 [.string (str T), .slice i.2.1 i.2.2.2.length i.2.2.1] ∧ Mks wr (b12 + 1) (.slice i.2.1 i.2.2.2.length i.2.2.1) i.2.2.2 ∧ i.2.2.2 = marksL ks at_ ((cutW W f E).take i.1)) (fun i => E - f - i.1) (0, none, 0, [])
      ⟨rfl, rfl, rfl, rfl, by
        show Value.slice (some ⟨gW, if f = cW then 0 else 0 + f * 3, none⟩) (E - f) (cW - f) = _
        rw [if_neg (by omega)], rfl, rfl, trivial⟩ ⟨K6, Keeps.refl _ _, Nat.zero_le _, v12, World.ownsRow_nil _ _ _ _, rfl⟩ ?_
    rintro ⟨i, ma, mc, ml⟩ gg wr ⟨hK, hK2, hi, hv12, hM, hml⟩
    dsimp only at hi hv12 hM hml ⊢
    have n6 : ¬ one_ b12 w.heap.size := fun e => by
      have e : w.heap.size = b12 := e
      omega
    have nb : ¬ one_ b12 b := fun e => by
      have e : b = b12 := e
      omega
    have ng : ¬ one_ b12 gW := fun e => by
      have e : gW = b12 := e
      omega
    have hmr := hm6.keep hK2 nb
    have v6r := v6.keep hK2 n6
    (first | refine Then.go hmix ?_ | refine Sat.go hmix ?_ | refine ResK.go ?_ | skip); conv => whnf
    by_cases hlt : i < E - f
    · have hfi : f + i < W.length := by omega
      have cw := at_word (at_keepc hat6 hK2 ng) hfi
      rw [show 0 + (f + i) * 3 = 0 + f * 3 + i * 3 by omega] at cw
      have hci : (cutW W f E)[i]? = some W[f + i] := by
        unfold cutW
        rw [List.getElem?_drop, List.getElem?_take, if_pos (by omega), List.getElem?_eq_getElem hfi]
      have hstep : (cutW W f E).take (i + 1) = (cutW W f E).take i ++ [W[f + i]] := by
        rw [List.take_add_one, hci]; rfl
      have hof2 := hord.each (f + i) hfi
      have hff2 : fromOf W (f + i) = W[f + i].2.1 := by unfold fromOf; rw [List.getD_eq_getElem?_getD, List.getElem?_eq_getElem hfi]; rfl
      have htt2 : toOf W (f + i) = W[f + i].2.2 := by unfold toOf; rw [List.getD_eq_getElem?_getD, List.getElem?_eq_getElem hfi]; rfl
      have hmo := hord.mono (show f ≤ f + i by omega) hfi
      rw [hff2, htt2] at hof2
      rw [hff2, hat0] at hmo
      have hmsn := marksL_snoc ks at_ ((cutW W f E).take i) W[f + i]
      have hmln := marksL_len ks at_ ((cutW W f E).take i)
      rw [← hml, List.length_take] at hmln
      generalize W[f + i] = x at *
      refine GO ?_
      refine Load.agg (wordCells x) (by rfl) (by rfl) (by rfl) cw ?_
      refine GO ?_
      refine Store.fresh (vs := wordCells x) (by rfl) rfl (wordFlat _) ?_
      have vw := VarC.new wr 41 (wordCells x)
      have kw : Keeps wr (wr.alloc (.cells (wordCells x).toArray 41)) none_ := (Keeps.refl _ _).alloc _
      have hv12 := hv12.keep kw id
      have hM : Mks (wr.alloc (.cells (wordCells x).toArray 41)) (b12 + 1) (.slice ma ml.length mc) ml := own_keep0 hM kw
      have hmr := hmr.keep kw id
      have hK := hK.trans0 kw
      have hK2 := hK2.trans0 kw
      have hzb : b12 < wr.heap.size := by have := hK2.size; have := hv12.lt; rename_i hv _ _ _; exact hv.lt
      have zw := kw.size
      generalize wr.alloc (.cells (wordCells x).toArray 41) = wA at *
      generalize wr.heap.size = bw at *
      have e0 : wA.cell? ⟨bw, 0, none⟩ = some (.string (str x.1)) := vw.at 0 _ rfl
      have e1 : wA.cell? ⟨bw, 0 + 1, none⟩ = some (.int .i64 (x.2.1 : Nat)) := vw.at 1 _ rfl
      have e2 : wA.cell? ⟨bw, 0 + 2, none⟩ = some (.int .i64 (x.2.2 : Nat)) := vw.at 2 _ rfl
      have e3 : wA.cell? ⟨b12, 0 + 1, none⟩ = some (.slice ma ml.length mc) := hv12.at 1 _ rfl
      refine GO ?_
      refine RunV.look Tryd.underlying90 Tryd.underlying9 (zero_bool _) hmr _ ?_
      rw [hset x.1]
      by_cases hk : x.1 ∈ ks
      · rw [if_pos hk]
        rw [if_pos hk] at hmsn
        refine GO ?_
        rw [show ((x.2.1 : Nat) : Int) - ((at_ : Nat) : Int) = ((x.2.1 - at_ : Nat) : Int) by omega, show ((x.2.2 : Nat) : Int) - ((at_ : Nat) : Int) = ((x.2.2 - at_ : Nat) : Int) by omega]
        refine RunV.of (build_mark _ _ _) ?_
        refine GO ?_
        refine RunV.of (build_marks1 _ _ _) ?_
        refine GO ?_
        refine app_mark (w := wA) (B := b12 + 1) hM (by omega) (x.2.1 - at_, x.2.2 - at_) (by omega) fun v' w7 h7 g7 => ?_
        obtain ⟨a7, c7, rfl⟩ : ∃ a c, v' = .slice a (ml ++ [(x.2.1 - at_, x.2.2 - at_)]).length c := own_shape h7
        have kg := (((Keeps.refl wA (fun k => (Value.slice ma ml.length mc).ownBlock = some k)).alloc (.cells (markCells (x.2.1 - at_, x.2.2 - at_)).toArray 56))).trans' (Keeps.ofGrown g7)
        have hnr : ∀ k, (Value.slice ma ml.length mc).ownBlock = some k → b12 + 1 ≤ k := fun k hk => (hM.lt k hk).1
        have v7 := hv12.keep kg (fun e => by have := hnr _ e; omega)
        have K7 : Keeps w w7 none_ := hK.trans kg fun i hi e => by have := hnr _ e; omega
        have K72 : Keeps w6 w7 (one_ b12) := hK2.trans kg fun i hi e => by have := hnr _ e; omega
        refine GO ?_
        refine Store.one (by rfl) ⟨rfl, by simp, by simp⟩ (v7.at 1 _ rfl) (v7.frozen _) ?_
        have v8 := v7.set (0 + 1) (.slice a7 (ml ++ [(x.2.1 - at_, x.2.2 - at_)]).length c7)
        have k8 : Keeps w7 (w7.setCell ⟨b12, 0 + 1, none⟩ (.slice a7 (ml ++ [(x.2.1 - at_, x.2.2 - at_)]).length c7)) (one_ b12) := (Keeps.refl w7 (one_ b12)).setCell (p := ⟨b12, 0 + 1, none⟩) (.inl rfl) _
        have h8 : Mks (w7.setCell ⟨b12, 0 + 1, none⟩ (.slice a7 (ml ++ [(x.2.1 - at_, x.2.2 - at_)]).length c7)) (b12 + 1) (.slice a7 (ml ++ [(x.2.1 - at_, x.2.2 - at_)]).length c7) (ml ++ [(x.2.1 - at_, x.2.2 - at_)]) := own_keep h7 k8 fun k hk e => by
          have e : k = b12 := e
          have := (h7.lt k hk).1; omega
        have K8 := K7.trans k8 fun i hi e => by
          have e : i = b12 := e
          omega
        have K82 := K72.trans' k8
        generalize w7.setCell ⟨b12, 0 + 1, none⟩ (.slice a7 (ml ++ [(x.2.1 - at_, x.2.2 - at_)]).length c7) = w8 at *
        refine GO ?_
        exact ⟨(i + 1, a7, c7, ml ++ [(x.2.1 - at_, x.2.2 - at_)]), ⟨rfl, rfl, rfl, rfl, rfl, rfl, v_int (by simp), trivial⟩, ⟨K8, K82, by dsimp only; omega, v8, h8, by dsimp only; rw [hstep, hmsn, hml]⟩, by dsimp only; omega⟩
      · rw [if_neg hk]
        rw [if_neg hk] at hmsn
        refine GO ?_
        exact ⟨(i + 1, ma, mc, ml), ⟨rfl, rfl, rfl, rfl, rfl, rfl, v_int (by simp), trivial⟩, ⟨hK, hK2, by dsimp only; omega, hv12, hM, by dsimp only; rw [hstep, hmsn, hml]⟩, by dsimp only; omega⟩
    · have hie : i = (cutW W f E).length := by omega
      rw [hie, List.take_length] at hml
      refine GO ?_
      refine Load.agg [.string (str T), .slice ma ml.length mc] (by rfl) (by rfl) (by rfl) hv12.at ?_
      refine GO ?_
      refine Store.var [.string (str T), .slice ma ml.length mc] v6r (by rfl) rfl (by simp [Flat]) fun w7 v7 k7 => ?_
      (first | refine Then.go hmix ?_ | refine Sat.go hmix ?_ | refine ResK.go ?_ | skip); conv => whnf
      refine Load.agg [.string (str T), .slice ma ml.length mc] (by rfl) (by rfl) (by rfl) v7.at ?_
      (first | refine Then.go hmix ?_ | refine Sat.go hmix ?_ | refine ResK.go ?_ | skip); conv => whnf
      rw [hsnip]
      refine ⟨_, rfl, ?_, hK.trans k7 fun i hi e => by
        have e : i = w.heap.size := e
        omega⟩
      dsimp only
      rw [← hml]
      exact own_base (own_keep hM k7 fun k hk e => by
        have e : k = w.heap.size := e
        have := (hM.lt k hk).1; omega) (by omega)
end
end Go.Proofs.YtmipmlcolaaonaaDoor
