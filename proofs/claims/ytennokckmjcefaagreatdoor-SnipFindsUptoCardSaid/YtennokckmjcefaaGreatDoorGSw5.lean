/- Helper lemmas that the proved statement rests on; no conditions of their own. -/
import Derived.Test.YtennokckmjcefaaGreatDoorGSw2
set_option linter.unusedVariables false
set_option maxHeartbeats 8000000
set_option maxRecDepth 100000
namespace Go.Proofs.YtennokckmjcefaaGreatDoor
open Go.RowKit Go.Pw Go.Vc Go.Cs Go.Lib
def markCells (p : Nat × Nat) : List Value := [.int .i64 (p.1 : Nat), .int .i64 (p.2 : Nat)]
def Mks (w : World) (B : Nat) (v : Value) (l : List (Nat × Nat)) : Prop := w.ownsRow B 130 2 v l.length (l.flatMap markCells)
theorem markInfo : (Tryz.prog.info? 130).map (fun i => (i.zero, i.size, i.bytes)) = some (some (.agg #[.int .i64 0, .int .i64 0]), 2, 16) := by kernel_rfl
theorem zff (s : ByteArray) (w : World) : (Instr.build 77 [(0, .string s)].toArray).run Tryz.prog w = .ok (.agg #[.string s, .slice none 0 0]) w := by
 simp [Instr.build, Instr.fill, go_sem, Tryz.runUnderlying77]
theorem zfW (a b : Int) (w : World) : (Instr.build 130 [(0, .int .i64 a), (1, .int .i64 b)].toArray).run Tryz.prog w = .ok (.agg #[.int .i64 a, .int .i64 b]) w := by
 simp [Instr.build, Instr.fill, go_sem, Tryz.runUnderlying130]
theorem zia (a b : Int) (w : World) : (Instr.buildSlice 75 1 [(0, .agg #[.int .i64 a, .int .i64 b])].toArray).run Tryz.prog w = .ok (.slice (some ⟨w.heap.size, 0, none⟩) 1 1) (w.alloc (.cells #[.int .i64 a, .int .i64 b] 130)) := by
 simp [Instr.buildSlice, go_sem, Tryz.runUnderlying75]
theorem zon {w : World} {K : Value → World → Prop} {B : Nat} {v : Value} {l : List (Nat × Nat)} {cs : Array Bool} (h : Mks w B v l) (hB : B ≤ w.heap.size) (x : Nat × Nat) (hl : l.length ≤ 1000000000)
  (k : ∀ v' w', Mks w' B v' (l ++ [x]) → (w.alloc (.cells (markCells x).toArray 130)).grownBy w' v.ownBlock → K v' w') :
  RunN Tryz.prog (builtin .append #[75, 75] 75 cs [v, .slice (some ⟨w.heap.size, 0, none⟩) 1 1].toArray) (w.alloc (.cells (markCells x).toArray 130)) K := by
 refine RunN.app Tryz.underlying75 markInfo rfl (by decide) (zac h ((Kp.refl _ _).alloc _)) (Nat.le_trans hB ((Kp.refl w n_).alloc _).size) ⟨w.heap.size, 0, none⟩ 1 1 (markCells x) rfl (zdV _ _ _) (by simp [markCells, Value.oneCell']) (by omega) (by omega) fun v' w' h2 h3 => k v' w' ?_ h3
 unfold Mks
 rw [List.length_append, List.flatMap_append]
 simpa using h2
theorem zqD {w : World} {B s n n' cap : Nat} {e : TypeId} {a : Option Addr} {xs : List Value} (h : w.ownsRow B e s (.slice a n' cap) n xs) : n ≤ cap := by
 rcases h.2 with ⟨h1, h2⟩ | ⟨g, cap', cur, h1, _, _, h3, _⟩
 ·omega
 ·injection h1 with _ _ h1
  omega
theorem ziM (ks : List (List UInt8)) (at_ : Nat) (ws : List Wd) (x : Wd) : marksL ks at_ (ws ++ [x]) = if x.1 ∈ ks then marksL ks at_ ws ++ [(x.2.1 - at_, x.2.2 - at_)] else marksL ks at_ ws := by
 unfold marksL
 rw [List.filter_append, List.map_append]
 by_cases h : x.1 ∈ ks <;> simp [h]
theorem zkr (ks : List (List UInt8)) (at_ : Nat) (ws : List Wd) : (marksL ks at_ ws).length ≤ ws.length := by
 unfold marksL; rw [List.length_map]; exact List.length_filter_le _ _
section
variable {w : World}
theorem zmR {v : Value} (s : ByteArray) (ws : List (List UInt8)) (width : Int) (hw : -9223372036854775808 ≤ width ∧ width ≤ 9223372036854775807) (hv : RdO w v ws.length (ws.map sv)) (hC : CutTab w) (hF : FoldTab w) (hl : ws.length ≤ 1000) (hs : ∀ x ∈ ws, x.length ≤ 10000) (hss : s.size ≤ 10000) :
  Calls Tryz.prog 48 #[.string s, v, .int .i64 width] w fun e w' => ∃ mv, e = .returned (.agg #[.string (str (snipL (soughtL ws) (L s) width).1), mv]) ∧ Mks w' w.heap.size mv (snipL (soughtL ws) (L s) width).2 ∧ Kp w w' n_ := by
 have hv0 := hv
 obtain ⟨a, cap, rfl, hr⟩ := hv
 have hLs := L_len s
 have hord := zeX (L s)
 have hwl := zcq (L s)
 rw [hLs] at hwl hord
 refine zaa (args := [.string s, .slice a ws.length cap, .int .i64 width]) Tryz.func48 rfl NL ?_; refine GW ?_
 have v6 := VarC.new w 77 [.string ⟨#[]⟩, .slice none 0 0]
 have k6 : Kp w (w.alloc (.cells [Value.string ⟨#[]⟩, .slice none 0 0].toArray 77)) n_ := (Kp.refl _ _).alloc _
 have z6 : (w.alloc (.cells [Value.string ⟨#[]⟩, .slice none 0 0].toArray 77)).heap.size = w.heap.size + 1 := by simp
 have eq6 : w.alloc (.cells #[Value.string ⟨#[]⟩, .slice none 0 0] 77) = w.alloc (.cells [Value.string ⟨#[]⟩, .slice none 0 0].toArray 77) := rfl
 rw [eq6]
 generalize w.alloc (.cells [Value.string ⟨#[]⟩, .slice none 0 0].toArray 77) = w1 at *
 refine CallS.of (Tryz.call112 _ _) (zmM ws (hv0.keep k6) (hC.keep k6) (hF.keep k6) hl hs) ?_
 rintro e w2 ⟨b, m, rfl, hb, hm, hset, k2⟩
 have K2 := k6.trans0 k2
 have v6 := v6.keep k2 id
 generalize hks : soughtL ws = ks at *
 refine RT ?_
 refine GO ?_
 refine CallS.of (Tryz.call86 _ _) (zhV s (hC.keep K2) (hF.keep K2) (by omega)) ?_
 rintro e w3 ⟨vW, rfl, hW, k3⟩
 have K3 := K2.trans0 k3
 have v6 := v6.keep k3 id
 have hm3 := hm.keep k3 id
 have hsnip : snipL ks (L s) width = match bestN ks (wordsL (L s)) width (wordsL (L s)).length with
  | none => ((L s).take (startN (units (L s)) 0 width), [])
  | some f => (cutL (L s) (fromOf (wordsL (L s)) f, toOf (wordsL (L s)) (winE (wordsL (L s)) width f - 1)), marksL ks (fromOf (wordsL (L s)) f) (winW (wordsL (L s)) width f)) := rfl
 generalize hwds : wordsL (L s) = W at *
 generalize snipL ks (L s) width = R at *
 have RW := zjh hW
 have hcap : ∀ {a n c}, vW = .slice a n c → W.length ≤ c := fun e => by subst e; exact zqD hW
 obtain ⟨aW, cW, rfl, hrW⟩ := zjh hW
 have hcap := hcap rfl
 refine RT ?_
 refine GO ?_
 refine CallS.of (Tryz.call113 _ _) (zqz W ks width hw RW hm3 hset hord (by omega) (by omega)) ?_
 rintro e w4 ⟨x, y, z, rfl, hxy, k4⟩
 have K4 := K3.trans0 k4
 have v6 := v6.keep k4 id
 have hm4 := hm3.keep k4 id
 refine RT ?_
 refine Store.fresh (vs := [.int .i64 x, .int .i64 y, .int .i64 z]) (by rfl) rfl (by simp [Flat]) ?_
 have v9 := VarC.new w4 134 [.int .i64 x, .int .i64 y, .int .i64 z]
 have k5 : Kp w4 (w4.alloc (.cells [Value.int .i64 x, .int .i64 y, .int .i64 z].toArray 134)) n_ := (Kp.refl _ _).alloc _
 have v6 := v6.keep k5 id
 have hm5 := hm4.keep k5 id
 have K5 := K4.trans0 k5
 have z5 : w4.heap.size < (w4.alloc (.cells [Value.int .i64 x, .int .i64 y, .int .i64 z].toArray 134)).heap.size := by simp
 generalize w4.alloc (.cells [Value.int .i64 x, .int .i64 y, .int .i64 z].toArray 134) = w5 at *
 cases hbest : bestN ks W width W.length with
 | none =>
  rw [hbest] at hsnip
  dsimp only at hsnip
  refine GO ?_
  refine CallS.of (Tryz.call114 _ _) (zob (w := w5) s width hw (by omega)) ?_
  rintro e w6 ⟨rfl, k6'⟩
  refine RT ?_
  refine RunV.of (zff _ _) ?_
  refine GO ?_
  have v6 := v6.keep k6' id
  refine Store.var [.string (str ((L s).take (startN (units (L s)) 0 width))), .slice none 0 0] v6 (by rfl) rfl (by simp [Flat]) fun w7 v7 k7 => ?_
  refine GW ?_
  refine Load.agg [.string (str ((L s).take (startN (units (L s)) 0 width))), .slice none 0 0] (by rfl) (by rfl) (by rfl) v7.at ?_
  refine GW ?_
  rw [hsnip]
  exact ⟨_, rfl, World.ownsRow_nil _ _ _ _, (K5.trans0 k6').trans k7 fun i hi e => by
   have e : i = w.heap.size := e
   omega⟩
 | some f =>
  obtain ⟨hx, hy⟩ := hxy f hbest
  obtain ⟨hf, hfE, _⟩ := zfR ks W width W.length f hbest
  have hEl := (zmf W width f (by omega)).2
  rw [hbest] at hsnip
  dsimp only at hsnip
  have hwin : winW W width f = cutW W f (winE W width f) := rfl
  rw [hwin] at hsnip
  generalize winE W width f = E at *
  subst hx
  subst hy
  clear hxy
  obtain ⟨gW, rfl, hgW, hatW⟩ := hrW (by omega)
  have hat5 := zaG hatW (k4.trans0 k5)
  have cf := zec hat5 hf
  have hE1 : E - 1 < W.length := by omega
  have ce := zec hat5 hE1
  have hff : fromOf W f = W[f].2.1 := by unfold fromOf; rw [List.getD_eq_getElem?_getD, List.getElem?_eq_getElem hf]; rfl
  have hte : toOf W (E - 1) = W[E - 1].2.2 := by unfold toOf; rw [List.getD_eq_getElem?_getD, List.getElem?_eq_getElem hE1]; rfl
  have hof := hord.each f hf
  have hoe := hord.each (E - 1) hE1
  have hfe : fromOf W f ≤ toOf W (E - 1) := by
   have := hord.mono (show f ≤ E - 1 by omega) hE1
   omega
  have d0 : w5.cell? ⟨w4.heap.size, 0, none⟩ = some (.int .i64 (f : Nat)) := v9.at 0 _ rfl
  have d1 : w5.cell? ⟨w4.heap.size, 0 + 1, none⟩ = some (.int .i64 (E : Nat)) := v9.at 1 _ rfl
  have d2 : w5.cell? ⟨gW, 0 + f * 3 + 1, none⟩ = some (.int .i64 (fromOf W f : Nat)) := by rw [hff]; exact cf 1 _ rfl
  have hEi : ((E : Nat) : Int) - 1 = ((E - 1 : Nat) : Int) := by omega
  have d3 : w5.cell? ⟨gW, 0 + (((E : Nat) : Int) - 1).toNat * 3 + 2, none⟩ = some (.int .i64 (toOf W (E - 1) : Nat)) := by rw [hEi, Int.toNat_natCast, hte]; exact ce 2 _ rfl
  have hx : s.extract (fromOf W f) (toOf W (E - 1)) = str (cutL (L s) (fromOf W f, toOf W (E - 1))) := by rw [← str_L (s.extract _ _)]; exact congrArg str (L_extract s _ _)
  generalize hat0 : fromOf W f = at_ at *
  generalize toOf W (E - 1) = to_ at *
  refine GO ?_
  rw [hx]
  refine RunV.of (zff _ _) ?_
  refine GO ?_
  refine Store.fresh (vs := [.string (str (cutL (L s) (at_, to_))), .slice none 0 0]) (by rfl) rfl (by simp [Flat]) ?_
  have v12 := VarC.new w5 77 [.string (str (cutL (L s) (at_, to_))), .slice none 0 0]
  have k12 : Kp w5 (w5.alloc (.cells [Value.string (str (cutL (L s) (at_, to_))), .slice none 0 0].toArray 77)) n_ := (Kp.refl _ _).alloc _
  have v6 := v6.keep k12 id
  have hm6 := hm5.keep k12 id
  have K6 := K5.trans0 k12
  have hat6 := zaG hat5 k12
  have z12 : (w5.alloc (.cells [Value.string (str (cutL (L s) (at_, to_))), .slice none 0 0].toArray 77)).heap.size = w5.heap.size + 1 := by simp
  have d0 := (k12.cell (zcE d0) id).trans d0
  have d1 := (k12.cell (zcE d1) id).trans d1
  generalize w5.alloc (.cells [Value.string (str (cutL (L s) (at_, to_))), .slice none 0 0].toArray 77) = w6 at *
  generalize hb12 : w5.heap.size = b12 at *
  refine GO ?_
  generalize hT : cutL (L s) (at_, to_) = T at *
  have hb6 : w.heap.size < b12 := by have := v9.lt; have := K4.size; omega
  have hbm : b < b12 := by have := hm5.lt; omega
  have hcl := zcV W f E hEl
  have hgW12 : gW < b12 := by have := (k4.trans0 k5).size; omega
  refine Loop.intro (ι := Nat × Option Addr × Nat × List (Nat × Nat)) (fun i => [(6, .pointer (some ⟨w.heap.size, 0, none⟩)), (7, .map (some b)), (11, .int .i64 (at_ : Nat)), (12, .pointer (some ⟨b12, 0, none⟩)), (54, .slice (some ⟨gW, 0 + f * 3, none⟩) (E - f) (cW - f)), (55, .int .i64 ((E - f : Nat) : Int)), (56, .int .i64 (i.1 : Nat))])
   (fun i wr => Kp w wr n_ ∧ Kp w6 wr (one_ b12) ∧ i.1 ≤ E - f ∧ VarC wr b12 77 [.string (str T), .slice i.2.1 i.2.2.2.length i.2.2.1] ∧ Mks wr (b12 + 1) (.slice i.2.1 i.2.2.2.length i.2.2.1) i.2.2.2 ∧ i.2.2.2 = marksL ks at_ ((cutW W f E).take i.1)) (fun i => E - f - i.1) (0, none, 0, [])
   ⟨rfl, rfl, rfl, rfl, by
    show Value.slice (some ⟨gW, if f = cW then 0 else 0 + f * 3, none⟩) (E - f) (cW - f) = _
    rw [if_neg (by omega)], rfl, rfl, trivial⟩ ⟨K6, Kp.refl _ _, Nat.zero_le _, v12, World.ownsRow_nil _ _ _ _, rfl⟩ ?_
  rintro ⟨i, ma, mc, ml⟩ gg wr ⟨hK, hK2, hi, hv12, hM, hml⟩
  dsimp only at hi hv12 hM hml ⊢
  have n6 : ¬ one_ b12 w.heap.size := fun e => by
   have e : w.heap.size = b12 := e
   omega
  have nb : ¬ one_ b12 b := fun e => by
   have e : b = b12 := e
   omega
  have ng : ¬ one_ b12 gW := fun e => by
   have e : gW = b12 := e
   omega
  have hmr := hm6.keep hK2 nb
  have v6r := v6.keep hK2 n6
  refine GW ?_
  by_cases hlt : i < E - f
  ·have hfi : f + i < W.length := by omega
   have cw := zec (zjD hat6 hK2 ng) hfi
   rw [show 0 + (f + i) * 3 = 0 + f * 3 + i * 3 by omega] at cw
   have hci : (cutW W f E)[i]? = some W[f + i] := by
    unfold cutW
    rw [List.getElem?_drop, List.getElem?_take, if_pos (by omega), List.getElem?_eq_getElem hfi]
   have hstep : (cutW W f E).take (i + 1) = (cutW W f E).take i ++ [W[f + i]] := by
    rw [List.take_add_one, hci]; rfl
   have hof2 := hord.each (f + i) hfi
   have hff2 : fromOf W (f + i) = W[f + i].2.1 := by unfold fromOf; rw [List.getD_eq_getElem?_getD, List.getElem?_eq_getElem hfi]; rfl
   have htt2 : toOf W (f + i) = W[f + i].2.2 := by unfold toOf; rw [List.getD_eq_getElem?_getD, List.getElem?_eq_getElem hfi]; rfl
   have hmo := hord.mono (show f ≤ f + i by omega) hfi
   rw [hff2, htt2] at hof2
   rw [hff2, hat0] at hmo
   have hmsn := ziM ks at_ ((cutW W f E).take i) W[f + i]
   have hmln := zkr ks at_ ((cutW W f E).take i)
   rw [← hml, List.length_take] at hmln
   generalize W[f + i] = x at *
   refine GO ?_
   refine Load.agg (wordCells x) (by rfl) (by rfl) (by rfl) cw ?_
   refine GO ?_
   refine Store.fresh (vs := wordCells x) (by rfl) rfl (wordFlat _) ?_
   have vw := VarC.new wr 116 (wordCells x)
   have kw : Kp wr (wr.alloc (.cells (wordCells x).toArray 116)) n_ := (Kp.refl _ _).alloc _
   have hv12 := hv12.keep kw id
   have hM : Mks (wr.alloc (.cells (wordCells x).toArray 116)) (b12 + 1) (.slice ma ml.length mc) ml := zac hM kw
   have hmr := hmr.keep kw id
   have hK := hK.trans0 kw
   have hK2 := hK2.trans0 kw
   have hzb : b12 < wr.heap.size := by have := hK2.size; have := hv12.lt; rename_i hv _ _ _; exact hv.lt
   have zw := kw.size
   generalize wr.alloc (.cells (wordCells x).toArray 116) = wA at *
   generalize wr.heap.size = bw at *
   have e0 : wA.cell? ⟨bw, 0, none⟩ = some (.string (str x.1)) := vw.at 0 _ rfl
   have e1 : wA.cell? ⟨bw, 0 + 1, none⟩ = some (.int .i64 (x.2.1 : Nat)) := vw.at 1 _ rfl
   have e2 : wA.cell? ⟨bw, 0 + 2, none⟩ = some (.int .i64 (x.2.2 : Nat)) := vw.at 2 _ rfl
   have e3 : wA.cell? ⟨b12, 0 + 1, none⟩ = some (.slice ma ml.length mc) := hv12.at 1 _ rfl
   refine GO ?_
   refine RunV.look Tryz.underlying131 Tryz.underlying9 (zhz _) hmr _ ?_
   rw [hset x.1]
   by_cases hk : x.1 ∈ ks
   ·rw [if_pos hk]
    rw [if_pos hk] at hmsn
    refine GO ?_
    rw [show ((x.2.1 : Nat) : Int) - ((at_ : Nat) : Int) = ((x.2.1 - at_ : Nat) : Int) by omega, show ((x.2.2 : Nat) : Int) - ((at_ : Nat) : Int) = ((x.2.2 - at_ : Nat) : Int) by omega]
    refine RunV.of (zfW _ _ _) ?_
    refine GO ?_
    refine RunV.of (zia _ _ _) ?_
    refine GO ?_
    refine zon (w := wA) (B := b12 + 1) hM (by omega) (x.2.1 - at_, x.2.2 - at_) (by omega) fun v' w7 h7 g7 => ?_
    obtain ⟨a7, c7, rfl⟩ : ∃ a c, v' = .slice a (ml ++ [(x.2.1 - at_, x.2.2 - at_)]).length c := zab h7
    have kg := (((Kp.refl wA (fun k => (Value.slice ma ml.length mc).ownBlock = some k)).alloc (.cells (markCells (x.2.1 - at_, x.2.2 - at_)).toArray 130))).trans' (Kp.ofGrown g7)
    have hnr : ∀ k, (Value.slice ma ml.length mc).ownBlock = some k → b12 + 1 ≤ k := fun k hk => (hM.lt k hk).1
    have v7 := hv12.keep kg (fun e => by have := hnr _ e; omega)
    have K7 : Kp w w7 n_ := hK.trans kg fun i hi e => by have := hnr _ e; omega
    have K72 : Kp w6 w7 (one_ b12) := hK2.trans kg fun i hi e => by have := hnr _ e; omega
    refine GO ?_
    refine Store.one (by rfl) ⟨rfl, by simp, by simp⟩ (v7.at 1 _ rfl) (v7.frozen _) ?_
    have v8 := v7.set (0 + 1) (.slice a7 (ml ++ [(x.2.1 - at_, x.2.2 - at_)]).length c7)
    have k8 : Kp w7 (w7.setCell ⟨b12, 0 + 1, none⟩ (.slice a7 (ml ++ [(x.2.1 - at_, x.2.2 - at_)]).length c7)) (one_ b12) := (Kp.refl w7 (one_ b12)).setCell (p := ⟨b12, 0 + 1, none⟩) (.inl rfl) _
    have h8 : Mks (w7.setCell ⟨b12, 0 + 1, none⟩ (.slice a7 (ml ++ [(x.2.1 - at_, x.2.2 - at_)]).length c7)) (b12 + 1) (.slice a7 (ml ++ [(x.2.1 - at_, x.2.2 - at_)]).length c7) (ml ++ [(x.2.1 - at_, x.2.2 - at_)]) := zaj h7 k8 fun k hk e => by
     have e : k = b12 := e
     have := (h7.lt k hk).1; omega
    have K8 := K7.trans k8 fun i hi e => by
     have e : i = b12 := e
     omega
    have K82 := K72.trans' k8
    generalize w7.setCell ⟨b12, 0 + 1, none⟩ (.slice a7 (ml ++ [(x.2.1 - at_, x.2.2 - at_)]).length c7) = w8 at *
    refine GO ?_
    exact ⟨(i + 1, a7, c7, ml ++ [(x.2.1 - at_, x.2.2 - at_)]), ⟨rfl, rfl, rfl, rfl, rfl, rfl, v_int (by simp), trivial⟩, ⟨K8, K82, by dsimp only; omega, v8, h8, by dsimp only; rw [hstep, hmsn, hml]⟩, by dsimp only; omega⟩
   ·rw [if_neg hk]
    rw [if_neg hk] at hmsn
    refine GO ?_
    exact ⟨(i + 1, ma, mc, ml), ⟨rfl, rfl, rfl, rfl, rfl, rfl, v_int (by simp), trivial⟩, ⟨hK, hK2, by dsimp only; omega, hv12, hM, by dsimp only; rw [hstep, hmsn, hml]⟩, by dsimp only; omega⟩
  ·have hie : i = (cutW W f E).length := by omega
   rw [hie, List.take_length] at hml
   refine GO ?_
   refine Load.agg [.string (str T), .slice ma ml.length mc] (by rfl) (by rfl) (by rfl) hv12.at ?_
   refine GO ?_
   refine Store.var [.string (str T), .slice ma ml.length mc] v6r (by rfl) rfl (by simp [Flat]) fun w7 v7 k7 => ?_
   refine GW ?_
   refine Load.agg [.string (str T), .slice ma ml.length mc] (by rfl) (by rfl) (by rfl) v7.at ?_
   refine GW ?_
   rw [hsnip]
   refine ⟨_, rfl, ?_, hK.trans k7 fun i hi e => by
    have e : i = w.heap.size := e
    omega⟩
   dsimp only
   rw [← hml]
   exact zaz (zaj hM k7 fun k hk e => by
    have e : k = w.heap.size := e
    have := (hM.lt k hk).1; omega) (by omega)
end
section
end
theorem At.drop {w : World} {b o : Nat} {vs : List Value} (h : At w b o vs) (d : Nat) : At w b (o + d) (vs.drop d) := fun i v hi => by
 rw [List.getElem?_drop] at hi
 rw [Nat.add_assoc]
 exact h (d + i) v hi
theorem At.take {w : World} {b o : Nat} {vs : List Value} (h : At w b o vs) (d : Nat) : At w b o (vs.take d) := fun i v hi => by
 rw [List.getElem?_take] at hi
 split at hi
 ·exact h i v hi
 ·cases hi
section
end
theorem zln (w : World) : (sizeOf 3).run Tryz.prog w = .ok 1 w := by
 have : (Tryz.prog.info? 3).map (·.size) = some 1 := by kernel_rfl
 obtain ⟨i, hi, h2⟩ := Option.map_eq_some_iff.1 this
 rw [zca hi, h2]
theorem zqp (a b c d : Int) (w : World) : (Op.equalIn (9999 + 1) 130 (.agg #[.int .i64 a, .int .i64 b]) (.agg #[.int .i64 c, .int .i64 d])).run Tryz.prog w = .ok (decide (a = c ∧ b = d)) w := by
 have p0 : (part 3 #[Value.int .i64 a, .int .i64 b] 0).run Tryz.prog w = .ok (.int .i64 a) w := by rfl
 have p1 : (part 3 #[Value.int .i64 a, .int .i64 b] 1).run Tryz.prog w = .ok (.int .i64 b) w := by rfl
 have q0 : (part 3 #[Value.int .i64 c, .int .i64 d] 0).run Tryz.prog w = .ok (.int .i64 c) w := by rfl
 have q1 : (part 3 #[Value.int .i64 c, .int .i64 d] 1).run Tryz.prog w = .ok (.int .i64 d) w := by rfl
 have i1 (a b : Int) : (Op.equalIn (9998 + 1) 3 (.int .i64 a) (.int .i64 b)).run Tryz.prog w = .ok (a == b) w := run_equalIn_int w 9998 3 .i64 .i64 a b (by rfl)
 unfold Op.equalIn
 simp only [Sem.run_bind, zat Tryz.underlying130, Result.andThen_ok, zln]
 simp [Std.Legacy.Range.forIn_eq_forIn_range', List.range', p0, p1, q0, q1, i1]
 by_cases h1 : a = c <;> by_cases h2 : b = d <;> simp [h1, h2]
theorem znC (x y : Nat × Nat) (a b : Operand) {K : Value → World → Prop} {w : World} (k : K (.bool (decide (x = y))) w) :
  RunV Tryz.prog (do eqGuard .eql 130 a b (.agg (markCells x).toArray) (.agg (markCells y).toArray); binOp .eql 130 (.agg (markCells x).toArray) (.agg (markCells y).toArray)) w K := by
 refine RunV.of ?_ k
 rw [Sem.run_bind, run_eqGuard_agg w .eql 130 a b _ _ (by kernel_rfl), Result.andThen_ok, run_eql_struct]
 have h := zqp (x.1 : Nat) (x.2 : Nat) (y.1 : Nat) (y.2 : Nat) w
 rw [show (10000 : Nat) = 9999 + 1 from rfl]
 show Result.andThen ((Op.equalIn (9999 + 1) 130 (.agg #[.int .i64 ((x.1 : Nat) : Int), .int .i64 ((x.2 : Nat) : Int)]) (.agg #[.int .i64 ((y.1 : Nat) : Int), .int .i64 ((y.2 : Nat) : Int)])).run Tryz.prog w) _ = _
 rw [h]
 obtain ⟨x1, x2⟩ := x
 obtain ⟨y1, y2⟩ := y
 simp [Int.ofNat_inj]
theorem zqQ {w : World} {g : Nat} {l : List (Nat × Nat)} (h : At w g 0 (l.flatMap markCells)) {i : Nat} (hi : i < l.length) : At w g (0 + i * 2) (markCells l[i]) := fun j v hj => by
 have h3 : j < 2 := (List.getElem?_eq_some_iff.1 hj).1
 rw [Nat.add_assoc]
 exact h (i * 2 + j) v ((zgq markCells 2 (fun _ => rfl) l i j _ (List.getElem?_eq_getElem hi) h3).trans hj)
theorem _root_.Go.Vc.Held.agg {P : Program} {S : World → Prop} {t : TypeId} {b o : Nat} (vs : List Value) {K : Value → Prop} (ht : isAggB P t = true) (hu : (P.underlying t).isSome = true) (hs : sizeOfT P t = some vs.length) (h : ∀ w, S w → At w b o vs) (k : K (.agg vs.toArray)) : Held P S t ⟨b, o, none⟩ K :=
 ⟨.agg vs.toArray, fun w hw => by
  obtain ⟨v, h1, h2⟩ := (Load.agg (P := P) (t := t) (K := fun v => v = .agg vs.toArray) vs ht hu hs (h w hw) rfl).h
  rw [h1, h2], k⟩
section
end
def allLen (n : Nat) (ws : List (List UInt8)) : Nat := n + (ws.map (·.length)).sum
theorem ziJ (n : Nat) (ws : List (List UInt8)) (x : List UInt8) : allLen n (ws ++ [x]) = allLen n ws + x.length := by
 unfold allLen; simp; omega
theorem znt (n : Nat) (ws : List (List UInt8)) (B : Nat) (h : ∀ x ∈ ws, x.length ≤ B) : allLen n ws ≤ n + ws.length * B := by
 unfold allLen
 induction ws with
 | nil => simp
 | cons x r ih =>
  have h1 := h x (by simp)
  have h2 := ih fun y hy => h y (by simp [hy])
  simp only [List.map_cons, List.sum_cons, List.length_cons, Nat.add_mul]
  omega
section
variable {w : World}
theorem zmO {v : Value} (s : ByteArray) (ws : List (List UInt8)) (hv : RdO w v ws.length (ws.map sv)) (hl : ws.length ≤ 1000000000000000) (hs : ∀ x ∈ ws, x.length ≤ 140737488355328) (hss : s.size ≤ 140737488355328) :
  Calls Tryz.prog 47 #[.string s, v] w fun e w' => e = .returned (.bool (decide (allLen s.size ws ≤ 800 ∧ ws.length ≤ 20))) ∧ Kp w w' n_ := by
 obtain ⟨a, cap, rfl, hr⟩ := hv
 refine zaa (args := [.string s, .slice a ws.length cap]) Tryz.func47 rfl NL ?_; refine GW ?_
 refine Loop.intro (ι := Nat × Int) (fun i => [(1, .slice a ws.length cap), (5, .int .i64 i.2), (6, .int .i64 (i.1 : Nat))])
  (fun i wr => Kp w wr n_ ∧ i.1 ≤ ws.length ∧ (ws.length ≤ 20 → i.2 = (allLen s.size (ws.take i.1) : Nat))) (fun i => ws.length - i.1) (0, (s.size : Nat)) ⟨rfl, rfl, rfl, trivial⟩
  ⟨Kp.refl _ _, Nat.zero_le _, fun _ => by simp [allLen]⟩ ?_
 rintro ⟨i, n⟩ gg wr ⟨hK, hi, hn⟩
 dsimp only at hi hn ⊢
 refine GW ?_
 by_cases hlt : i < ws.length
 ·obtain ⟨g, o, rfl, hg, hat⟩ := hr (by omega)
  have c1 := zjS (zaG hat hK) hlt
  have hst : ws.take (i + 1) = ws.take i ++ [ws[i]] := List.take_succ_eq_append_getElem hlt
  have hx := hs ws[i] (List.getElem_mem hlt)
  have hal := znt s.size (ws.take i) 140737488355328 fun x hx => hs x (List.mem_of_mem_take hx)
  rw [List.length_take] at hal
  have hsn := ziJ s.size (ws.take i) ws[i]
  rw [← hst] at hsn
  generalize ws[i] = x at *
  have hsz : (str x).size = x.length := zey x
  by_cases h20 : ws.length ≤ 20
  ·have hn2 := hn h20
   have hb : allLen s.size (ws.take i) ≤ 3000000000000000 := by omega
   clear hal
   subst hn2
   refine GO ?_
   exact ⟨(i + 1, _), ⟨rfl, rfl, v_int (by simp), trivial⟩, ⟨hK, by dsimp only; omega, fun _ => by dsimp only; rw [hsn, hsz]; simp⟩, by dsimp only; omega⟩
  ·clear hal
   refine Br.dec_yes (by omega) ?_
   refine GW ?_
   refine Idx.nat (by omega) ?_
   refine GW ?_
   refine Load.one (by rfl) c1 ?_
   refine GW ?_
   refine Num.any (fun x h1 h2 _ => ?_) rfl
   refine GO ?_
   exact ⟨(i + 1, x), ⟨rfl, rfl, v_int (by simp), trivial⟩, ⟨hK, by dsimp only; omega, fun h => (h20 h).elim⟩, by dsimp only; omega⟩
 ·have hie : i = ws.length := by omega
  subst hie
  rw [List.take_length] at hn
  by_cases h20 : ws.length ≤ 20
  ·have hn2 := hn h20
   subst hn2
   by_cases h8 : allLen s.size ws ≤ 800
   ·refine GO ?_
    exact ⟨zal (by rw [decide_eq_decide]; omega), hK⟩
   ·refine GO ?_
    exact ⟨by simp [h8], hK⟩
  ·by_cases h8 : n ≤ 800
   ·refine GO ?_
    exact ⟨zal (by rw [decide_eq_decide]; omega), hK⟩
   ·refine GO ?_
    exact ⟨by simp [h20], hK⟩
end
section
variable {w : World}
theorem mk_ex {v : Value} (s : List UInt8) (ws : List (List UInt8)) (width : Int) (t : List UInt8) (l : List (Nat × Nat)) (he : snipL (soughtL ws) s width = (t, l)) (hw : -9223372036854775808 ≤ width ∧ width ≤ 9223372036854775807) (hv : RdO w v ws.length (ws.map sv)) (hC : CutTab w) (hF : FoldTab w) (hl : ws.length ≤ 1000) (hs : ∀ x ∈ ws, x.length ≤ 10000) (hss : s.length ≤ 10000) :
  Calls Tryz.prog 48 #[.string (str s), v, .int .i64 width] w fun e w' => ∃ mv, e = .returned (.agg #[.string (str t), mv]) ∧ Mks w' w.heap.size mv l ∧ Kp w w' n_ := by
 have h := zmR (w := w) (str s) ws width hw hv hC hF hl hs (by rw [zey]; exact hss)
 rw [L_str, he] at h
 exact h
theorem build_texts2' (a b : ByteArray) (w : World) : (Instr.buildSlice 48 2 [(0, .string a), (1, .string b)].toArray).run Tryz.prog w =
  .ok (.slice (some ⟨w.heap.size, 0, none⟩) 2 2) (w.alloc (.cells #[.string a, .string b] 9)) := by
 simp [Instr.buildSlice, go_sem, Tryz.runUnderlying48]
theorem zit (hC : CutTab w) (hF : FoldTab w) : Calls Tryz.prog 46 #[] w fun e w' => e = .returned (.bool true) ∧ Kp w w' n_ := by
 refine zaa (args := []) Tryz.func46 rfl NL ?_; refine GW ?_
 refine RunV.of (build_texts2' _ _ _) ?_
 have R1 := (zpy w ([[84, 104, 114, 101, 101], [116, 119, 111]].map sv) 9 2 2).toO
 have k1 : Kp w (w.alloc (.cells ([[84, 104, 114, 101, 101], [116, 119, 111]].map sv).toArray 9)) n_ := (Kp.refl _ _).alloc _
 have e1 : w.alloc (.cells #[.string ⟨#[84, 104, 114, 101, 101]⟩, .string ⟨#[116, 119, 111]⟩] 9) = w.alloc (.cells ([[84, 104, 114, 101, 101], [116, 119, 111]].map sv).toArray 9) := rfl
 rw [e1]
 generalize w.alloc (.cells ([[84, 104, 114, 101, 101], [116, 119, 111]].map sv).toArray 9) = w1 at *
 refine GO ?_
 refine CallS.of (Tryz.call48 _ _) (mk_ex (w := w1) [111, 110, 101, 32, 116, 119, 111, 32, 116, 104, 114, 101, 101, 32, 116, 119, 111] [[84, 104, 114, 101, 101], [116, 119, 111]] 9 [116, 119, 111, 32, 116, 104, 114, 101, 101] [(0, 3), (4, 9)] (by decide +kernel) (by omega) R1 (hC.keep k1) (hF.keep k1) (by decide) (by decide) (by decide)) ?_
 rintro e w2 ⟨v1, rfl, hM1, k2⟩
 have K2 := k1.trans0 k2
 obtain ⟨g1, hg1, _, _, hat1⟩ : ∃ g, (∃ c, v1 = .slice (some ⟨g, 0, none⟩) 2 c) ∧ True ∧ True ∧ At w2 g 0 ([(0, 3), (4, 9)].flatMap markCells) := by
  obtain ⟨a, c, rfl⟩ := zab hM1
  obtain ⟨g, rfl, _, _, h⟩ := zfd hM1 (by decide)
  exact ⟨g, ⟨c, rfl⟩, trivial, trivial, h⟩
 obtain ⟨c1, rfl⟩ := hg1
 refine RT ?_
 refine Store.fresh (vs := [.string (str [116, 119, 111, 32, 116, 104, 114, 101, 101]), .slice (some ⟨g1, 0, none⟩) 2 c1]) (by rfl) rfl (by simp [Flat]) ?_
 have va := VarC.new w2 77 [.string (str [116, 119, 111, 32, 116, 104, 114, 101, 101]), .slice (some ⟨g1, 0, none⟩) 2 c1]
 have k3 : Kp w2 (w2.alloc (.cells [Value.string (str [116, 119, 111, 32, 116, 104, 114, 101, 101]), .slice (some ⟨g1, 0, none⟩) 2 c1].toArray 77)) n_ := (Kp.refl _ _).alloc _
 have K3 := K2.trans0 k3
 have hat1 := zaG hat1 k3
 generalize w2.alloc (.cells [Value.string (str [116, 119, 111, 32, 116, 104, 114, 101, 101]), .slice (some ⟨g1, 0, none⟩) 2 c1].toArray 77) = w3 at *
 generalize w2.heap.size = b1 at *
 refine GO ?_
 refine CallS.of (Tryz.call48 _ _) (mk_ex (w := w3) (v := .slice none 0 0) [195, 169, 195, 169, 195, 169] [] 5 [195, 169, 195, 169] [] (by decide +kernel) (by omega) ⟨none, 0, rfl, fun h => by simp at h⟩ (hC.keep K3) (hF.keep K3) (by decide) (by simp) (by decide)) ?_
 rintro e w4 ⟨v2, rfl, hM2, k4⟩
 have K4 := K3.trans0 k4
 have va := va.keep k4 id
 have hat1 := zaG hat1 k4
 obtain ⟨a2, c2, rfl⟩ : ∃ a c, v2 = .slice a 0 c := zab hM2
 refine RT ?_
 refine Store.fresh (vs := [.string (str [195, 169, 195, 169]), .slice a2 0 c2]) (by rfl) rfl (by simp [Flat]) ?_
 have vb := VarC.new w4 77 [.string (str [195, 169, 195, 169]), .slice a2 0 c2]
 have k5 : Kp w4 (w4.alloc (.cells [Value.string (str [195, 169, 195, 169]), .slice a2 0 c2].toArray 77)) n_ := (Kp.refl _ _).alloc _
 have K5 := K4.trans0 k5
 have va := va.keep k5 id
 have hat1 := zaG hat1 k5
 generalize w4.alloc (.cells [Value.string (str [195, 169, 195, 169]), .slice a2 0 c2].toArray 77) = w5 at *
 generalize w4.heap.size = b2 at *
 refine GO ?_
 refine RunV.of (zbM _ _) ?_
 have R3 := (zpy w5 ([[120]].map sv) 9 1 1).toO
 have k6 : Kp w5 (w5.alloc (.cells ([[120]].map sv).toArray 9)) n_ := (Kp.refl _ _).alloc _
 have e3 : w5.alloc (.cells #[.string ⟨#[120]⟩] 9) = w5.alloc (.cells ([[120]].map sv).toArray 9) := rfl
 rw [e3]
 have K6 := K5.trans0 k6
 have va := va.keep k6 id
 have vb := vb.keep k6 id
 have hat1 := zaG hat1 k6
 generalize w5.alloc (.cells ([[120]].map sv).toArray 9) = w6 at *
 refine GO ?_
 refine CallS.of (Tryz.call48 _ _) (mk_ex (w := w6) [97, 44, 32, 98] [[120]] 9 [97, 44, 32, 98] [] (by decide +kernel) (by omega) R3 (hC.keep K6) (hF.keep K6) (by decide) (by decide) (by decide)) ?_
 rintro e w7 ⟨v3, rfl, hM3, k7⟩
 have K7 := K6.trans0 k7
 have va := va.keep k7 id
 have vb := vb.keep k7 id
 have hat1 := zaG hat1 k7
 obtain ⟨a3, c3, rfl⟩ : ∃ a c, v3 = .slice a 0 c := zab hM3
 refine RT ?_
 refine Store.fresh (vs := [.string (str [97, 44, 32, 98]), .slice a3 0 c3]) (by rfl) rfl (by simp [Flat]) ?_
 have vc := VarC.new w7 77 [.string (str [97, 44, 32, 98]), .slice a3 0 c3]
 have k8 : Kp w7 (w7.alloc (.cells [Value.string (str [97, 44, 32, 98]), .slice a3 0 c3].toArray 77)) n_ := (Kp.refl _ _).alloc _
 have K8 := K7.trans0 k8
 have va := va.keep k8 id
 have vb := vb.keep k8 id
 have hat1 := zaG hat1 k8
 generalize w7.alloc (.cells [Value.string (str [97, 44, 32, 98]), .slice a3 0 c3].toArray 77) = w8 at *
 generalize w7.heap.size = b3 at *
 have d1 : w8.cell? ⟨b1, 0, none⟩ = some (.string (str [116, 119, 111, 32, 116, 104, 114, 101, 101])) := va.at 0 _ rfl
 have d2 : w8.cell? ⟨b1, 0 + 1, none⟩ = some (.slice (some ⟨g1, 0, none⟩) 2 c1) := va.at 1 _ rfl
 have d3 : w8.cell? ⟨b2, 0, none⟩ = some (.string (str [195, 169, 195, 169])) := vb.at 0 _ rfl
 have d4 : w8.cell? ⟨b2, 0 + 1, none⟩ = some (.slice a2 0 c2) := vb.at 1 _ rfl
 have d5 : w8.cell? ⟨b3, 0, none⟩ = some (.string (str [97, 44, 32, 98])) := vc.at 0 _ rfl
 have d6 : w8.cell? ⟨b3, 0 + 1, none⟩ = some (.slice a3 0 c3) := vc.at 1 _ rfl
 have m1 := zqQ hat1 (i := 1) (by decide)
 refine LGO ?_
 refine Load.agg (markCells (4, 9)) (by rfl) (by rfl) (by rfl) m1 ?_
 refine LGO ?_
 refine RunV.of (zfW _ _ _) ?_
 refine LGO ?_
 refine znC (4, 9) (4, 9) _ _ ?_
 rw [show decide (((4, 9) : Nat × Nat) = (4, 9)) = true by simp]
 refine LGO ?_
 exact ⟨rfl, K8⟩
end
end Go.Proofs.YtennokckmjcefaaGreatDoor
namespace Go.Proofs.YtennokckmjcefaaGreatDoor
open Go.Shelf Go.RowKit Go.Pw Go.Vc Go.Cs Go.Lib Go.Cd Go.Mg
theorem zlJ {l : List Nat} {i : Nat} (h : i < l.length) : (l.take (i + 1)).sum = (l.take i).sum + l[i] := by
 rw [List.take_succ_eq_append_getElem h, List.sum_append]; simp
theorem znr (l : List Nat) (i : Nat) : (l.take i).sum ≤ l.sum := by
 have h : l.sum = (l.take i ++ l.drop i).sum := by rw [List.take_append_drop]
 rw [List.sum_append] at h
 omega
theorem zlz {w : World} {b : Nat} {u : List UInt8} (h : At w b 0 [.string (str u)]) (hb : b < w.heap.size) : RdO w (.slice (some ⟨b, 0, none⟩) 1 1) [u].length ([u].map Go.Proofs.YtennokckmjcefaaGreatDoor.sv) := ⟨_, 1, rfl, fun _ => ⟨b, 0, rfl, hb, h⟩⟩
section
variable {w : World}
theorem zkt (t u : List UInt8) (ht : t.length ≤ 2000000) (hu : u.length ≤ 2000000) (hE : CEnv w) :
  Calls Tryz.prog 10 #[.string (str t), .string (str u)] w fun e w' => e = .returned (.bool true) ∧ Kp w w' n_ := by
 have hzt : (str t).size = t.length := rfl
 have hzu : (str u).size = u.length := rfl
 refine zaa (args := [.string (str t), .string (str u)]) Tryz.func10 rfl NL ?_; refine GW ?_
 refine KGO ?_
 refine CallS.of (Tryz.call46 _ _) (zit (w := w) hE.c hE.f) ?_
 rintro e w1 ⟨rfl, k1⟩
 refine RT ?_
 refine KGO ?_
 refine CallS.of (Tryz.call25 _ _) (zdu (w := w1) (str u) ((hE.keep k1).c) ((hE.keep k1).f) (by omega)) ?_
 rintro e w2 ⟨v2, rfl, o2, k2⟩
 rw [show listL (L (str u)) = wordsOf u from rfl] at o2
 have o2 := zgC o2
 have K2 := k1.trans0 k2
 have hsk : soughtL [u] = wordsOf u := by unfold soughtL; simp; rfl
 generalize wordsOf u = W at *
 obtain ⟨a2, c2, rfl⟩ := zab o2
 have hcW : CapK (.slice a2 W.length c2) := zcy o2
 refine RT ?_
 refine KGO ?_
 refine CallS.of (Tryz.call16 _ _) (zro (w := w2)) ?_
 rintro e w3 ⟨rfl, hx, k3⟩
 obtain ⟨b, hb⟩ : ∃ b, w2.heap.size = b := ⟨_, rfl⟩
 rw [hb] at hx ⊢
 have K3 := K2.trans0 k3
 have hbw : w.heap.size ≤ b := by have := K2.size; omega
 have hbW : ∀ q, (Value.slice a2 W.length c2).ownBlock = some q → q < b := fun q hq => by have := (o2.lt q hq).2; omega
 have hfp := hx.fp_ge
 have rW3 := zac o2 k3
 clear o2 k1 k2
 refine RT ?_
 refine KGO ?_
 refine RunV.of (zbM _ _) ?_
 obtain ⟨a_b4, v_b4, k_w4, z_w4, r_w4⟩ := new5 w3 9 ([.string (str u)])
 generalize w3.alloc (.cells (List.toArray ([.string (str u)])) 9) = w4 at *
 generalize hs_b4 : w3.heap.size = b4 at *
 have hx4 := hx.keep0 k_w4
 have K4 := K3.trans0 k_w4
 have rW4 := zac rW3 k_w4
 refine KGO ?_
 refine CallS.of (Tryz.call47 _ _) (zmO (w := w4) (str t) [u] (zlz a_b4 v_b4.lt) (by simp) (fun x hx => by rw [List.mem_singleton.1 hx]; omega) (by omega)) ?_
 rintro e w5 ⟨rfl, k5⟩
 have hx5 := hx4.keep0 k5
 have K5 := K4.trans0 k5
 have rW5 := zac rW4 k5
 have hfe : allLen (str t).size [u] = t.length + u.length := by unfold allLen; simp; omega
 rw [hfe]
 refine RT ?_
 by_cases hfw : t.length + u.length ≤ 800 ∧ [u].length ≤ 20
 rotate_left
 ·rw [decide_eq_false hfw]
  refine KGO ?_
  exact ⟨rfl, K5⟩
 rw [decide_eq_true hfw]
 obtain ⟨h800, _⟩ := hfw
 by_cases hW1 : W.length = 1
 rotate_left
 ·refine KGO ?_
  exact ⟨rfl, K5⟩
 obtain ⟨w0, rfl⟩ : ∃ w0, W = [w0] := List.length_eq_one_iff.1 hW1
 have B5 : Bs w w5 b ⟨none, 0, 0⟩ ⟨none, 0, 0⟩ [] := ⟨K5, fun q e => by have := hx.fp_ge q e; omega, hE⟩
 clear hx hx4 K3 K4 k_w4 k5 rW3 rW4 k3
 refine KGO ?_
 obtain ⟨a_b8, v_b8, k_w6, z_w6, r_w6⟩ := new5 w5 32 ([.string ⟨#[]⟩, .string ⟨#[]⟩, .string ⟨#[]⟩, .string ⟨#[]⟩, .string ⟨#[]⟩, .string ⟨#[]⟩])
 generalize w5.alloc (.cells (List.toArray ([.string ⟨#[]⟩, .string ⟨#[]⟩, .string ⟨#[]⟩, .string ⟨#[]⟩, .string ⟨#[]⟩, .string ⟨#[]⟩])) 32) = w6 at *
 generalize hs_b8 : w5.heap.size = b8 at *
 have hx6 := hx5.keep0 k_w6
 have B6 := B5.keep k_w6
 refine KGO ?_
 refine Store.cellK (i := 4) v_b8 (by simp) (by rfl) ⟨rfl, by simp, by simp⟩ fun w7 v7 k7 => ?_
 have K7 : Kp w5 w7 n_ := zah k_w6 k7 (by omega)
 have hx7 := hx5.keep0 K7
 have B7 := B5.keep K7
 have rW7 := zac rW5 K7
 have a8 : At w7 b8 0 [.string (str []), .string (str []), .string (str []), .string (str []), .string (str t), .string (str [])] := v7.at
 have q7 := Kp.refl w7 n_
 clear hx5 hx6 B5 B6 rW5 v7 k7 v_b8 a_b8 k_w6
 refine KGO ?_
 have hL6 : lenX [[], [], [], [], t, []] = t.length := by unfold lenX; simp
 refine CallS.of (Tryz.call24 _ _) (zrx (w := w7) hx7 (Iw.empty.b (by omega) (by omega)) B7 1 [] [] [] [] t [] (by rw [hL6]; omega) (by omega)) ?_
 rintro e w8 ⟨rfl, sv, dv, l, h8, M8⟩
 have B8 := B7.mut M8
 have htx : ∀ s ∈ ([[], [], [], [], t, []] : List (List UInt8)), s.length ≤ 1000000000 := fun s hs => by have := zgU (tx := [[], [], [], [], t, []]) rfl s hs; omega
 obtain ⟨h0, hR⟩ := zqM htx
 have hI := Iw.empty.add (doc := 1) (tx := [[], [], [], [], t, []]) rfl (by rw [hL6]; omega)
 rw [hL6] at hI
 have rW8 := zaj rW7 M8.k fun q hq e => by have := hfp q e; have := hbW q hq; omega
 rw [h0]
 have hwt := zbb t
 generalize (addX emptyX 1 [[], [], [], [], t, []]).2 = x at *
 have hps := zkB hR (f := 4) (by omega) w0 (show (wordsOf t).length ≤ 1000000 by omega)
 have hph := zkX hR (f := 4) (by omega) w0 (fun g hg hne => by
  have : g = 1 ∨ g = 2 ∨ g = 3 ∨ g = 5 := by omega
  rcases this with rfl | rfl | rfl | rfl <;> rfl)
 rw [show ([[], [], [], [], t, []] : List (List UInt8)).getD (4 : Int).toNat [] = t from rfl] at hps hph
 have hcl : (wordsOf t).count w0 ≤ (wordsOf t).length := List.count_le_length
 clear hx7 B7 M8 rW7 h0 htx a8 q7 hfp hbW hR
 refine RT ?_
 refine KGO ?_
 have rr8 : RowO w8 (.slice a2 [w0].length c2) txC [w0] := zaw rW8
 obtain ⟨_, _, e1, hr8⟩ := rr8
 injection e1 with e1 _ _
 subst e1
 obtain ⟨gw, ow, rfl, hgw, hat2⟩ := hr8 (by simp)
 have c0 : w8.cell? ⟨gw, ow + 0, none⟩ = some (.string (str w0)) := zpw (i := 0) hat2 (by simp)
 have c0' : w8.cell? ⟨gw, ow, none⟩ = some (.string (str w0)) := c0
 have q8 := Kp.refl w8 n_
 refine KGO ?_
 refine CallS.of (Tryz.call19 _ _) (ziv (w := w8) h8 (hI.b (by omega) (by omega)) B8.env 4 w0) ?_
 rintro e w9 ⟨v9, rfl, o9, k9⟩
 have hll := (zhR hI.ok hI.wt 4 (eqW w0)).1
 generalize lookX x 4 (eqW w0) = LL at *
 obtain ⟨lb, hlb, ob⟩ := o9
 have hbl : lb.length = LL.length := by rw [← hlb, List.length_map]
 have hsum : LL.map (fun p => p.places.length) = lb.map (fun y => y.p.places.length) := by rw [← hlb, List.map_map]; rfl
 rw [hsum] at hps
 have h9 := h8.keep0 k9
 have B9 := B8.keep k9
 have rW9 := zac rW8 k9
 have hpl := ob.rd.pl
 obtain ⟨a9, c9, e9, hr9⟩ := zaw ob.row
 subst e9
 clear h8 B8 rW8 k9 ob c0 c0' q8 hr8 hat2
 refine RT ?_
 refine KGO ?_
 refine Loop.intro (ι := Nat) (fun i => [(0, .string (str t)), (1, .string (str u)), (5, .bool true), (6, .slice (some ⟨gw, ow, none⟩) [w0].length c2), (7, .pointer (some ⟨b, 0, none⟩)), (9, .slice a9 lb.length c9), (10, .int .i64 (((lb.map fun y => y.p.places.length).take i).sum : Nat)), (11, .int .i64 (i : Nat))])
  (fun i wr => Kp w9 wr n_ ∧ i ≤ lb.length) (fun i => lb.length - i) 0 ⟨rfl, rfl, rfl, rfl, rfl, rfl, rfl, rfl, trivial⟩ ⟨Kp.refl _ _, Nat.zero_le _⟩ ?_
 rintro i gi wr ⟨hK, hi⟩
 have hsl := znr (lb.map fun y => y.p.places.length) i
 refine GW ?_
 by_cases hlt : i < lb.length
 ·obtain ⟨gb, o, rfl, hgb, hat⟩ := hr9 (by omega)
  have hat := zam hat hK
  have hst := zlJ (l := lb.map fun y => y.p.places.length) (i := i) (by simpa using hlt)
  rw [List.getElem_map] at hst
  have hsl2 := znr (lb.map fun y => y.p.places.length) (i + 1)
  have hln : lb[i].h.n = lb[i].p.places.length := RowO.len (hpl lb[i] (List.getElem_mem hlt))
  have qr := Kp.refl wr n_
  refine KGO ?_
  exact ⟨i + 1, ⟨rfl, rfl, rfl, rfl, rfl, rfl, v_int (by rw [hst, hln]; omega), v_int (by simp), trivial⟩, ⟨hK, by omega⟩, by dsimp only; omega⟩
 obtain rfl : i = lb.length := by omega
 have hn : ((lb.map fun y => y.p.places.length).take lb.length).sum = (wordsOf t).count w0 := by rw [List.take_of_length_le (by simp), hps]
 rw [hn]
 have h10 := h9.keep0 hK
 have B10 := B9.keep hK
 have rW10 := zac rW9 hK
 clear hr9 h9 B9 rW9 hpl hps hsum hlb hn hsl
 refine KGO ?_
 refine RunV.of (zbM _ _) ?_
 obtain ⟨a_b11, v_b11, k_w11, z_w11, r_w11⟩ := new5 wr 9 ([.string (str u)])
 generalize wr.alloc (.cells (List.toArray ([.string (str u)])) 9) = w11 at *
 generalize hs_b11 : wr.heap.size = b11 at *
 have h11 := h10.keep0 k_w11
 have B11 := B10.keep k_w11
 have rW11 := zac rW10 k_w11
 refine KGO ?_
 refine CallS.of (Tryz.call48 _ _) (zmR (w := w11) (str t) [u] ((str t).size : Nat) (by omega) (zlz a_b11 v_b11.lt) B11.env.c B11.env.f (by simp) (fun x hx => by rw [List.mem_singleton.1 hx]; omega) (by omega)) ?_
 rintro e w12 ⟨mv, rfl, om, k12⟩
 have hall := zok (soughtL [u]) (L (str t)) ((str t).size : Nat) (by rw [L_len]; exact Int.le_refl _)
 rw [hsk, zpV] at hall
 rw [hsk] at om ⊢
 have hall : (snipL [w0] (L (str t)) ((str t).size : Nat)).2.length = (wordsOf t).count w0 := hall
 generalize snipL [w0] (L (str t)) ((str t).size : Nat) = SN at *
 obtain ⟨st, ml⟩ := SN
 dsimp only at om hall ⊢
 obtain ⟨am, cm, rfl⟩ := zab om
 have h12 := h11.keep0 k12
 have B12 := B11.keep k12
 have rW12 := zac rW11 k12
 clear h10 B10 rW10 h11 B11 rW11 om k12
 refine RT ?_
 refine KGO ?_
 refine Store.fresh (vs := [.string (str st), .slice am ml.length cm]) (by rfl) rfl (zax (by rfl)) ?_
 obtain ⟨a_b13, k_w13, z_w13⟩ := new3 w12 77 ([.string (str st), .slice am ml.length cm])
 generalize w12.alloc (.cells (List.toArray ([.string (str st), .slice am ml.length cm])) 77) = w13 at *
 generalize hs_b13 : w12.heap.size = b13 at *
 have h13 := h12.keep0 k_w13
 have B13 := B12.keep k_w13
 have rW13 := zac rW12 k_w13
 have q13 := Kp.refl w13 n_
 have hml : ml.length = (wordsOf t).count w0 := hall
 rw [← hml] at hph ⊢
 refine KGO ?_
 refine CallS.of (Tryz.call37 _ _) (znz (w := w13) h13 (hI.b (by omega) (by omega)) B13.env (znW hI (by omega)) 0 [w0] (zaw rW13) hcW (by simp)) ?_
 rintro e w14 ⟨v14, rfl, o14, k14⟩
 generalize phraseX x 0 [w0] = P at *
 obtain ⟨a14, c14, rfl⟩ := zab o14
 refine RT ?_
 by_cases hpos : 0 < ml.length
 ·rw [if_pos hpos] at hph
  refine KGO ?_
  exact ⟨zal (by rw [hph, decide_eq_true (show ((ml.length : Nat) : Int) > 0 by omega)]; rfl), B13.K.trans0 k14⟩
 ·rw [if_neg hpos] at hph
  refine KGO ?_
  exact ⟨zal (by rw [hph, decide_eq_false (show ¬ ((ml.length : Nat) : Int) > 0 by omega)]; rfl), B13.K.trans0 k14⟩
end
end Go.Proofs.YtennokckmjcefaaGreatDoor
