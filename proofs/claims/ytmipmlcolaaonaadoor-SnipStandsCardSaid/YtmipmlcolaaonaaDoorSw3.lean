/- Helper text of this claim: Sw3: lemmas and contracts that the proved statement rests on; no conditions of its own. -/
import Derived.Test.YtmipmlcolaaonaaDoorGsw
import Derived.Test.YtmipmlcolaaonaaDoorWcz
-- alias Tryd
namespace Go.Proofs.YtmipmlcolaaonaaDoor
open Go.RowKit Go.Pw Go.Vc Go.Cs Go.Lib
set_option linter.unusedVariables false
set_option maxRecDepth 100000
section
variable {w : World}
/-- The window as it stands: none yet, or the first of the best. -/
def winCells (ks : List (List UInt8)) (l : List Wd) (width : Int) : Option Nat → List Value
  | none => [.int .i64 0, .int .i64 0, .int .i64 0]
  | some f => [.int .i64 (f : Nat), .int .i64 (winE l width f : Nat), .int .i64 (showsL ks (winW l width f) : Nat)]
theorem fits_side (l : List Wd) (i j : Nat) (hj : j ≤ l.length) : i + 1 < l.length ∨ j ≤ i + 1 := by omega
theorem winCells_some (ks : List (List UInt8)) (l : List Wd) (width : Int) (f : Nat) : winCells ks l width (some f) = [.int .i64 (f : Nat), .int .i64 (winE l width f : Nat), .int .i64 (showsL ks (winW l width f) : Nat)] := rfl
theorem winCells_len (ks : List (List UInt8)) (l : List Wd) (width : Int) (o : Option Nat) : (winCells ks l width o).length = 3 := by cases o <;> rfl
theorem winCells_flat (ks : List (List UInt8)) (l : List Wd) (width : Int) (o : Option Nat) : ∀ v ∈ winCells ks l width o, Flat v := by
  intro v hv
  cases o <;> (simp only [winCells, List.mem_cons, List.not_mem_nil, or_false] at hv; rcases hv with rfl | rfl | rfl <;> trivial)
theorem shows_len (ks : List (List UInt8)) (ws : List Wd) : showsL ks ws ≤ ws.length := by
  unfold showsL
  have key : ∀ (ws : List Wd) (seen : List (List UInt8)), (seenL ks ws seen).length ≤ seen.length + ws.length := by
    intro ws
    induction ws with
    | nil => intro seen; simp [seenL]
    | cons x r ih =>
      intro seen
      rw [seenL]
      have := ih (if x.1 ∈ ks ∧ ¬ x.1 ∈ seen then seen ++ [x.1] else seen)
      have h2 : (if x.1 ∈ ks ∧ ¬ x.1 ∈ seen then seen ++ [x.1] else seen).length ≤ seen.length + 1 := by split <;> simp
      simp only [List.length_cons]; omega
  have := key ws []
  simpa using this
/-- The state of best. -/
structure BSt (ks : List (List UInt8)) (l : List Wd) (width : Int) (w0 w : World) (bf : Option Nat) (mm : SM) : Prop where
  k : Keeps w0 w none_
  v6 : VarC w w0.heap.size 93 [.int .i64 0, .int .i64 0, .int .i64 0]
  v8 : VarC w (w0.heap.size + 1) 93 (winCells ks l width bf)
  mp : SMap w (w0.heap.size + 2) mm
section
variable {ks : List (List UInt8)} {l : List Wd} {width : Int} {w0 w w' : World} {bf bf' : Option Nat} {mm m' : SM}
theorem BSt.keep (h : BSt ks l width w0 w bf mm) (k : Keeps w w' none_) : BSt ks l width w0 w' bf mm := ⟨h.k.trans0 k, h.v6.keep k id, h.v8.keep k id, h.mp.keep k id⟩
theorem BSt.map (h : BSt ks l width w0 w bf mm) (hm : SMap w' (w0.heap.size + 2) m') (k : Keeps w w' (one_ (w0.heap.size + 2))) : BSt ks l width w0 w' bf m' :=
  ⟨h.k.trans k fun i hi e => by
    have e : i = w0.heap.size + 2 := e
    omega, h.v6.keep k (fun e => by have e : w0.heap.size = w0.heap.size + 2 := e; omega), h.v8.keep k (fun e => by have e : w0.heap.size + 1 = w0.heap.size + 2 := e; omega), hm⟩
theorem BSt.win (h : BSt ks l width w0 w bf mm) (hv : VarC w' (w0.heap.size + 1) 93 (winCells ks l width bf')) (k : Keeps w w' (one_ (w0.heap.size + 1))) : BSt ks l width w0 w' bf' mm :=
  ⟨h.k.trans k fun i hi e => by
    have e : i = w0.heap.size + 1 := e
    omega, h.v6.keep k (fun e => by have e : w0.heap.size = w0.heap.size + 1 := e; omega), hv, h.mp.keep k (fun e => by have e : w0.heap.size + 2 = w0.heap.size + 1 := e; omega)⟩
end
set_option maxHeartbeats 8000000 in
theorem sn_best {v : Value} {b N : Nat} {m : SM} (l : List Wd) (ks : List (List UInt8)) (width : Int) (hw : -9223372036854775808 ≤ width ∧ width ≤ 9223372036854775807) (hv : Rd w v l.length (l.flatMap wordCells)) (hm : SMap w b m) (hset : SetOf ks m)
    (ho : InOrder l N) (hN : N ≤ 100000000) (hl : l.length ≤ 100000000) :
    Calls Tryd.prog 80 #[v, .map (some b), .int .i64 width] w fun e w' => ∃ x y z, e = .returned (.tuple #[.agg #[.int .i64 x, .int .i64 y, .int .i64 z], .bool (bestN ks l width l.length).isSome]) ∧
      (∀ f, bestN ks l width l.length = some f → x = (f : Nat) ∧ y = (winE l width f : Nat)) ∧ Keeps w w' none_ := by
  obtain ⟨a, cap, rfl, hr⟩ := hv
  refine calls_of_vc (args := [.slice a l.length cap, .map (some b), .int .i64 width]) Tryd.func80 rfl (Nat.le_of_ble_eq_true rfl) ?_; refine Sat.go hmix ?_; conv => whnf
  have v6 := VarC.new w 93 [.int .i64 0, .int .i64 0, .int .i64 0]
  have k6 : Keeps w (w.alloc (.cells [Value.int .i64 0, .int .i64 0, .int .i64 0].toArray 93)) none_ := (Keeps.refl _ _).alloc _
  have z6 : (w.alloc (.cells [Value.int .i64 0, .int .i64 0, .int .i64 0].toArray 93)).heap.size = w.heap.size + 1 := by simp
  have eq6 : w.alloc (.cells #[Value.int .i64 0, .int .i64 0, .int .i64 0] 93) = w.alloc (.cells [Value.int .i64 0, .int .i64 0, .int .i64 0].toArray 93) := rfl
  rw [eq6]
  generalize w.alloc (.cells [Value.int .i64 0, .int .i64 0, .int .i64 0].toArray 93) = w1 at *
  refine RunV.of (build_win0 _) ?_
  (first | refine Then.go hmix ?_ | refine Sat.go hmix ?_ | refine ResK.go ?_ | skip); conv => whnf
  refine Store.fresh (vs := [.int .i64 0, .int .i64 0, .int .i64 0]) (by rfl) rfl (by simp [Flat]) ?_
  have v8 := VarC.new w1 93 [.int .i64 0, .int .i64 0, .int .i64 0]
  have k8 : Keeps w1 (w1.alloc (.cells [Value.int .i64 0, .int .i64 0, .int .i64 0].toArray 93)) none_ := (Keeps.refl _ _).alloc _
  have z8 : (w1.alloc (.cells [Value.int .i64 0, .int .i64 0, .int .i64 0].toArray 93)).heap.size = w.heap.size + 2 := by simp [z6]
  generalize w1.alloc (.cells [Value.int .i64 0, .int .i64 0, .int .i64 0].toArray 93) = w2 at *
  (first | refine Then.go hmix ?_ | refine Sat.go hmix ?_ | refine ResK.go ?_ | skip); conv => whnf
  refine RunV.newMap rfl ?_
  have hm10 := SMap.new w2
  have k10 : Keeps w2 (w2.alloc (.map #[] 0)) none_ := (Keeps.refl _ _).alloc _
  generalize w2.alloc (.map #[] 0) = w3 at *
  rw [z6, z8] at *
  have hB0 : BSt ks l width w w3 none [] := ⟨(k6.trans0 k8).trans0 k10, (v6.keep k8 id).keep k10 id, v8.keep k10 id, hm10⟩
  refine GO ?_
  refine Loop.intro (ι := Nat × Nat × SM × Option Nat) (fun i => [(0, .slice a l.length cap), (1, .map (some b)), (2, .int .i64 width), (6, .pointer (some ⟨w.heap.size, 0, none⟩)), (8, .pointer (some ⟨w.heap.size + 1, 0, none⟩)), (9, .bool i.2.2.2.isSome), (10, .map (some (w.heap.size + 2))), (11, .int .i64 (i.2.1 : Nat)), (17, .slice a l.length cap), (18, .int .i64 (l.length : Nat)), (19, .int .i64 (i.1 : Nat))])
    (fun i wr => BSt ks l width w wr i.2.2.2 i.2.2.1 ∧ i.1 ≤ i.2.1 ∧ i.2.1 ≤ l.length ∧ CntOf ks (cutW l i.1 i.2.1) i.2.2.1 ∧ Fits l width i.1 i.2.1 ∧ bestN ks l width i.1 = i.2.2.2) (fun i => l.length - i.1) (0, 0, [], none)
    ⟨rfl, rfl, rfl, rfl, rfl, rfl, rfl, rfl, rfl, rfl, rfl, trivial⟩ ⟨hB0, Nat.le_refl _, Nat.zero_le _, CntOf.nil ks, fun k h1 h2 => by dsimp only at h1 h2; omega, rfl⟩ ?_
  rintro ⟨i, j0, m0, bf⟩ gg wr ⟨hB, hij0, hj0, hcnt0, hfit0, hbest⟩
  dsimp only at hB hij0 hj0 hcnt0 hfit0 hbest ⊢
  (first | refine Then.go hmix ?_ | refine Sat.go hmix ?_ | refine ResK.go ?_ | skip); conv => whnf
  by_cases hlt : i < l.length
  · obtain ⟨g, rfl, hg, hat⟩ := hr (by omega)
    have ci := at_word (at_keep hat hB.k) hlt
    have hoi := ho.each i hlt
    have hfi : fromOf l i = l[i].2.1 := by unfold fromOf; rw [List.getD_eq_getElem?_getD, List.getElem?_eq_getElem hlt]; rfl
    refine GO ?_
    refine Load.agg (wordCells l[i]) (by rfl) (by rfl) (by rfl) ci ?_
    refine GO ?_
    refine Store.fresh (vs := wordCells l[i]) (by rfl) rfl (wordFlat _) ?_
    have vw := VarC.new wr 41 (wordCells l[i])
    have kw : Keeps wr (wr.alloc (.cells (wordCells l[i]).toArray 41)) none_ := (Keeps.refl _ _).alloc _
    have hBw := hB.keep kw
    generalize wr.alloc (.cells (wordCells l[i]).toArray 41) = wA at *
    generalize hbw : wr.heap.size = bw at *
    refine GO ?_
    refine Loop.intro (ι := Nat × SM) (fun k => [(0, .slice (some ⟨g, 0, none⟩) l.length cap), (1, .map (some b)), (2, .int .i64 width), (6, .pointer (some ⟨w.heap.size, 0, none⟩)), (8, .pointer (some ⟨w.heap.size + 1, 0, none⟩)), (9, .bool bf.isSome), (10, .map (some (w.heap.size + 2))), (11, .int .i64 (k.1 : Nat)), (12, .int .i64 (i : Nat)), (13, .pointer (some ⟨bw, 0, none⟩)), (17, .slice (some ⟨g, 0, none⟩) l.length cap), (18, .int .i64 (l.length : Nat)), (19, .int .i64 (i : Nat))])
      (fun k w1 => BSt ks l width w w1 bf k.2 ∧ i ≤ k.1 ∧ k.1 ≤ l.length ∧ CntOf ks (cutW l i k.1) k.2 ∧ Fits l width i k.1 ∧ VarC w1 bw 41 (wordCells l[i])) (fun k => l.length - k.1) (j0, m0)
      ⟨rfl, rfl, rfl, rfl, rfl, rfl, rfl, rfl, rfl, rfl, rfl, rfl, rfl, trivial⟩ ⟨hBw, hij0, hj0, hcnt0, hfit0, vw⟩ ?_
    rintro ⟨j, m1⟩ g4 w1 ⟨hB1, hij, hj, hcnt1, hfit, vw1⟩
    dsimp only at hB1 hij hj hcnt1 hfit ⊢
    clear hcnt0 hfit0 hBw
    (first | refine Then.go hmix ?_ | refine Sat.go hmix ?_ | refine ResK.go ?_ | skip); conv => whnf
    by_cases hlt2 : j < l.length
    · have cj := at_word (at_keep hat hB1.k) hlt2
      have hoj := ho.each j hlt2
      have htj : toOf l j = l[j].2.2 := by unfold toOf; rw [List.getD_eq_getElem?_getD, List.getElem?_eq_getElem hlt2]; rfl
      have d1 : w1.drew.cell? ⟨g, 0 + j * 3 + 2, none⟩ = some (.int .i64 (l[j].2.2 : Nat)) := cj 2 _ rfl
      have d2 : w1.drew.cell? ⟨bw, 0 + 1, none⟩ = some (.int .i64 (l[i].2.1 : Nat)) := vw1.at 1 _ rfl
      have hB1 := hB1.keep ((Keeps.refl w1 none_).drew)
      have vw1 := vw1.keep ((Keeps.refl w1 none_).drew) id
      have d0 : w1.drew.cell? ⟨g, 0 + j * 3, none⟩ = some (.string (str l[j].1)) := cj 0 _ rfl
      by_cases hft : ((l[j].2.2 : Nat) : Int) - ((l[i].2.1 : Nat) : Int) ≤ width
      · have hmb := hm.keep hB1.k id
        have hfit2 : Fits l width i (j + 1) := fun k h1 h2 => by
          rcases (show k < j ∨ k = j by omega) with h3 | h3
          · exact hfit k h1 h3
          · subst h3; rw [htj, hfi]; exact hft
        have hsn := cutW_snoc l i j hij hlt2
        refine GO ?_
        refine RunV.look Tryd.underlying90 Tryd.underlying9 (zero_bool _) hmb _ ?_
        rw [hset l[j].1]
        by_cases hk : l[j].1 ∈ ks
        · rw [if_pos hk]
          refine GO ?_
          refine RunV.look Tryd.underlying116 Tryd.underlying9 (zero_int _) hB1.mp _ ?_
          rw [hcnt1.look]
          have hcl := cnt_le ks (cutW l i j) l[j].1
          rw [cutW_len l i j hj] at hcl
          refine GO ?_
          rw [show ((cnt ks (cutW l i j) l[j].1 : Nat) : Int) + 1 = ((cnt ks (cutW l i j) l[j].1 + 1 : Nat) : Int) by omega]
          refine RunU.upd Tryd.underlying116 Tryd.underlying9 hB1.mp (str l[j].1) _ fun w6 hm6 k6' => ?_
          refine GO ?_
          exact ⟨(j + 1, _), ⟨rfl, rfl, rfl, rfl, rfl, rfl, rfl, v_int (by simp), rfl, rfl, rfl, rfl, rfl, trivial⟩, ⟨hB1.map hm6 k6', by dsimp only; omega, by dsimp only; omega, by dsimp only; rw [hsn]; exact hcnt1.add _ hk, hfit2, vw1.keep k6' (by intro e; have e : bw = w.heap.size + 2 := e; have := hB.mp.lt; omega)⟩, by dsimp only; omega⟩
        · rw [if_neg hk]
          refine GO ?_
          exact ⟨(j + 1, m1), ⟨rfl, rfl, rfl, rfl, rfl, rfl, rfl, v_int (by simp), rfl, rfl, rfl, rfl, rfl, trivial⟩, ⟨hB1, by dsimp only; omega, by dsimp only; omega, by dsimp only; rw [hsn]; exact hcnt1.skip _ hk, hfit2, vw1⟩, by dsimp only; omega⟩
      · have hE : winE l width i = j := winE_of l width i j hij hj hfit (fun _ => by rw [htj, hfi]; exact hft)
        have hE2 : winW l width i = cutW l i j := by unfold winW cutW; rw [hE]
        by_cases hgt : i < j
        · have hcutc := cutW_cons l i j hgt hj
          have hcle := cnt_le ks (cutW l i j) l[i].1
          rw [cutW_len l i j hj] at hcle
          have cw1 := vw1.at 0 _ rfl
          have hsl := shows_len ks (cutW l i j)
          rw [cutW_len l i j hj] at hsl
          cases hbf : bf with
          | none =>
            subst hbf
            have hbn : bestN ks l width (i + 1) = some i := by rw [bestN, hbest]; dsimp only; rw [if_pos (by omega)]
            refine GO ?_
            refine RunN.mapLen Tryd.underlying116 hB1.mp ?_
            refine GO ?_
            refine RunV.of (build_win _ _ _ _) ?_
            refine GO ?_
            rw [hcnt1.len]
            have hwc : (Value.agg #[.int .i64 (i : Nat), .int .i64 (j : Nat), .int .i64 (showsL ks (cutW l i j) : Nat)]) = .agg (winCells ks l width (some i)).toArray := by rw [winCells_some, hE2, hE]
            rw [hwc]
            refine Store.var (winCells ks l width (some i)) hB1.v8 (by rfl) (by rw [winCells_len, winCells_len]) (winCells_flat _ _ _ _) fun w5 v5 k5 => ?_
            have hB2 := hB1.win v5 k5
            have hcnt2 := hcnt1
            have vw2 := vw1.keep k5 (by intro e; have e : bw = w.heap.size + 1 := e; have := hB.mp.lt; omega)
            have cw2 := vw2.at 0 _ rfl
            refine GO ?_
            refine RunV.look Tryd.underlying116 Tryd.underlying9 (zero_int _) hB2.mp _ ?_
            rw [hcnt2.look]
            refine GO ?_
            rw [hcutc] at hcnt2
            by_cases h1c : 1 < cnt ks (l[i] :: cutW l (i + 1) j) l[i].1
            · have h1c2 : 1 < cnt ks (cutW l i j) l[i].1 := by rw [hcutc]; exact h1c
              refine GO ?_
              rw [show ((cnt ks (cutW l i j) l[i].1 : Nat) : Int) - 1 = ((cnt ks (l[i] :: cutW l (i + 1) j) l[i].1 - 1 : Nat) : Int) by rw [hcutc]; omega]
              refine RunU.upd Tryd.underlying116 Tryd.underlying9 hB2.mp (str l[i].1) _ fun w6 hm6 k6 => ?_
              refine GO ?_
              exact ⟨(i + 1, j, _, (some i)), ⟨rfl, rfl, rfl, rfl, rfl, rfl, rfl, rfl, rfl, rfl, v_int (by simp), trivial⟩, ⟨hB2.map hm6 k6, by dsimp only; omega, hj, hcnt2.less h1c, fits_next ho (fits_side l i j hj) hfit, hbn⟩, by dsimp only; omega⟩
            · have h1c2 : ¬ 1 < cnt ks (cutW l i j) l[i].1 := by rw [hcutc]; exact h1c
              refine GO ?_
              refine RunN.mapDel Tryd.underlying116 Tryd.underlying9 hB2.mp (str l[i].1) fun w6 hm6 k6 => ?_
              refine GO ?_
              exact ⟨(i + 1, j, _, (some i)), ⟨rfl, rfl, rfl, rfl, rfl, rfl, rfl, rfl, rfl, rfl, v_int (by simp), trivial⟩, ⟨hB2.map hm6 k6, by dsimp only; omega, hj, hcnt2.drop h1c, fits_next ho (fits_side l i j hj) hfit, hbn⟩, by dsimp only; omega⟩
          | some f =>
            subst hbf
            have hB1v := hB1.v8.at 2 _ rfl
            refine GO ?_
            refine RunN.mapLen Tryd.underlying116 hB1.mp ?_
            rw [hcnt1.len]
            by_cases hgr : showsL ks (winW l width f) < showsL ks (cutW l i j)
            · have hbn : bestN ks l width (i + 1) = some i := by rw [bestN, hbest]; dsimp only; rw [if_pos ⟨by omega, by rw [hE2]; exact hgr⟩]
              refine GO ?_
              refine RunN.mapLen Tryd.underlying116 hB1.mp ?_
              refine GO ?_
              refine RunV.of (build_win _ _ _ _) ?_
              refine GO ?_
              rw [hcnt1.len]
              have hwc : (Value.agg #[.int .i64 (i : Nat), .int .i64 (j : Nat), .int .i64 (showsL ks (cutW l i j) : Nat)]) = .agg (winCells ks l width (some i)).toArray := by rw [winCells_some, hE2, hE]
              rw [hwc]
              refine Store.var (winCells ks l width (some i)) hB1.v8 (by rfl) (by rw [winCells_len, winCells_len]) (winCells_flat _ _ _ _) fun w5 v5 k5 => ?_
              have hB2 := hB1.win v5 k5
              have hcnt2 := hcnt1
              have vw2 := vw1.keep k5 (by intro e; have e : bw = w.heap.size + 1 := e; have := hB.mp.lt; omega)
              have cw2 := vw2.at 0 _ rfl
              refine GO ?_
              refine RunV.look Tryd.underlying116 Tryd.underlying9 (zero_int _) hB2.mp _ ?_
              rw [hcnt2.look]
              refine GO ?_
              rw [hcutc] at hcnt2
              by_cases h1c : 1 < cnt ks (l[i] :: cutW l (i + 1) j) l[i].1
              · have h1c2 : 1 < cnt ks (cutW l i j) l[i].1 := by rw [hcutc]; exact h1c
                refine GO ?_
                rw [show ((cnt ks (cutW l i j) l[i].1 : Nat) : Int) - 1 = ((cnt ks (l[i] :: cutW l (i + 1) j) l[i].1 - 1 : Nat) : Int) by rw [hcutc]; omega]
                refine RunU.upd Tryd.underlying116 Tryd.underlying9 hB2.mp (str l[i].1) _ fun w6 hm6 k6 => ?_
                refine GO ?_
                exact ⟨(i + 1, j, _, (some i)), ⟨rfl, rfl, rfl, rfl, rfl, rfl, rfl, rfl, rfl, rfl, v_int (by simp), trivial⟩, ⟨hB2.map hm6 k6, by dsimp only; omega, hj, hcnt2.less h1c, fits_next ho (fits_side l i j hj) hfit, hbn⟩, by dsimp only; omega⟩
              · have h1c2 : ¬ 1 < cnt ks (cutW l i j) l[i].1 := by rw [hcutc]; exact h1c
                refine GO ?_
                refine RunN.mapDel Tryd.underlying116 Tryd.underlying9 hB2.mp (str l[i].1) fun w6 hm6 k6 => ?_
                refine GO ?_
                exact ⟨(i + 1, j, _, (some i)), ⟨rfl, rfl, rfl, rfl, rfl, rfl, rfl, rfl, rfl, rfl, v_int (by simp), trivial⟩, ⟨hB2.map hm6 k6, by dsimp only; omega, hj, hcnt2.drop h1c, fits_next ho (fits_side l i j hj) hfit, hbn⟩, by dsimp only; omega⟩
            · have hbn : bestN ks l width (i + 1) = some f := by rw [bestN, hbest]; dsimp only; rw [if_neg (fun h => hgr (by rw [← hE2]; exact h.2))]
              have hB2 := hB1
              have hcnt2 := hcnt1
              have cw2 := cw1
              refine GO ?_
              refine GO ?_
              refine RunV.look Tryd.underlying116 Tryd.underlying9 (zero_int _) hB2.mp _ ?_
              rw [hcnt2.look]
              refine GO ?_
              rw [hcutc] at hcnt2
              by_cases h1c : 1 < cnt ks (l[i] :: cutW l (i + 1) j) l[i].1
              · have h1c2 : 1 < cnt ks (cutW l i j) l[i].1 := by rw [hcutc]; exact h1c
                refine GO ?_
                rw [show ((cnt ks (cutW l i j) l[i].1 : Nat) : Int) - 1 = ((cnt ks (l[i] :: cutW l (i + 1) j) l[i].1 - 1 : Nat) : Int) by rw [hcutc]; omega]
                refine RunU.upd Tryd.underlying116 Tryd.underlying9 hB2.mp (str l[i].1) _ fun w6 hm6 k6 => ?_
                refine GO ?_
                exact ⟨(i + 1, j, _, (some f)), ⟨rfl, rfl, rfl, rfl, rfl, rfl, rfl, rfl, rfl, rfl, v_int (by simp), trivial⟩, ⟨hB2.map hm6 k6, by dsimp only; omega, hj, hcnt2.less h1c, fits_next ho (fits_side l i j hj) hfit, hbn⟩, by dsimp only; omega⟩
              · have h1c2 : ¬ 1 < cnt ks (cutW l i j) l[i].1 := by rw [hcutc]; exact h1c
                refine GO ?_
                refine RunN.mapDel Tryd.underlying116 Tryd.underlying9 hB2.mp (str l[i].1) fun w6 hm6 k6 => ?_
                refine GO ?_
                exact ⟨(i + 1, j, _, (some f)), ⟨rfl, rfl, rfl, rfl, rfl, rfl, rfl, rfl, rfl, rfl, v_int (by simp), trivial⟩, ⟨hB2.map hm6 k6, by dsimp only; omega, hj, hcnt2.drop h1c, fits_next ho (fits_side l i j hj) hfit, hbn⟩, by dsimp only; omega⟩
        · have hji : j = i := by omega
          subst hji
          have hbn : bestN ks l width (j + 1) = bf := by
            rw [bestN, hbest]
            cases bf with
            | none => dsimp only; rw [if_neg (by omega)]
            | some f => dsimp only; rw [if_neg (by omega)]
          rw [cutW_nil] at hcnt1
          refine GO ?_
          exact ⟨(j + 1, j + 1, m1, bf), ⟨rfl, rfl, rfl, rfl, rfl, rfl, rfl, v_int (by simp), rfl, rfl, v_int (by simp), trivial⟩, ⟨hB1, Nat.le_refl _, by dsimp only; omega, by dsimp only; rw [cutW_nil]; exact hcnt1, fun k h1 h2 => by dsimp only at h1 h2; omega, hbn⟩, by dsimp only; omega⟩
    · have hE : winE l width i = j := winE_of l width i j hij hj hfit (fun h => (hlt2 h).elim)
      have hB1 := hB1.keep ((Keeps.refl w1 none_).drew)
      have vw1 := vw1.keep ((Keeps.refl w1 none_).drew) id
      have hE2 : winW l width i = cutW l i j := by unfold winW cutW; rw [hE]
      by_cases hgt : i < j
      · have hcutc := cutW_cons l i j hgt hj
        have hcle := cnt_le ks (cutW l i j) l[i].1
        rw [cutW_len l i j hj] at hcle
        have cw1 := vw1.at 0 _ rfl
        have hsl := shows_len ks (cutW l i j)
        rw [cutW_len l i j hj] at hsl
        cases hbf : bf with
        | none =>
          subst hbf
          have hbn : bestN ks l width (i + 1) = some i := by rw [bestN, hbest]; dsimp only; rw [if_pos (by omega)]
          refine GO ?_
          refine RunN.mapLen Tryd.underlying116 hB1.mp ?_
          refine GO ?_
          refine RunV.of (build_win _ _ _ _) ?_
          refine GO ?_
          rw [hcnt1.len]
          have hwc : (Value.agg #[.int .i64 (i : Nat), .int .i64 (j : Nat), .int .i64 (showsL ks (cutW l i j) : Nat)]) = .agg (winCells ks l width (some i)).toArray := by rw [winCells_some, hE2, hE]
          rw [hwc]
          refine Store.var (winCells ks l width (some i)) hB1.v8 (by rfl) (by rw [winCells_len, winCells_len]) (winCells_flat _ _ _ _) fun w5 v5 k5 => ?_
          have hB2 := hB1.win v5 k5
          have hcnt2 := hcnt1
          have vw2 := vw1.keep k5 (by intro e; have e : bw = w.heap.size + 1 := e; have := hB.mp.lt; omega)
          have cw2 := vw2.at 0 _ rfl
          refine GO ?_
          refine RunV.look Tryd.underlying116 Tryd.underlying9 (zero_int _) hB2.mp _ ?_
          rw [hcnt2.look]
          refine GO ?_
          rw [hcutc] at hcnt2
          by_cases h1c : 1 < cnt ks (l[i] :: cutW l (i + 1) j) l[i].1
          · have h1c2 : 1 < cnt ks (cutW l i j) l[i].1 := by rw [hcutc]; exact h1c
            refine GO ?_
            rw [show ((cnt ks (cutW l i j) l[i].1 : Nat) : Int) - 1 = ((cnt ks (l[i] :: cutW l (i + 1) j) l[i].1 - 1 : Nat) : Int) by rw [hcutc]; omega]
            refine RunU.upd Tryd.underlying116 Tryd.underlying9 hB2.mp (str l[i].1) _ fun w6 hm6 k6 => ?_
            refine GO ?_
            exact ⟨(i + 1, j, _, (some i)), ⟨rfl, rfl, rfl, rfl, rfl, rfl, rfl, rfl, rfl, rfl, v_int (by simp), trivial⟩, ⟨hB2.map hm6 k6, by dsimp only; omega, hj, hcnt2.less h1c, fits_next ho (fits_side l i j hj) hfit, hbn⟩, by dsimp only; omega⟩
          · have h1c2 : ¬ 1 < cnt ks (cutW l i j) l[i].1 := by rw [hcutc]; exact h1c
            refine GO ?_
            refine RunN.mapDel Tryd.underlying116 Tryd.underlying9 hB2.mp (str l[i].1) fun w6 hm6 k6 => ?_
            refine GO ?_
            exact ⟨(i + 1, j, _, (some i)), ⟨rfl, rfl, rfl, rfl, rfl, rfl, rfl, rfl, rfl, rfl, v_int (by simp), trivial⟩, ⟨hB2.map hm6 k6, by dsimp only; omega, hj, hcnt2.drop h1c, fits_next ho (fits_side l i j hj) hfit, hbn⟩, by dsimp only; omega⟩
        | some f =>
          subst hbf
          have hB1v := hB1.v8.at 2 _ rfl
          refine GO ?_
          refine RunN.mapLen Tryd.underlying116 hB1.mp ?_
          rw [hcnt1.len]
          by_cases hgr : showsL ks (winW l width f) < showsL ks (cutW l i j)
          · have hbn : bestN ks l width (i + 1) = some i := by rw [bestN, hbest]; dsimp only; rw [if_pos ⟨by omega, by rw [hE2]; exact hgr⟩]
            refine GO ?_
            refine RunN.mapLen Tryd.underlying116 hB1.mp ?_
            refine GO ?_
            refine RunV.of (build_win _ _ _ _) ?_
            refine GO ?_
            rw [hcnt1.len]
            have hwc : (Value.agg #[.int .i64 (i : Nat), .int .i64 (j : Nat), .int .i64 (showsL ks (cutW l i j) : Nat)]) = .agg (winCells ks l width (some i)).toArray := by rw [winCells_some, hE2, hE]
            rw [hwc]
            refine Store.var (winCells ks l width (some i)) hB1.v8 (by rfl) (by rw [winCells_len, winCells_len]) (winCells_flat _ _ _ _) fun w5 v5 k5 => ?_
            have hB2 := hB1.win v5 k5
            have hcnt2 := hcnt1
            have vw2 := vw1.keep k5 (by intro e; have e : bw = w.heap.size + 1 := e; have := hB.mp.lt; omega)
            have cw2 := vw2.at 0 _ rfl
            refine GO ?_
            refine RunV.look Tryd.underlying116 Tryd.underlying9 (zero_int _) hB2.mp _ ?_
            rw [hcnt2.look]
            refine GO ?_
            rw [hcutc] at hcnt2
            by_cases h1c : 1 < cnt ks (l[i] :: cutW l (i + 1) j) l[i].1
            · have h1c2 : 1 < cnt ks (cutW l i j) l[i].1 := by rw [hcutc]; exact h1c
              refine GO ?_
              rw [show ((cnt ks (cutW l i j) l[i].1 : Nat) : Int) - 1 = ((cnt ks (l[i] :: cutW l (i + 1) j) l[i].1 - 1 : Nat) : Int) by rw [hcutc]; omega]
              refine RunU.upd Tryd.underlying116 Tryd.underlying9 hB2.mp (str l[i].1) _ fun w6 hm6 k6 => ?_
              refine GO ?_
              exact ⟨(i + 1, j, _, (some i)), ⟨rfl, rfl, rfl, rfl, rfl, rfl, rfl, rfl, rfl, rfl, v_int (by simp), trivial⟩, ⟨hB2.map hm6 k6, by dsimp only; omega, hj, hcnt2.less h1c, fits_next ho (fits_side l i j hj) hfit, hbn⟩, by dsimp only; omega⟩
            · have h1c2 : ¬ 1 < cnt ks (cutW l i j) l[i].1 := by rw [hcutc]; exact h1c
              refine GO ?_
              refine RunN.mapDel Tryd.underlying116 Tryd.underlying9 hB2.mp (str l[i].1) fun w6 hm6 k6 => ?_
              refine GO ?_
              exact ⟨(i + 1, j, _, (some i)), ⟨rfl, rfl, rfl, rfl, rfl, rfl, rfl, rfl, rfl, rfl, v_int (by simp), trivial⟩, ⟨hB2.map hm6 k6, by dsimp only; omega, hj, hcnt2.drop h1c, fits_next ho (fits_side l i j hj) hfit, hbn⟩, by dsimp only; omega⟩
          · have hbn : bestN ks l width (i + 1) = some f := by rw [bestN, hbest]; dsimp only; rw [if_neg (fun h => hgr (by rw [← hE2]; exact h.2))]
            have hB2 := hB1
            have hcnt2 := hcnt1
            have cw2 := cw1
            refine GO ?_
            refine GO ?_
            refine RunV.look Tryd.underlying116 Tryd.underlying9 (zero_int _) hB2.mp _ ?_
            rw [hcnt2.look]
            refine GO ?_
            rw [hcutc] at hcnt2
            by_cases h1c : 1 < cnt ks (l[i] :: cutW l (i + 1) j) l[i].1
            · have h1c2 : 1 < cnt ks (cutW l i j) l[i].1 := by rw [hcutc]; exact h1c
              refine GO ?_
              rw [show ((cnt ks (cutW l i j) l[i].1 : Nat) : Int) - 1 = ((cnt ks (l[i] :: cutW l (i + 1) j) l[i].1 - 1 : Nat) : Int) by rw [hcutc]; omega]
              refine RunU.upd Tryd.underlying116 Tryd.underlying9 hB2.mp (str l[i].1) _ fun w6 hm6 k6 => ?_
              refine GO ?_
              exact ⟨(i + 1, j, _, (some f)), ⟨rfl, rfl, rfl, rfl, rfl, rfl, rfl, rfl, rfl, rfl, v_int (by simp), trivial⟩, ⟨hB2.map hm6 k6, by dsimp only; omega, hj, hcnt2.less h1c, fits_next ho (fits_side l i j hj) hfit, hbn⟩, by dsimp only; omega⟩
            · have h1c2 : ¬ 1 < cnt ks (cutW l i j) l[i].1 := by rw [hcutc]; exact h1c
              refine GO ?_
              refine RunN.mapDel Tryd.underlying116 Tryd.underlying9 hB2.mp (str l[i].1) fun w6 hm6 k6 => ?_
              refine GO ?_
              exact ⟨(i + 1, j, _, (some f)), ⟨rfl, rfl, rfl, rfl, rfl, rfl, rfl, rfl, rfl, rfl, v_int (by simp), trivial⟩, ⟨hB2.map hm6 k6, by dsimp only; omega, hj, hcnt2.drop h1c, fits_next ho (fits_side l i j hj) hfit, hbn⟩, by dsimp only; omega⟩
      · exfalso; omega
  · have hie : i = l.length := by omega
    subst hie
    refine GO ?_
    refine Load.agg (winCells ks l width bf) (by rfl) (by rfl) (by rw [winCells_len]; rfl) hB.v8.at ?_
    refine GO ?_
    refine Store.var (winCells ks l width bf) hB.v6 (by rw [winCells_len]; rfl) (by rw [winCells_len]; rfl) (winCells_flat _ _ _ _) fun w5 v5 k5 => ?_
    refine GO ?_
    refine Load.agg (winCells ks l width bf) (by rfl) (by rfl) (by rw [winCells_len]; rfl) v5.at ?_
    (first | refine Then.go hmix ?_ | refine Sat.go hmix ?_ | refine ResK.go ?_ | skip); conv => whnf
    have K5 : Keeps w w5 none_ := hB.k.trans k5 fun i hi e => by
      have e : i = w.heap.size := e
      omega
    rw [hbest]
    cases bf with
    | none => exact ⟨0, 0, 0, rfl, fun f h => (by cases h), K5⟩
    | some f => exact ⟨_, _, _, rfl, fun f' h => (by injection h with h; subst h; exact ⟨rfl, rfl⟩), K5⟩
end
end Go.Proofs.YtmipmlcolaaonaaDoor
