/- Helper text of this claim: Sr2: lemmas and contracts that the proved statement rests on; no conditions of its own. -/
import Derived.Test.YtmipmlcolaaonaaDoorSr1
import Derived.Test.YtmipmlcolaaonaaDoorWcz
-- alias Tryd
namespace Go.Proofs.YtmipmlcolaaonaaDoor
open Go.RowKit Go.Pw Go.Vc Go.Cs Go.Lib
set_option linter.unusedVariables false
set_option maxRecDepth 100000
theorem flat_drop {α : Type} (f : α → List Value) (n : Nat) (hf : ∀ x, (f x).length = n) : ∀ (l : List α) (i : Nat), (l.drop i).flatMap f = (l.flatMap f).drop (i * n)
  | [], i => by simp
  | x :: r, 0 => by simp
  | x :: r, i + 1 => by
    have e1 : (f x).drop ((i + 1) * n) = [] := List.drop_eq_nil_of_le (by rw [hf, Nat.add_mul]; omega)
    rw [List.drop_succ_cons, flat_drop f n hf r i, List.flatMap_cons, List.drop_append, e1, hf, List.nil_append, show (i + 1) * n - n = i * n by rw [Nat.add_mul]; omega]
theorem flat_take {α : Type} (f : α → List Value) (n : Nat) (hf : ∀ x, (f x).length = n) : ∀ (l : List α) (i : Nat), (l.take i).flatMap f = (l.flatMap f).take (i * n)
  | [], i => by simp
  | x :: r, 0 => by simp
  | x :: r, i + 1 => by
    have e1 : (f x).take ((i + 1) * n) = f x := List.take_of_length_le (by rw [hf, Nat.add_mul]; omega)
    rw [List.take_succ_cons, List.flatMap_cons, flat_take f n hf r i, List.flatMap_cons, List.take_append, e1, hf, show (i + 1) * n - n = i * n by rw [Nat.add_mul]; omega]
theorem At.drop {w : World} {b o : Nat} {vs : List Value} (h : At w b o vs) (d : Nat) : At w b (o + d) (vs.drop d) := fun i v hi => by
  rw [List.getElem?_drop] at hi
  rw [Nat.add_assoc]
  exact h (d + i) v hi
theorem At.take {w : World} {b o : Nat} {vs : List Value} (h : At w b o vs) (d : Nat) : At w b o (vs.take d) := fun i v hi => by
  rw [List.getElem?_take] at hi
  split at hi
  · exact h i v hi
  · cases hi
theorem at_cut {w : World} {b o : Nat} {l : List Wd} (h : At w b o (l.flatMap wordCells)) (i j : Nat) : At w b (o + i * 3) ((cutW l i j).flatMap wordCells) := by
  unfold cutW
  rw [flat_drop wordCells 3 (fun _ => rfl), flat_take wordCells 3 (fun _ => rfl)]
  exact At.drop (At.take h _) _
def nextB (ks : List (List UInt8)) (l : List Wd) (width : Int) (i E : Nat) (ws : List Wd) : Option Nat → Option Nat
  | none => if i < E then some i else none
  | some f => if i < E ∧ showsL ks (winW l width f) < showsL ks ws then some i else some f
theorem bestN_succ (ks : List (List UInt8)) (l : List Wd) (width : Int) (i : Nat) : bestN ks l width (i + 1) = nextB ks l width i (winE l width i) (winW l width i) (bestN ks l width i) := by
  rw [bestN]
  cases bestN ks l width i <;> rfl
theorem RdO.keepc {w w' : World} {v : Value} {n : Nat} {xs : List Value} {c : Nat → Prop} (h : RdO w v n xs) (k : Keeps w w' c) (hc : ∀ g, g < w.heap.size → ¬ c g) : RdO w' v n xs := by
  obtain ⟨a, cap, rfl, h⟩ := h
  exact ⟨a, cap, rfl, fun h0 => let ⟨g, o, h1, h3, h4⟩ := h h0; ⟨g, o, h1, Nat.lt_of_lt_of_le h3 k.size, at_keepc h4 k (hc g h3)⟩⟩
def mostI (ks : List (List UInt8)) (l : List Wd) (width : Int) : Option Nat → Int
  | none => 0
  | some f => (showsL ks (winW l width f) : Nat)
section
variable {w : World}
set_option maxHeartbeats 8000000 in
theorem ref_Make {v : Value} (s : ByteArray) (ws : List (List UInt8)) (width : Int) (hw : -9223372036854775808 ≤ width ∧ width ≤ 9223372036854775807) (hv : RdO w v ws.length (ws.map sv)) (hl : ws.length ≤ 1000) (hs : ∀ x ∈ ws, x.length ≤ 10000) (hss : s.size ≤ 10000) :
    Calls Tryd.prog 49 #[.string s, v, .int .i64 width] w fun e w' => ∃ mv, e = .returned (.agg #[.string (str (snipL (soughtL ws) (L s) width).1), mv]) ∧ Mks w' w.heap.size mv (snipL (soughtL ws) (L s) width).2 ∧ Keeps w w' none_ := by
  have hv0 := hv
  obtain ⟨a, cap, rfl, hr⟩ := hv
  have hLs := L_len s
  have hord := words_order (L s)
  have hwl := wordsL_len (L s)
  have hsl := (startN_le (units (L s)) 0 width).2
  have hfl := units_flat (L s)
  rw [hfl] at hsl
  have hul := units_len (L s)
  rw [hLs] at hwl hord
  have hkl : (soughtL ws).length ≤ 100000000 := by
    have key : ∀ (l : List (List UInt8)), (∀ x ∈ l, x.length ≤ 10000) → (soughtL l).length ≤ l.length * 20001 := by
      intro l
      induction l with
      | nil => intro _; simp [soughtL]
      | cons y r ih =>
        intro h
        have h1 := ih fun x hx => h x (by simp [hx])
        have h2 := wordsL_len y
        have h3 := h y (by simp)
        unfold soughtL at h1 ⊢
        rw [List.flatMap_cons, List.length_append, List.length_map, List.length_cons]
        omega
    have := key ws hs
    omega
  refine calls_of_vc (args := [.string s, .slice a ws.length cap, .int .i64 width]) Tryd.func49 rfl (Nat.le_of_ble_eq_true rfl) ?_; refine Sat.go hmix ?_; conv => whnf
  have v6 := VarC.new w 50 [.string ⟨#[]⟩, .slice none 0 0]
  have k6 : Keeps w (w.alloc (.cells [Value.string ⟨#[]⟩, .slice none 0 0].toArray 50)) none_ := (Keeps.refl _ _).alloc _
  have z6 : (w.alloc (.cells [Value.string ⟨#[]⟩, .slice none 0 0].toArray 50)).heap.size = w.heap.size + 1 := by simp
  have eq6 : w.alloc (.cells #[Value.string ⟨#[]⟩, .slice none 0 0] 50) = w.alloc (.cells [Value.string ⟨#[]⟩, .slice none 0 0].toArray 50) := rfl
  rw [eq6]
  generalize w.alloc (.cells [Value.string ⟨#[]⟩, .slice none 0 0].toArray 50) = w1 at *
  refine CallS.of (Tryd.call50 _ _) (ref_Sought ws (hv0.keep k6) hl hs) ?_
  rintro e w2 ⟨vK, rfl, hKs, k2⟩
  have K2 := k6.trans0 k2
  have v6 := v6.keep k2 id
  generalize hks : soughtL ws = ks at *
  have RK := (own_rd hKs).toO
  obtain ⟨aK, cK, rfl⟩ := own_shape hKs
  refine ⟨_, rfl, ?_⟩; (first | refine Then.go hmix ?_ | refine Sat.go hmix ?_ | refine ResK.go ?_ | skip); conv => whnf
  refine GO ?_
  refine CallS.of (Tryd.call37 _ _) (ref_Words32 s (by omega)) ?_
  rintro e w3 ⟨vW, rfl, hW, k3⟩
  have K3 := K2.trans0 k3
  have v6 := v6.keep k3 id
  have RK := RK.keep k3
  have hsnip : snipL ks (L s) width = match bestN ks (wordsL (L s)) width (wordsL (L s)).length with
    | none => ((L s).take (startN (units (L s)) 0 width), [])
    | some f => (cutL (L s) (fromOf (wordsL (L s)) f, toOf (wordsL (L s)) (winE (wordsL (L s)) width f - 1)), marksL ks (fromOf (wordsL (L s)) f) (winW (wordsL (L s)) width f)) := rfl
  generalize hwds : wordsL (L s) = W at *
  generalize snipL ks (L s) width = R at *
  have RW := own_rd hW
  have hcap : ∀ {a n c}, vW = .slice a n c → W.length ≤ c := fun e => by subst e; exact own_cap hW
  obtain ⟨aW, cW, rfl, hrW⟩ := own_rd hW
  have hcap := hcap rfl
  refine ⟨_, rfl, ?_⟩; (first | refine Then.go hmix ?_ | refine Sat.go hmix ?_ | refine ResK.go ?_ | skip); conv => whnf
  refine GO ?_
  refine Loop.intro (ι := Nat × Option Nat) (fun i => [(0, .string s), (2, .int .i64 width), (6, .pointer (some ⟨w.heap.size, 0, none⟩)), (7, .slice aK ks.length cK), (8, .slice aW W.length cW), (9, .int .i64 (frI i.2)), (10, .int .i64 (mostI ks W width i.2)), (11, .int .i64 (i.1 : Nat))])
    (fun i wr => Keeps w3 wr none_ ∧ i.1 ≤ W.length ∧ bestN ks W width i.1 = i.2) (fun i => W.length - i.1) (0, none) ⟨rfl, rfl, rfl, rfl, rfl, rfl, rfl, rfl, trivial⟩ ⟨Keeps.refl _ _, Nat.zero_le _, rfl⟩ ?_
  rintro ⟨i, bf⟩ gg wr ⟨hK, hi, hbest⟩
  dsimp only at hi hbest ⊢
  (first | refine Then.go hmix ?_ | refine Sat.go hmix ?_ | refine ResK.go ?_ | skip); conv => whnf
  by_cases hlt : i < W.length
  · obtain ⟨gW, rfl, hgW, hatW⟩ := hrW (by omega)
    have hEl := winE_le W width i (by omega)
    have hbn1 : bestN ks W width (i + 1) = nextB ks W width i (winE W width i) (winW W width i) bf := by rw [bestN_succ, hbest]
    refine GO ?_
    refine CallS.of (Tryd.call82 _ _) (ref_Window (w := wr) W i width hw (RW.keep hK) hord (by omega) (by omega) hlt) ?_
    rintro e w4 ⟨rfl, k4⟩
    have hK4 := hK.trans0 k4
    have hww : winW W width i = cutW W i (winE W width i) := rfl
    rw [hww] at hbn1
    generalize winE W width i = E at *
    refine ⟨_, rfl, ?_⟩; (first | refine Then.go hmix ?_ | refine Sat.go hmix ?_ | refine ResK.go ?_ | skip); conv => whnf
    refine GO ?_
    rw [if_neg (by omega : ¬ i = cW)]
    have hcl := cutW_len W i E hEl.2
    have RC : RdO w4 (.slice (some ⟨gW, 0 + i * 3, none⟩) (E - i) (cW - i)) (cutW W i E).length ((cutW W i E).flatMap wordCells) :=
      ⟨_, _, by rw [hcl], fun _ => ⟨gW, 0 + i * 3, rfl, Nat.lt_of_lt_of_le hgW hK4.size, at_cut (at_keep hatW hK4) i E⟩⟩
    refine CallS.of (Tryd.call51 _ _) (ref_Shows (w := w4) (cutW W i E) ks RC (RK.keep hK4) (by omega) (by omega)) ?_
    rintro e w5 ⟨rfl, k5⟩
    have hK5 := hK4.trans0 k5
    refine ⟨_, rfl, ?_⟩; (first | refine Then.go hmix ?_ | refine Sat.go hmix ?_ | refine ResK.go ?_ | skip); conv => whnf
    by_cases hgt : i < E
    · cases bf with
      | none =>
        rw [nextB, if_pos hgt] at hbn1
        have hneg : frI none < 0 := by decide
        refine GO ?_
        exact ⟨(i + 1, some i), ⟨rfl, rfl, rfl, rfl, rfl, rfl, v_int (by show _ = ((showsL ks (winW W width i) : Nat) : Int); rw [hww]), v_int (by simp), trivial⟩, ⟨hK5, by dsimp only; omega, hbn1⟩, by dsimp only; omega⟩
      | some f =>
        rw [nextB] at hbn1
        have hnn : frI (some f) = (f : Nat) := rfl
        have hmo : mostI ks W width (some f) = (showsL ks (winW W width f) : Nat) := rfl
        by_cases hgr : showsL ks (winW W width f) < showsL ks (cutW W i E)
        · rw [if_pos ⟨hgt, hgr⟩] at hbn1
          refine GO ?_
          exact ⟨(i + 1, some i), ⟨rfl, rfl, rfl, rfl, rfl, rfl, v_int (by show _ = ((showsL ks (winW W width i) : Nat) : Int); rw [hww]), v_int (by simp), trivial⟩, ⟨hK5, by dsimp only; omega, hbn1⟩, by dsimp only; omega⟩
        · rw [if_neg (fun h => hgr h.2)] at hbn1
          refine GO ?_
          exact ⟨(i + 1, some f), ⟨rfl, rfl, rfl, rfl, rfl, rfl, rfl, v_int (by simp), trivial⟩, ⟨hK5, by dsimp only; omega, hbn1⟩, by dsimp only; omega⟩
    · have hbn2 : bestN ks W width (i + 1) = bf := by
        rw [hbn1]
        cases bf with
        | none => rw [nextB, if_neg hgt]
        | some f => rw [nextB, if_neg (fun h => hgt h.1)]
      refine GO ?_
      exact ⟨(i + 1, bf), ⟨rfl, rfl, rfl, rfl, rfl, rfl, rfl, v_int (by simp), trivial⟩, ⟨hK5, by dsimp only; omega, hbn2⟩, by dsimp only; omega⟩
  · have hie : i = W.length := by omega
    subst hie
    rw [hbest] at hsnip
    have v6 := v6.keep hK id
    have K4 := K3.trans0 hK
    have RK := RK.keep hK
    have RW := RW.keep hK
    cases bf with
    | none =>
      dsimp only at hsnip
      have hneg : frI none < 0 := by decide
      refine GO ?_
      refine CallS.of (Tryd.call71 _ _) (ref_Units05 (w := wr) s (by omega)) ?_
      rintro e w5 ⟨v5, rfl, hU, k5⟩
      generalize units (L s) = U at *
      obtain ⟨au, cu, rfl, hrd⟩ := own_rd hU
      have v6 := v6.keep k5 id
      refine ⟨_, rfl, ?_⟩; (first | refine Then.go hmix ?_ | refine Sat.go hmix ?_ | refine ResK.go ?_ | skip); conv => whnf
      refine GO ?_
      refine Loop.intro (ι := Nat × Nat) (fun i => [(0, .string s), (2, .int .i64 width), (6, .pointer (some ⟨w.heap.size, 0, none⟩)), (14, .slice au U.length cu), (15, .int .i64 (i.2 : Nat)), (16, .int .i64 (i.1 : Nat))])
        (fun i wr => wr = w5 ∧ i.1 ≤ U.length ∧ startN (U.drop i.1) i.2 width = startN U 0 width ∧ i.2 = (U.take i.1).flatten.length) (fun i => U.length - i.1) (0, 0) ⟨rfl, rfl, rfl, rfl, rfl, rfl, trivial⟩
        ⟨rfl, Nat.zero_le _, rfl, rfl⟩ ?_
      rintro ⟨j, n⟩ g wz ⟨rfl, hj, hst, hn⟩
      dsimp only at hj hst hn ⊢
      have htot : (U.take j).flatten.length + (U.drop j).flatten.length = (L s).length := by rw [← List.length_append, ← List.flatten_append, List.take_append_drop, hfl]
      have hx : s.extract 0 (startN U 0 width) = str ((L s).take (startN U 0 width)) := by rw [← str_L (s.extract 0 _), L_to]
      (first | refine Then.go hmix ?_ | refine Sat.go hmix ?_ | refine ResK.go ?_ | skip); conv => whnf
      by_cases hlt2 : j < U.length
      · obtain ⟨gu, rfl, hg, hat⟩ := hrd (by omega)
        have c1 := at_text hat hlt2
        have hstep : (U.take (j + 1)).flatten.length = (U.take j).flatten.length + U[j].length := by rw [List.take_succ_eq_append_getElem hlt2, List.flatten_append, List.length_append, List.flatten_cons, List.flatten_nil, List.append_nil]
        have htot2 : U[j].length ≤ (U.drop j).flatten.length := by rw [List.drop_eq_getElem_cons hlt2, List.flatten_cons, List.length_append]; omega
        rw [List.drop_eq_getElem_cons hlt2, startN] at hst
        generalize U[j] = u at *
        have hsz : (str u).size = u.length := str_size u
        by_cases hfit : ((n + u.length : Nat) : Int) ≤ width
        · rw [if_pos hfit] at hst
          refine GO ?_
          exact ⟨(j + 1, n + u.length), ⟨rfl, rfl, rfl, rfl, v_int (by rw [hsz]; simp), v_int (by simp), trivial⟩, ⟨rfl, by dsimp only; omega, hst, by dsimp only; omega⟩, by dsimp only; omega⟩
        · rw [if_neg hfit] at hst
          subst hst
          refine GO ?_
          rw [hx]
          refine RunV.of (build_snip0 _ _) ?_
          refine GO ?_
          refine Store.var [.string (str ((L s).take (startN U 0 width))), .slice none 0 0] v6 (by rfl) rfl (by simp [Flat]) fun w7 v7 k7 => ?_
          (first | refine Then.go hmix ?_ | refine Sat.go hmix ?_ | refine ResK.go ?_ | skip); conv => whnf
          refine Load.agg [.string (str ((L s).take (startN U 0 width))), .slice none 0 0] (by rfl) (by rfl) (by rfl) v7.at ?_
          (first | refine Then.go hmix ?_ | refine Sat.go hmix ?_ | refine ResK.go ?_ | skip); conv => whnf
          rw [hsnip]
          exact ⟨_, rfl, World.ownsRow_nil _ _ _ _, (K4.trans0 k5).trans k7 fun i hi e => by
            have e : i = w.heap.size := e
            omega⟩
      · rw [show U.drop j = [] from List.drop_eq_nil_of_le (by omega), startN] at hst
        subst hst
        refine GO ?_
        rw [hx]
        refine RunV.of (build_snip0 _ _) ?_
        refine GO ?_
        refine Store.var [.string (str ((L s).take (startN U 0 width))), .slice none 0 0] v6 (by rfl) rfl (by simp [Flat]) fun w7 v7 k7 => ?_
        (first | refine Then.go hmix ?_ | refine Sat.go hmix ?_ | refine ResK.go ?_ | skip); conv => whnf
        refine Load.agg [.string (str ((L s).take (startN U 0 width))), .slice none 0 0] (by rfl) (by rfl) (by rfl) v7.at ?_
        (first | refine Then.go hmix ?_ | refine Sat.go hmix ?_ | refine ResK.go ?_ | skip); conv => whnf
        rw [hsnip]
        exact ⟨_, rfl, World.ownsRow_nil _ _ _ _, (K4.trans0 k5).trans k7 fun i hi e => by
          have e : i = w.heap.size := e
          omega⟩
    | some f =>
      dsimp only at hsnip
      have hnn : frI (some f) = (f : Nat) := rfl
      obtain ⟨hf, hfE, _⟩ := bestN_spec ks W width W.length f hbest
      have hEl := (winE_le W width f (by omega)).2
      have hwin : winW W width f = cutW W f (winE W width f) := rfl
      rw [hwin] at hsnip
      obtain ⟨gW, rfl, hgW, hatW⟩ := hrW (by omega)
      rw [hnn]
      refine GO ?_
      refine CallS.of (Tryd.call82 _ _) (ref_Window (w := wr) W f width hw RW hord (by omega) (by omega) hf) ?_
      rintro e w5 ⟨rfl, k5⟩
      generalize winE W width f = E at *
      have K5 := K4.trans0 k5
      have v6 := v6.keep k5 id
      have RK := RK.keep k5
      have hat5 := at_keep hatW (hK.trans0 k5)
      have cf := at_word hat5 hf
      have hE1 : E - 1 < W.length := by omega
      have ce := at_word hat5 hE1
      have hff : fromOf W f = W[f].2.1 := by unfold fromOf; rw [List.getD_eq_getElem?_getD, List.getElem?_eq_getElem hf]; rfl
      have hte : toOf W (E - 1) = W[E - 1].2.2 := by unfold toOf; rw [List.getD_eq_getElem?_getD, List.getElem?_eq_getElem hE1]; rfl
      have hof := hord.each f hf
      have hoe := hord.each (E - 1) hE1
      have hfe : fromOf W f ≤ toOf W (E - 1) := by
        have := hord.mono (show f ≤ E - 1 by omega) hE1
        omega
      have d2 : w5.cell? ⟨gW, 0 + f * 3 + 1, none⟩ = some (.int .i64 (fromOf W f : Nat)) := by rw [hff]; exact cf 1 _ rfl
      have hEi : ((E : Nat) : Int) - 1 = ((E - 1 : Nat) : Int) := by omega
      have d3 : w5.cell? ⟨gW, 0 + (((E : Nat) : Int) - 1).toNat * 3 + 2, none⟩ = some (.int .i64 (toOf W (E - 1) : Nat)) := by rw [hEi, Int.toNat_natCast, hte]; exact ce 2 _ rfl
      have hx : s.extract (fromOf W f) (toOf W (E - 1)) = str (cutL (L s) (fromOf W f, toOf W (E - 1))) := by rw [← str_L (s.extract _ _)]; exact congrArg str (L_extract s _ _)
      generalize hat0 : fromOf W f = at_ at *
      generalize toOf W (E - 1) = to_ at *
      refine ⟨_, rfl, ?_⟩; (first | refine Then.go hmix ?_ | refine Sat.go hmix ?_ | refine ResK.go ?_ | skip); conv => whnf
      refine GO ?_
      rw [hx]
      refine RunV.of (build_snip0 _ _) ?_
      refine GO ?_
      refine Store.fresh (vs := [.string (str (cutL (L s) (at_, to_))), .slice none 0 0]) (by rfl) rfl (by simp [Flat]) ?_
      have v12 := VarC.new w5 50 [.string (str (cutL (L s) (at_, to_))), .slice none 0 0]
      have k12 : Keeps w5 (w5.alloc (.cells [Value.string (str (cutL (L s) (at_, to_))), .slice none 0 0].toArray 50)) none_ := (Keeps.refl _ _).alloc _
      have v6 := v6.keep k12 id
      have RK5 := RK
      have K6 := K5.trans0 k12
      have hat6 := at_keep hat5 k12
      have hb6 : w.heap.size < w5.heap.size := by have := K5.size; have := k6.size; have := k2.size; have := k3.size; have := hK.size; have := k5.size; omega
      have hgW12 : gW < w5.heap.size := by have := (hK.trans0 k5).size; omega
      have z12 : (w5.alloc (.cells [Value.string (str (cutL (L s) (at_, to_))), .slice none 0 0].toArray 50)).heap.size = w5.heap.size + 1 := by simp
      generalize w5.alloc (.cells [Value.string (str (cutL (L s) (at_, to_))), .slice none 0 0].toArray 50) = w6 at *
      generalize hb12 : w5.heap.size = b12 at *
      generalize hT : cutL (L s) (at_, to_) = T at *
      have hcl := cutW_len W f E hEl
      refine GO ?_
      refine Loop.intro (ι := Nat × Option Addr × Nat × List (Nat × Nat)) (fun i => [(6, .pointer (some ⟨w.heap.size, 0, none⟩)), (7, .slice aK ks.length cK), (8, .slice (some ⟨gW, 0, none⟩) W.length cW), (17, .int .i64 (E : Nat)), (18, .int .i64 (at_ : Nat)), (19, .pointer (some ⟨b12, 0, none⟩)), (20, .int .i64 (i.1 : Nat))])
        (fun i wr => Keeps w wr none_ ∧ Keeps w6 wr (one_ b12) ∧ f ≤ i.1 ∧ i.1 ≤ E ∧ VarC wr b12 50 [.string (str T), .slice i.2.1 i.2.2.2.length i.2.2.1] ∧ Mks wr (b12 + 1) (.slice i.2.1 i.2.2.2.length i.2.2.1) i.2.2.2 ∧ i.2.2.2 = marksL ks at_ (cutW W f i.1)) (fun i => E - i.1) (f, none, 0, [])
        ⟨rfl, rfl, rfl, rfl, rfl, rfl, rfl, trivial⟩ ⟨K6, Keeps.refl _ _, Nat.le_refl _, by omega, v12, World.ownsRow_nil _ _ _ _, by dsimp only; rw [cutW_nil]; rfl⟩ ?_
      rintro ⟨i, ma, mc, ml⟩ gg wr ⟨hK, hK2, hfi, hi, hv12, hM, hml⟩
      dsimp only at hfi hi hv12 hM hml ⊢
      have n6 : ¬ one_ b12 w.heap.size := fun e => by
        have e : w.heap.size = b12 := e
        omega
      have ng : ¬ one_ b12 gW := fun e => by
        have e : gW = b12 := e
        omega
      have v6r := v6.keep hK2 n6
      have RKr : RdO wr (.slice aK ks.length cK) ks.length (ks.map sv) := RK5.keepc ((Keeps.of_none k12).trans' hK2) fun g hg e => by
        have e : g = b12 := e
        omega
      have hzr : b12 + 1 ≤ wr.heap.size := hv12.lt
      (first | refine Then.go hmix ?_ | refine Sat.go hmix ?_ | refine ResK.go ?_ | skip); conv => whnf
      by_cases hlt : i < E
      · have hiW : i < W.length := by omega
        have cw := at_word (at_keepc hat6 hK2 ng) hiW
        have hstep : cutW W f (i + 1) = cutW W f i ++ [W[i]] := cutW_snoc W f i hfi hiW
        have hof2 := hord.each i hiW
        have hff2 : fromOf W i = W[i].2.1 := by unfold fromOf; rw [List.getD_eq_getElem?_getD, List.getElem?_eq_getElem hiW]; rfl
        have htt2 : toOf W i = W[i].2.2 := by unfold toOf; rw [List.getD_eq_getElem?_getD, List.getElem?_eq_getElem hiW]; rfl
        have hmo := hord.mono hfi hiW
        rw [hff2, htt2] at hof2
        rw [hff2, hat0] at hmo
        have hmsn := marksL_snoc ks at_ (cutW W f i) W[i]
        have hmln := marksL_len ks at_ (cutW W f i)
        rw [← hml, cutW_len W f i (by omega)] at hmln
        generalize W[i] = x at *
        have c0 : wr.cell? ⟨gW, 0 + i * 3, none⟩ = some (.string (str x.1)) := cw 0 _ rfl
        refine GO ?_
        refine CallS.of (Tryd.call53 _ _) (ref_Has (w := wr) ks x.1 RKr (by omega)) ?_
        rintro e w7 ⟨rfl, k7⟩
        have hK7 := hK.trans0 k7
        have hK72 := hK2.trans0 k7
        have hv7 := hv12.keep k7 id
        have hM7 : Mks w7 (b12 + 1) (.slice ma ml.length mc) ml := own_keep0 hM k7
        have cw7 := at_keep cw k7
        have z7 := k7.size
        refine ⟨_, rfl, ?_⟩; (first | refine Then.go hmix ?_ | refine Sat.go hmix ?_ | refine ResK.go ?_ | skip); conv => whnf
        by_cases hk : x.1 ∈ ks
        · rw [decide_eq_true hk]
          rw [if_pos hk] at hmsn
          refine LGO ?_
          have hnr : ∀ k, (Value.slice ma ml.length mc).ownBlock = some k → b12 + 1 ≤ k := fun k hk => (hM7.lt k hk).1
          refine Draw.heldEnd (fun u => Keeps w7 u (fun k => (Value.slice ma ml.length mc).ownBlock = some k)) (fun _ => true) (by simp) (by decide +kernel) (by decide +kernel) (Keeps.refl _ _).drew ?_
          have f1 : ∀ u, Keeps w7 u (fun k => (Value.slice ma ml.length mc).ownBlock = some k) → u.cell? ⟨b12, 0 + 1, none⟩ = some (.slice ma ml.length mc) := fun u k => (hv7.keep k fun e => by have := hnr _ e; omega).at 1 _ rfl
          have f2 : ∀ u, Keeps w7 u (fun k => (Value.slice ma ml.length mc).ownBlock = some k) → u.cell? ⟨gW, 0 + i * 3 + 1, none⟩ = some (.int .i64 (x.2.1 : Nat)) := fun u k => at_keepc cw7 k (fun e => by have := hnr _ e; omega) 1 _ rfl
          have f3 : ∀ u, Keeps w7 u (fun k => (Value.slice ma ml.length mc).ownBlock = some k) → u.cell? ⟨gW, 0 + i * 3 + 2, none⟩ = some (.int .i64 (x.2.2 : Nat)) := fun u k => at_keepc cw7 k (fun e => by have := hnr _ e; omega) 2 _ rfl
          (first | refine Then.go hmix ?_ | refine Sat.go hmix ?_ | refine ResK.go ?_ | skip); conv => whnf
          refine Held.one (by rfl) (fun u ku => f1 u ku) ?_
          refine GO ?_
          refine Held.one (by rfl) (fun u ku => f2 u ku) ?_
          refine GO ?_
          refine Held.one (by rfl) (fun u ku => f3 u ku) ?_
          refine GO ?_
          rw [show ((x.2.1 : Nat) : Int) - ((at_ : Nat) : Int) = ((x.2.1 - at_ : Nat) : Int) by omega, show ((x.2.2 : Nat) : Int) - ((at_ : Nat) : Int) = ((x.2.2 - at_ : Nat) : Int) by omega]
          refine RunV.of (build_mark _ _ _) ?_
          (first | refine Then.go hmix ?_ | refine Sat.go hmix ?_ | refine ResK.go ?_ | skip); conv => whnf
          refine RunV.of (build_marks1 _ _ _) ?_
          have K8 : Keeps w7 (w7.drew.alloc (.cells (markCells (x.2.1 - at_, x.2.2 - at_)).toArray 56)) (fun k => (Value.slice ma ml.length mc).ownBlock = some k) := (Keeps.refl _ _).drew.alloc _
          refine ⟨K8, ?_⟩
          (first | refine Then.go hmix ?_ | refine Sat.go hmix ?_ | refine ResK.go ?_ | skip); conv => whnf
          refine app_mark (w := w7.drew) (B := b12 + 1) hM7 (Nat.le_trans (Nat.le_trans hzr z7) (Keeps.refl w7 none_).drew.size) (x.2.1 - at_, x.2.2 - at_) (by omega) fun v' w9 h9 g9 => ?_
          obtain ⟨a9, c9, rfl⟩ : ∃ a c, v' = .slice a (ml ++ [(x.2.1 - at_, x.2.2 - at_)]).length c := own_shape h9
          have kg := K8.trans' (Keeps.ofGrown g9)
          refine ⟨kg, ?_⟩
          have v9 := hv7.keep kg (fun e => by have := hnr _ e; omega)
          have K9 : Keeps w w9 none_ := hK7.trans kg fun i hi e => by have := hnr _ e; omega
          have K92 : Keeps w6 w9 (one_ b12) := hK72.trans kg fun i hi e => by
            have h1 := hnr _ e
            omega
          (first | refine Then.go hmix ?_ | refine Sat.go hmix ?_ | refine ResK.go ?_ | skip); conv => whnf
          refine Store.one (by rfl) ⟨rfl, by simp, by simp⟩ (v9.at 1 _ rfl) (v9.frozen _) ?_
          have v10 := v9.set (0 + 1) (.slice a9 (ml ++ [(x.2.1 - at_, x.2.2 - at_)]).length c9)
          have k10 : Keeps w9 (w9.setCell ⟨b12, 0 + 1, none⟩ (.slice a9 (ml ++ [(x.2.1 - at_, x.2.2 - at_)]).length c9)) (one_ b12) := (Keeps.refl w9 (one_ b12)).setCell (p := ⟨b12, 0 + 1, none⟩) (.inl rfl) _
          have h10 : Mks (w9.setCell ⟨b12, 0 + 1, none⟩ (.slice a9 (ml ++ [(x.2.1 - at_, x.2.2 - at_)]).length c9)) (b12 + 1) (.slice a9 (ml ++ [(x.2.1 - at_, x.2.2 - at_)]).length c9) (ml ++ [(x.2.1 - at_, x.2.2 - at_)]) := own_keep h9 k10 fun k hk e => by
            have e : k = b12 := e
            have := (h9.lt k hk).1; omega
          have K10 := K9.trans k10 fun i hi e => by
            have e : i = b12 := e
            omega
          have K102 := K92.trans' k10
          generalize w9.setCell ⟨b12, 0 + 1, none⟩ (.slice a9 (ml ++ [(x.2.1 - at_, x.2.2 - at_)]).length c9) = w10 at *
          refine GO ?_
          exact ⟨(i + 1, a9, c9, ml ++ [(x.2.1 - at_, x.2.2 - at_)]), ⟨rfl, rfl, rfl, rfl, rfl, rfl, v_int (by simp), trivial⟩, ⟨K10, K102, by dsimp only; omega, by dsimp only; omega, v10, h10, by dsimp only; rw [hstep, hmsn, hml]⟩, by dsimp only; omega⟩
        · rw [decide_eq_false hk]
          rw [if_neg hk] at hmsn
          refine LGO ?_
          exact ⟨(i + 1, ma, mc, ml), ⟨rfl, rfl, rfl, rfl, rfl, rfl, v_int (by simp), trivial⟩, ⟨hK7, hK72, by dsimp only; omega, by dsimp only; omega, hv7, hM7, by dsimp only; rw [hstep, hmsn, hml]⟩, by dsimp only; omega⟩
      · have hie : i = E := by omega
        subst hie
        refine GO ?_
        refine Load.agg [.string (str T), .slice ma ml.length mc] (by rfl) (by rfl) (by rfl) hv12.at ?_
        refine GO ?_
        refine Store.var [.string (str T), .slice ma ml.length mc] v6r (by rfl) rfl (by simp [Flat]) fun w7 v7 k7 => ?_
        (first | refine Then.go hmix ?_ | refine Sat.go hmix ?_ | refine ResK.go ?_ | skip); conv => whnf
        refine Load.agg [.string (str T), .slice ma ml.length mc] (by rfl) (by rfl) (by rfl) v7.at ?_
        (first | refine Then.go hmix ?_ | refine Sat.go hmix ?_ | refine ResK.go ?_ | skip); conv => whnf
        rw [hsnip]
        refine ⟨_, rfl, ?_, hK.trans k7 fun i hi e => by
          have e : i = w.heap.size := e
          omega⟩
        dsimp only
        rw [← hml]
        exact own_base (own_keep hM k7 fun k hk e => by
          have e : k = w.heap.size := e
          have := (hM.lt k hk).1; omega) (by omega)
end
end Go.Proofs.YtmipmlcolaaonaaDoor
