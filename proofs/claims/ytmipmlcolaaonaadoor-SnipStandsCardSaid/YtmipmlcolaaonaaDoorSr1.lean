/- Helper text of this claim: Sr1: lemmas and contracts that the proved statement rests on; no conditions of its own. -/
import Derived.Test.YtmipmlcolaaonaaDoorSw5
import Derived.Test.YtmipmlcolaaonaaDoorWcz
-- alias Tryd
namespace Go.Proofs.YtmipmlcolaaonaaDoor
open Go.RowKit Go.Pw Go.Vc Go.Cs Go.Lib
set_option linter.unusedVariables false
set_option maxRecDepth 100000
/-- 'append(v, x...)' of two rows of texts. -/
theorem app_texts {w : World} {K : Value → World → Prop} {B B' : Nat} {v v2 : Value} {l l' : List (List UInt8)} {cs : Array Bool} (h : Txs w B v l) (hB : B ≤ w.heap.size) (h' : Txs w B' v2 l')
    (hl : l.length + l'.length ≤ 1000000000) (k : ∀ v' w', Txs w' B v' (l ++ l') → Keeps w w' (fun k => v.ownBlock = some k) → K v' w') :
    RunN Tryd.prog (builtin .append #[37, 37] 37 cs [v, v2].toArray) w K := by
  obtain ⟨i, hi, hi2⟩ := Option.map_eq_some_iff.1 stringInfo
  have hc := h'
  rcases hc.2 with ⟨rfl, h0⟩ | ⟨g, cap, cur, rfl, hb, hgg, _⟩
  · have : l' = [] := List.eq_nil_of_length_eq_zero h0
    subst this
    refine RunN.append_none B 9 i 1 Tryd.underlying37 hi v l.length _ h (k v w (by rw [List.append_nil]; exact h) (Keeps.refl _ _))
  · refine RunN.app Tryd.underlying37 stringInfo rfl (by decide) h hB ⟨g, 0, none⟩ l'.length cap (l'.map sv) (by simp) (fun j u hj => by
      have := h'.cells (g := g) rfl j u hj
      exact this) (by simp [sv, Value.oneCell']) (by omega) (by omega) fun v' w' h2 h3 => k v' w' ?_ (Keeps.ofGrown h3)
    unfold Txs
    rw [List.length_append, List.map_append]
    exact h2
section
variable {w : World}
set_option maxHeartbeats 2000000 in
theorem ref_Sought {v : Value} (ws : List (List UInt8)) (hv : RdO w v ws.length (ws.map sv)) (hl : ws.length ≤ 1000) (hs : ∀ x ∈ ws, x.length ≤ 10000) :
    Calls Tryd.prog 50 #[v] w fun e w' => ∃ v', e = .returned v' ∧ Txs w' w.heap.size v' (soughtL ws) ∧ Keeps w w' none_ := by
  obtain ⟨a, cap, rfl, hr⟩ := hv
  refine calls_of_vc (args := [.slice a ws.length cap]) Tryd.func50 rfl (Nat.le_of_ble_eq_true rfl) ?_; refine Sat.go hmix ?_; conv => whnf
  refine Loop.intro (ι := Nat × Option Addr × Nat × List (List UInt8)) (fun i => [(0, .slice a ws.length cap), (3, .slice i.2.1 i.2.2.2.length i.2.2.1), (4, .int .i64 (i.1 : Nat))])
    (fun i wr => Keeps w wr none_ ∧ i.1 ≤ ws.length ∧ Txs wr w.heap.size (.slice i.2.1 i.2.2.2.length i.2.2.1) i.2.2.2 ∧ i.2.2.2 = soughtL (ws.take i.1) ∧ i.2.2.2.length ≤ i.1 * 30000) (fun i => ws.length - i.1) (0, none, 0, []) ⟨rfl, rfl, rfl, trivial⟩
    ⟨Keeps.refl _ _, Nat.zero_le _, World.ownsRow_nil _ _ _ _, rfl, Nat.le_refl _⟩ ?_
  rintro ⟨i, va, vc, l⟩ gg wr ⟨hK, hi, hT, hle, hll⟩
  dsimp only at hi hT hle hll ⊢
  (first | refine Then.go hmix ?_ | refine Sat.go hmix ?_ | refine ResK.go ?_ | skip); conv => whnf
  by_cases hlt : i < ws.length
  · obtain ⟨g, o, rfl, hg, hat⟩ := hr (by omega)
    have c1 := at_textO (at_keep hat hK) hlt
    have hx := hs ws[i] (List.getElem_mem hlt)
    have hsn := sought_snoc ws i hlt
    generalize ws[i] = x at *
    refine GO ?_
    refine CallS.of (Tryd.call40 _ _) (ref_List32 (w := wr) (str x) (by rw [str_size]; omega)) ?_
    rintro e w2 ⟨v2, rfl, hT2, k2⟩
    rw [L_str] at hT2
    have hln : (listL x).length ≤ 20001 := by
      unfold listL
      rw [List.length_map]
      have := wordsL_len x
      omega
    generalize listL x = T at *
    obtain ⟨at2, ct2, rfl⟩ := own_shape hT2
    refine ⟨_, rfl, ?_⟩; (first | refine Then.go hmix ?_ | refine Sat.go hmix ?_ | refine ResK.go ?_ | skip); conv => whnf
    have hT' : Txs w2 w.heap.size (.slice va l.length vc) l := own_keep0 hT k2
    have hnr : ∀ k, (Value.slice va l.length vc).ownBlock = some k → w.heap.size ≤ k := fun k hk => (hT.lt k hk).1
    refine app_texts hT' (Nat.le_trans hK.size k2.size) hT2 (by omega) fun v' w3 h3 k3 => ?_
    obtain ⟨a3, c3, rfl⟩ : ∃ a c, v' = .slice a (l ++ T).length c := own_shape h3
    refine GO ?_
    exact ⟨(i + 1, a3, c3, l ++ T), ⟨rfl, rfl, v_int (by simp), trivial⟩, ⟨(hK.trans0 k2).trans k3 fun i hi e => by have := hnr _ e; omega, by dsimp only; omega, h3, by dsimp only; rw [hsn, hle], by dsimp only; rw [List.length_append]; omega⟩, by dsimp only; omega⟩
  · refine GO ?_
    have e : i = ws.length := by omega
    subst e
    rw [List.take_length] at hle
    refine ⟨_, rfl, ?_, hK⟩
    rw [← hle]; exact hT
theorem ref_Has {v : Value} (l : List (List UInt8)) (s : List UInt8) (hv : RdO w v l.length (l.map sv)) (hl : l.length ≤ 1000000000) :
    Calls Tryd.prog 53 #[v, .string (str s)] w fun e w' => e = .returned (.bool (decide (s ∈ l))) ∧ Keeps w w' none_ := by
  obtain ⟨a, cap, rfl, hr⟩ := hv
  refine calls_of_vc (args := [.slice a l.length cap, .string (str s)]) Tryd.func53 rfl (Nat.le_of_ble_eq_true rfl) ?_; refine Sat.go hmix ?_; conv => whnf
  refine Loop.intro (ι := Nat) (fun i => [(0, .slice a l.length cap), (1, .string (str s)), (5, .int .i64 (i : Nat))])
    (fun i wr => Keeps w wr none_ ∧ i ≤ l.length ∧ ¬ s ∈ l.take i) (fun i => l.length - i) 0 ⟨rfl, rfl, rfl, trivial⟩ ⟨Keeps.refl _ _, Nat.zero_le _, by simp⟩ ?_
  rintro i gg wr ⟨hK, hi, hno⟩
  (first | refine Then.go hmix ?_ | refine Sat.go hmix ?_ | refine ResK.go ?_ | skip); conv => whnf
  by_cases hlt : i < l.length
  · obtain ⟨g, o, rfl, hg, hat⟩ := hr (by omega)
    have c1 := at_textO (at_keep hat hK) hlt
    have hst : l.take (i + 1) = l.take i ++ [l[i]] := List.take_succ_eq_append_getElem hlt
    have hm : l[i] ∈ l := List.getElem_mem hlt
    generalize l[i] = x at *
    by_cases he : x = s
    · have hd : decide (str x = str s) = true := by simp [he]
      refine GO ?_
      subst he
      rw [show decide (x ∈ l) = true from decide_eq_true hm]
      exact ⟨rfl, hK⟩
    · have hd : decide (str x = str s) = false := by simp [str_eq, he]
      refine GO ?_
      exact ⟨i + 1, ⟨rfl, rfl, v_int (by simp), trivial⟩, ⟨hK, by omega, by rw [hst]; simp [hno]; exact fun e => he e.symm⟩, by dsimp only; omega⟩
  · refine GO ?_
    rw [show i = l.length by omega, List.take_length] at hno
    rw [show decide (s ∈ l) = false from decide_eq_false hno]
    exact ⟨rfl, hK⟩
theorem seen_snoc (ks : List (List UInt8)) (x : Wd) : ∀ (ws : List Wd) (seen : List (List UInt8)), seenL ks (ws ++ [x]) seen = if x.1 ∈ ks ∧ ¬ x.1 ∈ seenL ks ws seen then seenL ks ws seen ++ [x.1] else seenL ks ws seen
  | [], seen => rfl
  | y :: r, seen => by rw [List.cons_append, seenL, seen_snoc ks x r, seenL]
theorem seen_len (ks : List (List UInt8)) (ws : List Wd) : (seenL ks ws []).length ≤ ws.length := shows_len ks ws
set_option maxHeartbeats 2000000 in
theorem ref_Shows {v v2 : Value} (l : List Wd) (ks : List (List UInt8)) (hv : RdO w v l.length (l.flatMap wordCells)) (hv2 : RdO w v2 ks.length (ks.map sv)) (hl : l.length ≤ 100000000) (hkl : ks.length ≤ 1000000000) :
    Calls Tryd.prog 51 #[v, v2] w fun e w' => e = .returned (.int .i64 (showsL ks l : Nat)) ∧ Keeps w w' none_ := by
  have hv20 := hv2
  obtain ⟨a, cap, rfl, hr⟩ := hv
  obtain ⟨a2, cap2, rfl, hr2⟩ := hv2
  refine calls_of_vc (args := [.slice a l.length cap, .slice a2 ks.length cap2]) Tryd.func51 rfl (Nat.le_of_ble_eq_true rfl) ?_; refine Sat.go hmix ?_; conv => whnf
  refine Loop.intro (ι := Nat × Option Addr × Nat × List (List UInt8)) (fun i => [(0, .slice a l.length cap), (1, .slice a2 ks.length cap2), (5, .slice i.2.1 i.2.2.2.length i.2.2.1), (6, .int .i64 (i.1 : Nat))])
    (fun i wr => Keeps w wr none_ ∧ i.1 ≤ l.length ∧ Txs wr w.heap.size (.slice i.2.1 i.2.2.2.length i.2.2.1) i.2.2.2 ∧ i.2.2.2 = seenL ks (l.take i.1) []) (fun i => l.length - i.1) (0, none, 0, []) ⟨rfl, rfl, rfl, rfl, trivial⟩
    ⟨Keeps.refl _ _, Nat.zero_le _, World.ownsRow_nil _ _ _ _, rfl⟩ ?_
  rintro ⟨i, va, vc, seen⟩ gg wr ⟨hK, hi, hT, hse⟩
  dsimp only at hi hT hse ⊢
  (first | refine Then.go hmix ?_ | refine Sat.go hmix ?_ | refine ResK.go ?_ | skip); conv => whnf
  by_cases hlt : i < l.length
  · obtain ⟨g, o, rfl, hg, hat⟩ := hr (by omega)
    have c1 : wr.cell? ⟨g, o + i * 3, none⟩ = some (.string (str l[i].1)) := at_wordO (at_keep hat hK) hlt 0 _ rfl
    have hst : l.take (i + 1) = l.take i ++ [l[i]] := List.take_succ_eq_append_getElem hlt
    have hsn := seen_snoc ks l[i] (l.take i) []
    have hsl := seen_len ks (l.take i)
    rw [← hse] at hsn hsl
    rw [List.length_take] at hsl
    rw [← hst] at hsn
    generalize l[i] = x at *
    have hgl : g < w.heap.size := hg
    refine GO ?_
    refine CallS.of (Tryd.call53 _ _) (ref_Has (w := wr) seen x.1 (own_rd hT).toO (by omega)) ?_
    rintro e w2 ⟨rfl, k2⟩
    have c2 := (k2.cell (cell_lt c1) id).trans c1
    refine ⟨_, rfl, ?_⟩; (first | refine Then.go hmix ?_ | refine Sat.go hmix ?_ | refine ResK.go ?_ | skip); conv => whnf
    refine GO ?_
    refine CallS.of (Tryd.call53 _ _) (ref_Has (w := w2) ks x.1 ((hv20.keep hK).keep k2) hkl) ?_
    rintro e w3 ⟨rfl, k3⟩
    have c3 := (k3.cell (cell_lt c2) id).trans c2
    have hK3 := (hK.trans0 k2).trans0 k3
    have hT3 : Txs w3 w.heap.size (.slice va seen.length vc) seen := own_keep0 (own_keep0 hT k2) k3
    refine ⟨_, rfl, ?_⟩; (first | refine Then.go hmix ?_ | refine Sat.go hmix ?_ | refine ResK.go ?_ | skip); conv => whnf
    by_cases hk : x.1 ∈ ks
    · by_cases hs : x.1 ∈ seen
      · rw [if_neg (fun h => h.2 hs)] at hsn
        rw [decide_eq_true hk, decide_eq_true hs]
        refine LGO ?_
        exact ⟨(i + 1, va, vc, seen), ⟨rfl, rfl, rfl, v_int (by simp), trivial⟩, ⟨hK3, by dsimp only; omega, hT3, hsn.symm⟩, by dsimp only; omega⟩
      · rw [if_pos ⟨hk, hs⟩] at hsn
        rw [decide_eq_true hk, decide_eq_false hs]
        refine LGO ?_
        refine RunV.of (build_text _ _) ?_
        (first | refine Then.go hmix ?_ | refine Sat.go hmix ?_ | refine ResK.go ?_ | skip); conv => whnf
        refine app_text hT3 (by have := hK3.size; omega) x.1 (by omega) fun v' w4 h4 g4 => ?_
        obtain ⟨a4, c4, rfl⟩ : ∃ a c, v' = .slice a (seen ++ [x.1]).length c := own_shape h4
        refine GO ?_
        have K4 : Keeps w w4 none_ := (hK3.alloc _).own (own_keep0 hT3 ((Keeps.refl _ _).alloc _)) (Nat.le_refl _) g4
        exact ⟨(i + 1, a4, c4, seen ++ [x.1]), ⟨rfl, rfl, rfl, v_int (by simp), trivial⟩, ⟨K4, by dsimp only; omega, h4, hsn.symm⟩, by dsimp only; omega⟩
    · rw [if_neg (fun h => hk h.1)] at hsn
      rw [decide_eq_false hk]
      refine LGO ?_
      exact ⟨(i + 1, va, vc, seen), ⟨rfl, rfl, rfl, v_int (by simp), trivial⟩, ⟨hK3, by dsimp only; omega, hT3, hsn.symm⟩, by dsimp only; omega⟩
  · refine GO ?_
    rw [show i = l.length by omega, List.take_length] at hse
    subst hse
    exact ⟨rfl, hK⟩
set_option maxHeartbeats 2000000 in
theorem ref_Window {v : Value} {N : Nat} (l : List Wd) (f : Nat) (width : Int) (hw : -9223372036854775808 ≤ width ∧ width ≤ 9223372036854775807) (hv : Rd w v l.length (l.flatMap wordCells)) (ho : InOrder l N) (hN : N ≤ 100000000) (hl : l.length ≤ 100000000) (hf : f < l.length) :
    Calls Tryd.prog 82 #[v, .int .i64 (f : Nat), .int .i64 width] w fun e w' => e = .returned (.int .i64 (winE l width f : Nat)) ∧ Keeps w w' none_ := by
  obtain ⟨a, cap, rfl, hr⟩ := hv
  obtain ⟨g, rfl, hg, hat⟩ := hr (by omega)
  have hof := ho.each f hf
  have hff : fromOf l f = l[f].2.1 := by unfold fromOf; rw [List.getD_eq_getElem?_getD, List.getElem?_eq_getElem hf]; rfl
  refine calls_of_vc (args := [.slice (some ⟨g, 0, none⟩) l.length cap, .int .i64 (f : Nat), .int .i64 width]) Tryd.func82 rfl (Nat.le_of_ble_eq_true rfl) ?_; refine Sat.go hmix ?_; conv => whnf
  refine Loop.intro (ι := Nat) (fun i => [(0, .slice (some ⟨g, 0, none⟩) l.length cap), (1, .int .i64 (f : Nat)), (2, .int .i64 width), (7, .int .i64 (i : Nat))])
    (fun i wr => Keeps w wr none_ ∧ f ≤ i ∧ i ≤ l.length ∧ Fits l width f i) (fun i => l.length - i) f ⟨rfl, rfl, rfl, rfl, trivial⟩ ⟨Keeps.refl _ _, Nat.le_refl _, by omega, fun k h1 h2 => by omega⟩ ?_
  rintro i gg wr ⟨hK, hfi, hi, hfit⟩
  (first | refine Then.go hmix ?_ | refine Sat.go hmix ?_ | refine ResK.go ?_ | skip); conv => whnf
  have e1 : wr.drew.cell? ⟨g, 0 + f * 3 + 1, none⟩ = some (.int .i64 (fromOf l f : Nat)) := by rw [hff]; exact at_word (at_keep hat hK) hf 1 _ rfl
  by_cases hlt : i < l.length
  · have hti : toOf l i = l[i].2.2 := by unfold toOf; rw [List.getD_eq_getElem?_getD, List.getElem?_eq_getElem hlt]; rfl
    have hoi := ho.each i hlt
    have e2 : wr.drew.cell? ⟨g, 0 + i * 3 + 2, none⟩ = some (.int .i64 (toOf l i : Nat)) := by rw [hti]; exact at_word (at_keep hat hK) hlt 2 _ rfl
    by_cases hft : ((toOf l i : Nat) : Int) - ((fromOf l f : Nat) : Int) ≤ width
    · refine GO ?_
      exact ⟨i + 1, ⟨rfl, rfl, rfl, v_int (by simp), trivial⟩, ⟨hK.drew, by omega, by omega, fun k h1 h2 => by
        rcases (show k < i ∨ k = i by omega) with h3 | h3
        · exact hfit k h1 h3
        · subst h3; exact hft⟩, by dsimp only; omega⟩
    · have hE := winE_of l width f i hfi hi hfit (fun _ => hft)
      refine GO ?_
      rw [hE]
      exact ⟨rfl, hK.drew⟩
  · have hE := winE_of l width f i hfi hi hfit (fun h => (hlt h).elim)
    refine GO ?_
    rw [hE]
    exact ⟨rfl, hK.drew⟩
end
end Go.Proofs.YtmipmlcolaaonaaDoor
