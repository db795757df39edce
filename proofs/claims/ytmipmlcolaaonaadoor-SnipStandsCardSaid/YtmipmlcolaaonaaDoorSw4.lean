/- Helper text of this claim: Sw4: lemmas and contracts that the proved statement rests on; no conditions of its own. -/
import Derived.Test.YtmipmlcolaaonaaDoorSw3
import Derived.Test.YtmipmlcolaaonaaDoorWcz
-- alias Tryd
namespace Go.Proofs.YtmipmlcolaaonaaDoor
open Go.RowKit Go.Pw Go.Vc Go.Cs Go.Lib
set_option linter.unusedVariables false
set_option maxRecDepth 100000
section
variable {w : World}
set_option maxHeartbeats 2000000 in
theorem fold_Units (s : ByteArray) (hs : s.size ≤ 100000000) : Calls Tryd.prog 99 #[.string s] w fun e w' => ∃ v, e = .returned v ∧ Txs w' w.heap.size v (units (L s)) ∧ Keeps w w' none_ := by
  have hl := L_len s
  refine calls_of_vc (args := [.string s]) Tryd.func99 rfl (Nat.le_of_ble_eq_true rfl) ?_; refine Sat.go hmix ?_; conv => whnf
  refine GO ?_
  refine RunV.rangeS Tryd.underlying9 ?_
  have hi0 := heap_alloc_new w (.stringIter s 0)
  have k0 : Keeps w (w.alloc (.stringIter s 0)) none_ := (Keeps.refl _ _).alloc _
  have z0 : (w.alloc (.stringIter s 0)).heap.size = w.heap.size + 1 := by simp
  generalize w.alloc (.stringIter s 0) = w1 at *
  (first | refine Then.go hmix ?_ | refine Sat.go hmix ?_ | refine ResK.go ?_ | skip); conv => whnf
  refine Loop.intro (ι := Nat × Nat × Option Addr × Nat × List (List UInt8)) (fun i => [(0, .string s), (3, .slice i.2.2.1 i.2.2.2.2.length i.2.2.2.1), (4, .int .i64 (i.2.1 : Nat)), (7, .pointer (some ⟨w.heap.size, 0, none⟩))])
    (fun i wr => Keeps w wr none_ ∧ wr.heap[w.heap.size]? = some (.stringIter s i.1) ∧ i.1 ≤ s.size ∧ i.2.1 ≤ i.1 ∧ Txs wr (w.heap.size + 1) (.slice i.2.2.1 i.2.2.2.2.length i.2.2.2.1) i.2.2.2.2 ∧ units (L s) = i.2.2.2.2 ++ units ((L s).drop i.2.1) ∧
      i.2.2.2.2.length ≤ i.2.1 ∧ w.heap.size + 1 ≤ wr.heap.size ∧ ((i.1 = 0 ∧ i.2.1 = 0) ∨ (i.2.1 < s.size ∧ i.1 = i.2.1 + (decodeL ((L s).drop i.2.1)).2))) (fun i => s.size - i.1) (0, 0, none, 0, []) ⟨rfl, rfl, rfl, rfl, trivial⟩
    ⟨k0, hi0, Nat.zero_le _, Nat.le_refl _, World.ownsRow_nil _ _ _ _, rfl, Nat.le_refl _, by omega, .inl ⟨rfl, rfl⟩⟩ ?_
  rintro ⟨n, last, a, cap, d⟩ g wr ⟨hK, hi, hn, hla, hv, he, hd, hsz, hst⟩
  dsimp only at hi hn hla hv he hd hst ⊢
  (first | refine Then.go hmix ?_ | refine Sat.go hmix ?_ | refine ResK.go ?_ | skip); conv => whnf
  have hw := decodeL_width ((L s).drop last)
  have hnr : ∀ k, (Value.slice a d.length cap).ownBlock = some k → w.heap.size + 1 ≤ k := fun k hk => (hv.lt k hk).1
  by_cases hlt : n < s.size
  · refine RunV.nextS hi hlt ?_
    have hne : (L s).drop n ≠ [] := fun e => by
      have := congrArg List.length e
      rw [List.length_drop, List.length_nil] at this; omega
    have hle := decodeL_le _ hne
    have hwn := decodeL_width ((L s).drop n)
    rw [List.length_drop] at hle
    have ks := setO_keeps (w := wr) (b := w.heap.size) (.stringIter s (n + (decodeL ((L s).drop n)).2))
    have hi2 := setO_get (w := wr) (b := w.heap.size) (.stringIter s (n + (decodeL ((L s).drop n)).2)) (by omega)
    have K2 : Keeps w (setO wr w.heap.size (.stringIter s (n + (decodeL ((L s).drop n)).2))) none_ := hK.trans ks fun i hi e => by
      have e : i = w.heap.size := e
      omega
    have hv2 : Txs (setO wr w.heap.size (.stringIter s (n + (decodeL ((L s).drop n)).2))) (w.heap.size + 1) (.slice a d.length cap) d := own_keep hv ks fun k hk e => by
      have e : k = w.heap.size := e
      have := hnr k hk; omega
    have s2 := ks.size
    generalize setO wr w.heap.size (.stringIter s (n + (decodeL ((L s).drop n)).2)) = w2 at *
    by_cases h0 : last < n
    · have hst2 : last < s.size ∧ n = last + (decodeL ((L s).drop last)).2 := by omega
      have hne2 : (L s).drop last ≠ [] := fun e => by
        have := congrArg List.length e
        rw [List.length_drop, List.length_nil] at this; omega
      rw [units_step _ hne2, List.drop_drop, ← hst2.2] at he
      have hx : s.extract last n = str (((L s).drop last).take (decodeL ((L s).drop last)).2) := by
        rw [← str_L (s.extract last n), L_extract, show (decodeL ((L s).drop last)).2 = n - last by omega, List.take_drop, show last + (n - last) = n by omega]
      generalize ((L s).drop last).take (decodeL ((L s).drop last)).2 = u at *
      refine GO ?_
      rw [hx]
      refine RunV.of (build_text _ _) ?_
      (first | refine Then.go hmix ?_ | refine Sat.go hmix ?_ | refine ResK.go ?_ | skip); conv => whnf
      refine app_text hv2 (by omega) u (by omega) fun v' w3 h3 g3 => ?_
      obtain ⟨a3, c3, rfl⟩ : ∃ a c, v' = .slice a (d ++ [u]).length c := own_shape h3
      have kg := Keeps.ofGrown g3
      have ka := ((Keeps.refl w2 none_).alloc (.cells #[sv u] 9))
      have K3 : Keeps w w3 none_ := (K2.alloc _).own (own_keep0 hv2 ((Keeps.refl _ _).alloc _)) (Nat.le_succ _) g3
      have hi3 : w3.heap[w.heap.size]? = some (.stringIter s (n + (decodeL ((L s).drop n)).2)) :=
        (kg.block w.heap.size (by have := ka.size; omega) (fun e => by have := hnr _ e; omega)).trans ((ka.block w.heap.size (by omega) id).trans hi2)
      refine GO ?_
      exact ⟨(n + (decodeL ((L s).drop n)).2, n, a3, c3, d ++ [u]), ⟨rfl, rfl, rfl, rfl, trivial⟩, ⟨K3, hi3, by dsimp only; omega, by dsimp only; omega, h3, by dsimp only; rw [he]; simp, by simp; omega, by have := kg.size; have := ka.size; omega, .inr ⟨hlt, rfl⟩⟩, by dsimp only; omega⟩
    · have hl0 : last = n := by omega
      subst hl0
      have h00 : last = 0 := by omega
      refine GO ?_
      exact ⟨(last + (decodeL ((L s).drop last)).2, last, a, cap, d), ⟨rfl, rfl, rfl, rfl, trivial⟩, ⟨K2, hi2, by dsimp only; omega, by dsimp only; omega, hv2, he, hd, by omega, .inr ⟨hlt, rfl⟩⟩, by dsimp only; omega⟩
  · refine RunV.nextE hi hlt ?_
    have hnn : n = s.size := by omega
    by_cases hl2 : last < s.size
    · have hst2 : n = last + (decodeL ((L s).drop last)).2 := by omega
      have hne2 : (L s).drop last ≠ [] := fun e => by
        have := congrArg List.length e
        rw [List.length_drop, List.length_nil] at this; omega
      rw [units_step _ hne2, List.drop_drop, ← hst2, hnn, show (L s).drop s.size = [] from List.drop_eq_nil_of_le (by omega), units_nil] at he
      have hx : s.extract last s.size = str (((L s).drop last).take (decodeL ((L s).drop last)).2) := by
        rw [← str_L (s.extract last s.size), L_extract, show (decodeL ((L s).drop last)).2 = s.size - last by omega, List.take_drop, show last + (s.size - last) = s.size by omega]
      generalize ((L s).drop last).take (decodeL ((L s).drop last)).2 = u at *
      refine GO ?_
      rw [hx]
      refine RunV.of (build_text _ _) ?_
      (first | refine Then.go hmix ?_ | refine Sat.go hmix ?_ | refine ResK.go ?_ | skip); conv => whnf
      refine app_text hv hsz u (by omega) fun v' w3 h3 g3 => ?_
      obtain ⟨a3, c3, rfl⟩ : ∃ a c, v' = .slice a (d ++ [u]).length c := own_shape h3
      have K3 : Keeps w w3 none_ := (hK.alloc _).own (own_keep0 hv ((Keeps.refl _ _).alloc _)) (Nat.le_succ _) g3
      refine GO ?_
      refine ⟨_, rfl, ?_, K3⟩
      rw [he]
      exact own_base h3 (Nat.le_succ _)
    · refine GO ?_
      refine ⟨_, rfl, ?_, hK⟩
      rw [he, show (L s).drop last = [] from List.drop_eq_nil_of_le (by omega), units_nil, List.append_nil]
      exact own_base hv (Nat.le_succ _)
theorem startN_le : ∀ (us : List (List UInt8)) (n : Nat) (width : Int), n ≤ startN us n width ∧ startN us n width ≤ n + us.flatten.length
  | [], n, _ => by simp [startN]
  | u :: r, n, width => by
    rw [startN]
    split
    · have := startN_le r (n + u.length) width
      simp only [List.flatten_cons, List.length_append]; omega
    · simp
set_option maxHeartbeats 2000000 in
theorem sn_start (s : ByteArray) (width : Int) (hw : -9223372036854775808 ≤ width ∧ width ≤ 9223372036854775807) (hs : s.size ≤ 100000000) : Calls Tryd.prog 81 #[.string s, .int .i64 width] w fun e w' => e = .returned (.string (str ((L s).take (startN (units (L s)) 0 width)))) ∧ Keeps w w' none_ := by
  have hl := L_len s
  have hul := units_len (L s)
  have hsl := (startN_le (units (L s)) 0 width).2
  have hfl := units_flat (L s)
  rw [hfl] at hsl
  refine calls_of_vc (args := [.string s, .int .i64 width]) Tryd.func81 rfl (Nat.le_of_ble_eq_true rfl) ?_; refine Sat.go hmix ?_; conv => whnf
  refine CallS.of (Tryd.call99 _ _) (fold_Units (w := w) s hs) ?_
  rintro e w1 ⟨v1, rfl, hU, k1⟩
  generalize units (L s) = U at *
  obtain ⟨au, cu, rfl, hrd⟩ := own_rd hU
  refine ⟨_, rfl, ?_⟩; (first | refine Then.go hmix ?_ | refine Sat.go hmix ?_ | refine ResK.go ?_ | skip); conv => whnf
  refine GO ?_
  refine Loop.intro (ι := Nat × Nat) (fun i => [(0, .string s), (1, .int .i64 width), (5, .int .i64 (i.2 : Nat)), (9, .slice au U.length cu), (10, .int .i64 (U.length : Nat)), (11, .int .i64 (i.1 : Nat))])
    (fun i wr => wr = w1 ∧ i.1 ≤ U.length ∧ startN (U.drop i.1) i.2 width = startN U 0 width ∧ i.2 = (U.take i.1).flatten.length) (fun i => U.length - i.1) (0, 0) ⟨rfl, rfl, rfl, rfl, rfl, rfl, trivial⟩
    ⟨rfl, Nat.zero_le _, rfl, rfl⟩ ?_
  rintro ⟨i, n⟩ g wr ⟨rfl, hi, hst, hn⟩
  dsimp only at hi hst hn ⊢
  have htot : (U.take i).flatten.length + (U.drop i).flatten.length = (L s).length := by rw [← List.length_append, ← List.flatten_append, List.take_append_drop, hfl]
  (first | refine Then.go hmix ?_ | refine Sat.go hmix ?_ | refine ResK.go ?_ | skip); conv => whnf
  have hx : s.extract 0 (startN U 0 width) = str ((L s).take (startN U 0 width)) := by rw [← str_L (s.extract 0 _), L_to]
  by_cases hlt : i < U.length
  · obtain ⟨gu, rfl, hg, hat⟩ := hrd (by omega)
    have c1 := at_text hat hlt
    have hstep : (U.take (i + 1)).flatten.length = (U.take i).flatten.length + U[i].length := by rw [List.take_succ_eq_append_getElem hlt, List.flatten_append, List.length_append, List.flatten_cons, List.flatten_nil, List.append_nil]
    have htot2 : U[i].length ≤ (U.drop i).flatten.length := by rw [List.drop_eq_getElem_cons hlt, List.flatten_cons, List.length_append]; omega
    rw [List.drop_eq_getElem_cons hlt, startN] at hst
    generalize U[i] = u at *
    have hsz : (str u).size = u.length := str_size u
    by_cases hfit : ((n + u.length : Nat) : Int) ≤ width
    · rw [if_pos hfit] at hst
      refine GO ?_
      exact ⟨(i + 1, n + u.length), ⟨rfl, rfl, v_int (by rw [hsz]; simp), rfl, rfl, v_int (by simp), trivial⟩, ⟨rfl, by dsimp only; omega, hst, by dsimp only; omega⟩, by dsimp only; omega⟩
    · rw [if_neg hfit] at hst
      subst hst
      refine GO ?_
      rw [hx]
      exact ⟨rfl, k1⟩
  · rw [show U.drop i = [] from List.drop_eq_nil_of_le (by omega), startN] at hst
    subst hst
    refine GO ?_
    rw [hx]
    exact ⟨rfl, k1⟩
end
end Go.Proofs.YtmipmlcolaaonaaDoor
