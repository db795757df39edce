/- Helper text of this claim: Cw5: lemmas and contracts that the proved statement rests on; no conditions of its own. -/
import Derived.Test.YtmipmlcolaaonaaDoorCw4
import Derived.Test.YtmipmlcolaaonaaDoorGct
import Derived.Test.YtmipmlcolaaonaaDoorWcz
-- alias Tryd
namespace Go.Proofs.YtmipmlcolaaonaaDoor
open Go.RowKit Go.Pw Go.Vc Go.Cs Go.Lib
set_option linter.unusedVariables false
set_option maxRecDepth 100000
section
variable {w : World}
theorem map_close (L0 : List UInt8) (ps : List (Nat × Nat)) (f : Option Nat) (m : Nat) :
    (if frI f < 0 then ps.map (mk L0) else ps.map (mk L0) ++ [(foldL (cutL L0 ((frI f).toNat, m)), (frI f).toNat, m)]) = (ps ++ close f m).map (mk L0) := by
  cases f with
  | none => rw [if_pos (by simp [frI])]; simp [close]
  | some a => rw [if_neg (by simp [frI])]; simp [close, frI, mk]
set_option maxHeartbeats 4000000 in
theorem cut_Words (s : ByteArray) (hC : CutTab w) (hF : FoldTab w) (hs : s.size ≤ 10000000) : Calls Tryd.prog 36 #[.string s] w fun e w' => ∃ v, e = .returned v ∧ Wds w' w.heap.size v (wordsL (L s)) ∧ Keeps w w' none_ := by
  have hl := L_len s
  refine calls_of_vc (args := [.string s]) Tryd.func36 rfl (Nat.le_of_ble_eq_true rfl) ?_; refine Sat.go hmix ?_; conv => whnf
  have v1 := Var1.alloc_new w 9 (.string s)
  have k1 : Keeps w (w.alloc (.cells #[.string s] 9)) none_ := (Keeps.refl _ _).alloc _
  have z1 : (w.alloc (.cells #[.string s] 9)).heap.size = w.heap.size + 1 := by simp
  generalize w.alloc (.cells #[.string s] 9) = w1 at *
  have v2 := Var1.alloc_new w1 34 (.slice none 0 0)
  have k2 : Keeps w1 (w1.alloc (.cells #[.slice none 0 0] 34)) none_ := (Keeps.refl _ _).alloc _
  have z2 : (w1.alloc (.cells #[.slice none 0 0] 34)).heap.size = w.heap.size + 2 := by simp [z1]
  generalize w1.alloc (.cells #[.slice none 0 0] 34) = w2 at *
  have v3 := Var1.alloc_new w2 3 (.int .i64 0)
  have k3 : Keeps w2 (w2.alloc (.cells #[.int .i64 0] 3)) none_ := (Keeps.refl _ _).alloc _
  have z3 : (w2.alloc (.cells #[.int .i64 0] 3)).heap.size = w.heap.size + 3 := by simp [z2]
  generalize w2.alloc (.cells #[.int .i64 0] 3) = w3 at *
  rw [z1, z2] at *
  have st0 : WSt w w3 w.heap.size (w.heap.size + 1) (w.heap.size + 2) s (.slice none 0 0) [] 0 :=
    ⟨(k1.trans0 k2).trans0 k3, Nat.le_refl _, by omega, by omega, (v1.keep k2 id).keep k3 id, v2.keep k3 id, v3, World.ownsRow_nil _ _ _ _⟩
  refine Store.one (by rfl) ⟨rfl, by simp, by simp⟩ v3.cell v3.frozen ?_
  have st1 := st0.setFrom (-1)
  have z4 : (w3.setCell ⟨w.heap.size + 2, 0, none⟩ (.int .i64 (-1))).heap.size = w.heap.size + 3 := by simp [World.setCell, z3]
  generalize w3.setCell ⟨w.heap.size + 2, 0, none⟩ (.int .i64 (-1)) = w4 at *
  have c1 := st1.cs.cell
  refine GO ?_
  refine RunV.rangeS Tryd.underlying9 ?_
  have hi5 := heap_alloc_new w4 (.stringIter s 0)
  have st5 := st1.keep ((Keeps.refl w4 none_).alloc (.stringIter s 0))
  rw [z4] at *
  generalize w4.alloc (.stringIter s 0) = w5 at *
  (first | refine Then.go hmix ?_ | refine Sat.go hmix ?_ | refine ResK.go ?_ | skip); conv => whnf
  refine Loop.intro (ι := Nat × Value × List (Nat × Nat) × Option Nat) (fun i => [(1, .pointer (some ⟨w.heap.size, 0, none⟩)), (3, .pointer (some ⟨w.heap.size + 1, 0, none⟩)), (4, .pointer (some ⟨w.heap.size + 2, 0, none⟩)),
      (5, .func (.func 69) #[] #[.pointer (some ⟨w.heap.size + 2, 0, none⟩), .pointer (some ⟨w.heap.size + 1, 0, none⟩), .pointer (some ⟨w.heap.size, 0, none⟩)]), (12, .pointer (some ⟨w.heap.size + 3, 0, none⟩))])
    (fun i wr => i.1 ≤ s.size ∧ WSt w wr w.heap.size (w.heap.size + 1) (w.heap.size + 2) s i.2.1 (i.2.2.1.map (mk (L s))) (frI i.2.2.2) ∧ wr.heap[w.heap.size + 3]? = some (.stringIter s i.1) ∧
      wd (us (L s)) 0 none = i.2.2.1 ++ wd (us ((L s).drop i.1)) i.1 i.2.2.2 ∧ i.2.2.1.length ≤ 2 * i.1 ∧ ∀ a, i.2.2.2 = some a → a ≤ i.1) (fun i => s.size - i.1) (0, .slice none 0 0, [], none) ⟨rfl, rfl, rfl, by simp [ev, upd], rfl, trivial⟩
    ⟨Nat.zero_le _, st5, hi5, rfl, Nat.le_refl _, fun a h => by cases h⟩ ?_
  rintro ⟨n, v, ps, f⟩ g wr ⟨hn, st, hi, he, hpl, hfa⟩
  dsimp only at hn st hi he hpl hfa ⊢
  (first | refine Then.go hmix ?_ | refine Sat.go hmix ?_ | refine ResK.go ?_ | skip); conv => whnf
  have hfr1 : -1 ≤ frI f := by
    cases f with
    | none => exact Int.le_refl _
    | some a => exact Int.le_trans (by decide) (Int.natCast_nonneg a)
  have hfrn : frI f ≤ n := by
    cases f with
    | none => exact Int.le_trans (by decide) (Int.natCast_nonneg n)
    | some a => exact Int.ofNat_le.2 (hfa a rfl)
  by_cases hlt : n < s.size
  · refine RunV.nextS hi hlt ?_
    have hne : (L s).drop n ≠ [] := by rw [← L_from]; exact L_ne (by simp; omega)
    have hw := decodeL_width ((L s).drop n)
    have hle := decodeL_le _ hne
    have hsc := dec_scal _ hne
    have hru := decodeL_rune ((L s).drop n)
    rw [List.length_drop] at hle
    rw [us_step _ hne, List.drop_drop] at he
    have hwh : (decodeL ((L s).drop n)).1 ≠ 65533 → (decodeL ((L s).drop n)).2 = (enc (decodeL ((L s).drop n)).1).length := fun hc => by
      rcases dec_whole _ hne with h | h
      · rw [h] at hc; exact (hc rfl).elim
      · exact h.2.2.1
    have hel := enc_len (decodeL ((L s).drop n)).1
    have st2 := st.iter (o := .stringIter s (n + (decodeL ((L s).drop n)).2)) hi (by omega)
    have hi2 : (setO wr (w.heap.size + 3) (.stringIter s (n + (decodeL ((L s).drop n)).2))).heap[w.heap.size + 3]? = some (.stringIter s (n + (decodeL ((L s).drop n)).2)) := setO_get _ (lt_of_obj hi)
    generalize setO wr (w.heap.size + 3) (.stringIter s (n + (decodeL ((L s).drop n)).2)) = w2 at *
    rw [clsN_eq] at he
    generalize (decodeL ((L s).drop n)).1 = c at *
    generalize (decodeL ((L s).drop n)).2 = k at *
    refine GO ?_
    refine CallS.of (Tryd.call70 _ _) (s_runeLen (c : Int) w2) ?_
    rintro e w3 ⟨rfl, rfl⟩
    rw [runeLen_eq c hsc]
    refine ⟨_, rfl, ?_⟩; (first | refine Then.go hmix ?_ | refine Sat.go hmix ?_ | refine ResK.go ?_ | skip); conv => whnf
    refine GO ?_
    rw [wrap_i64 _ (by omega)]
    refine CallS.of (Tryd.call33 _ _) (cut_Kind (c : Int) (hC.keep st2.k)) ?_
    rintro e w3 ⟨rfl, k3⟩
    have hki : kindI (c : Int) = kindN c := by unfold kindI; rw [if_neg (by omega)]; rfl
    rw [hki]
    have hk2 := kind_le2 c
    have hkb : c = 65533 → kindN c = 0 := fun h => by rw [h]; exact kind_bad
    refine ⟨_, rfl, ?_⟩; (first | refine Then.go hmix ?_ | refine Sat.go hmix ?_ | refine ResK.go ?_ | skip); conv => whnf
    have st3 := st2.keep k3
    have hi3 := IterKept.keep k3 _ _ _ hi2
    have hcl : (close f n).length ≤ 1 := by cases f <;> simp [close]
    have hlen : (ps.map (mk (L s))).length ≤ 100000000 := by rw [List.length_map]; omega
    generalize hq : kindN c = q at *
    have zero : ∀ (w6 : World) (v' : Value), q = 0 → WSt w w6 w.heap.size (w.heap.size + 1) (w.heap.size + 2) s v' ((ps ++ close f n).map (mk (L s))) (-1) → w6.heap[w.heap.size + 3]? = some (.stringIter s (n + k)) →
        n + k ≤ s.size ∧ WSt w w6 w.heap.size (w.heap.size + 1) (w.heap.size + 2) s v' ((ps ++ close f n).map (mk (L s))) (frI none) ∧ w6.heap[w.heap.size + 3]? = some (.stringIter s (n + k)) ∧
        wd (us (L s)) 0 none = (ps ++ close f n) ++ wd (us ((L s).drop (n + k))) (n + k) none ∧ (ps ++ close f n).length ≤ 2 * (n + k) ∧ ∀ a, (none : Option Nat) = some a → a ≤ n + k := by
      intro w6 v' h0 h6 hi6
      refine ⟨by omega, h6, hi6, by rw [he, h0, wd_0, List.append_assoc], by rw [List.length_append]; omega, fun a h => by cases h⟩
    by_cases hc : c = 65533
    · have h0 : q = 0 := hkb hc
      refine GO ?_
      refine CallS.of (Tryd.call69 _ _) (words_end st3 hF (by omega) n hn hfrn hfr1 hlen) ?_
      rintro e w6 ⟨rfl, ⟨v', st6⟩, hk6⟩
      rw [map_close] at st6
      refine ⟨_, rfl, ?_⟩; (first | refine Then.go hmix ?_ | refine Sat.go hmix ?_ | refine ResK.go ?_ | skip); conv => whnf
      refine GO ?_
      exact ⟨(n + k, v', ps ++ close f n, none), ⟨rfl, rfl, rfl, rfl, rfl, trivial⟩, zero w6 v' h0 st6 (hk6 _ _ _ hi3), by dsimp only; omega⟩
    have hkk := hwh hc
    have h012 : q = 0 ∨ q = 1 ∨ q = 2 := by omega
    rcases h012 with h0 | h1 | h2
    · refine GO ?_
      refine CallS.of (Tryd.call69 _ _) (words_end st3 hF (by omega) n hn hfrn hfr1 hlen) ?_
      rintro e w6 ⟨rfl, ⟨v', st6⟩, hk6⟩
      rw [map_close] at st6
      refine ⟨_, rfl, ?_⟩; (first | refine Then.go hmix ?_ | refine Sat.go hmix ?_ | refine ResK.go ?_ | skip); conv => whnf
      refine GO ?_
      exact ⟨(n + k, v', ps ++ close f n, none), ⟨rfl, rfl, rfl, rfl, rfl, trivial⟩, zero w6 v' h0 st6 (hk6 _ _ _ hi3), by dsimp only; omega⟩
    · have c3 := st3.cf.cell
      subst h1
      cases f with
      | none =>
        have c3 : w3.cell? ⟨w.heap.size + 2, 0, none⟩ = some (.int .i64 (-1)) := c3
        refine GO ?_
        refine Store.one (by rfl) ⟨rfl, by simp, by simp⟩ c3 st3.cf.frozen ?_
        have st6 := st3.setFrom (n : Int)
        have hi6 := IterKept.set st3.cf (.int .i64 (n : Int)) _ _ _ hi3
        generalize w3.setCell ⟨w.heap.size + 2, 0, none⟩ (.int .i64 (n : Int)) = w6 at *
        refine GO ?_
        exact ⟨(n + k, v, ps, some n), ⟨rfl, rfl, rfl, rfl, rfl, trivial⟩, ⟨by dsimp only; omega, st6, hi6, by rw [he, wd_1n], by dsimp only; omega, fun a h => by injection h with h; dsimp only; omega⟩, by dsimp only; omega⟩
      | some a =>
        have ha := hfa a rfl
        have c3 : w3.cell? ⟨w.heap.size + 2, 0, none⟩ = some (.int .i64 (a : Int)) := c3
        rw [wd_1s] at he
        by_cases h40 : 40 < n + k - a
        · rw [if_pos h40] at he
          refine GO ?_
          refine CallS.of (Tryd.call69 _ _) (words_end st3 hF (by omega) n hn hfrn hfr1 hlen) ?_
          rintro e w6 ⟨rfl, ⟨v', st6⟩, hk6⟩
          rw [map_close] at st6
          refine ⟨_, rfl, ?_⟩; (first | refine Then.go hmix ?_ | refine Sat.go hmix ?_ | refine ResK.go ?_ | skip); conv => whnf
          have c6 := st6.cf.cell
          refine GO ?_
          refine Store.one (by rfl) ⟨rfl, by simp, by simp⟩ c6 st6.cf.frozen ?_
          have st7 := st6.setFrom (n : Int)
          have hi7 := IterKept.set st6.cf (.int .i64 (n : Int)) _ _ _ (hk6 _ _ _ hi3)
          generalize w6.setCell ⟨w.heap.size + 2, 0, none⟩ (.int .i64 (n : Int)) = w7 at *
          refine GO ?_
          exact ⟨(n + k, v', ps ++ close (some a) n, some n), ⟨rfl, rfl, rfl, rfl, rfl, trivial⟩, ⟨by dsimp only; omega, st7, hi7, by rw [he, List.append_assoc]; rfl, by rw [List.length_append]; dsimp only; omega, fun x h => by injection h with h; dsimp only; omega⟩, by dsimp only; omega⟩
        · rw [if_neg h40] at he
          refine GO ?_
          exact ⟨(n + k, v, ps, some a), ⟨rfl, rfl, rfl, rfl, rfl, trivial⟩, ⟨by dsimp only; omega, st3, hi3, he, by dsimp only; omega, fun x h => by injection h with h; dsimp only; omega⟩, by dsimp only; omega⟩
    · subst h2
      refine GO ?_
      refine CallS.of (Tryd.call69 _ _) (words_end st3 hF (by omega) n hn hfrn hfr1 hlen) ?_
      rintro e w6 ⟨rfl, ⟨v', st6⟩, hk6⟩
      rw [map_close] at st6
      refine ⟨_, rfl, ?_⟩; (first | refine Then.go hmix ?_ | refine Sat.go hmix ?_ | refine ResK.go ?_ | skip); conv => whnf
      have c6 := st6.cf.cell
      refine GO ?_
      refine Store.one (by rfl) ⟨rfl, by simp, by simp⟩ c6 st6.cf.frozen ?_
      have st7 := st6.setFrom (frI (some n))
      have hi7 := IterKept.set st6.cf (.int .i64 (n : Int)) _ _ _ (hk6 _ _ _ hi3)
      have st7 : WSt w (w6.setCell ⟨w.heap.size + 2, 0, none⟩ (.int .i64 (n : Int))) w.heap.size (w.heap.size + 1) (w.heap.size + 2) s v' ((ps ++ close f n).map (mk (L s))) (frI (some n)) := st7
      generalize w6.setCell ⟨w.heap.size + 2, 0, none⟩ (.int .i64 (n : Int)) = w7 at *
      refine GO ?_
      rw [show ((n : Int) + ((enc c).length : Int)) = ((n + k : Nat) : Int) by omega]
      refine CallS.of (Tryd.call69 _ _) (words_end st7 hF (by omega) (n + k) (by omega) (Int.ofNat_le.2 (Nat.le_add_right n k)) (Int.le_trans (by decide) (Int.natCast_nonneg n)) (by rw [List.length_map, List.length_append]; omega)) ?_
      rintro e w8 ⟨rfl, ⟨v8, st8⟩, hk8⟩
      rw [map_close] at st8
      refine ⟨_, rfl, ?_⟩; (first | refine Then.go hmix ?_ | refine Sat.go hmix ?_ | refine ResK.go ?_ | skip); conv => whnf
      refine GO ?_
      exact ⟨(n + k, v8, (ps ++ close f n) ++ close (some n) (n + k), none), ⟨rfl, rfl, rfl, rfl, rfl, trivial⟩, ⟨by dsimp only; omega, st8, hk8 _ _ _ hi7, by rw [he, wd_2]; simp [close], by rw [List.length_append, List.length_append]; show ps.length + (close f n).length + 1 ≤ _; dsimp only; omega, fun x h => by cases h⟩, by dsimp only; omega⟩
  · refine RunV.nextE hi hlt ?_
    have hn0 : (L s).drop n = [] := List.drop_eq_nil_of_le (by omega)
    have hnn : n = s.size := by omega
    have c1 := st.cs.cell
    have c3 := st.co.cell
    refine GO ?_
    rw [hnn] at hfrn
    refine CallS.of (Tryd.call69 _ _) (words_end st hF (by omega) s.size (Nat.le_refl _) hfrn hfr1 (by rw [List.length_map]; omega)) ?_
    rintro e w6 ⟨rfl, ⟨v', st6⟩, _⟩
    rw [map_close] at st6
    obtain ⟨a6, c6, rfl⟩ := own_shape st6.row
    refine ⟨_, rfl, ?_⟩; (first | refine Then.go hmix ?_ | refine Sat.go hmix ?_ | refine ResK.go ?_ | skip); conv => whnf
    have o6 := st6.co.cell
    refine GO ?_
    rw [hn0, us_nil, hnn] at he
    refine ⟨_, rfl, ?_, st6.k⟩
    rw [wordsL_eq, he]
    exact st6.row
end
end Go.Proofs.YtmipmlcolaaonaaDoor
