/- Helper text of this claim: Ch2: lemmas and contracts that the proved statement rests on; no conditions of its own. -/
import Derived.Test.YtmipmlcolaaonaaDoorCh1
import Derived.Test.YtmipmlcolaaonaaDoorWcz
-- alias Tryd
namespace Go.Proofs.YtmipmlcolaaonaaDoor
open Go.RowKit Go.Pw Go.Vc Go.Cs Go.Lib
set_option linter.unusedVariables false
set_option maxRecDepth 100000
theorem build_off (w : World) : (Instr.buildSlice 26 5 [(0, .int .i64 0), (1, .int .i64 0), (2, .int .i64 192), (3, .int .i64 224), (4, .int .i64 240)].toArray).run Tryd.prog w = .ok (.slice (some ⟨w.heap.size, 0, none⟩) 5 5) (w.alloc (.cells #[.int .i64 0, .int .i64 0, .int .i64 192, .int .i64 224, .int .i64 240] 3)) := by
  simp [Instr.buildSlice, go_sem, Tryd.runUnderlying26]
theorem off_cell (w : World) (T : Nat) (m : Nat) (h2 : 2 ≤ m) (h4 : m ≤ 4) : (w.alloc (.cells #[.int .i64 0, .int .i64 0, .int .i64 192, .int .i64 224, .int .i64 240] T)).cell? ⟨w.heap.size, 0 + m, none⟩ = some (.int .i64 (off m)) := by
  rw [World.cell?_alloc_new]
  have : m = 2 ∨ m = 3 ∨ m = 4 := by omega
  rcases this with rfl | rfl | rfl <;> rfl
section
variable {w : World}
set_option maxHeartbeats 1000000 in
theorem ref_first (s : ByteArray) (h0 : 0 < s.size) (hs : s.size ≤ 9223372036854775807) : Calls Tryd.prog 61 #[.string s] w fun e w' =>
    e = .returned (.tuple #[.int .i64 (decodeL (L s)).1, .int .i64 (decodeL (L s)).2, .bool (good (L s))]) ∧ Keeps w w' none_ := by
  have hl := L_len s
  refine calls_of_vc (args := [.string s]) Tryd.func61 rfl (Nat.le_of_ble_eq_true rfl) ?_; refine Sat.go hmix ?_; conv => whnf
  refine GO ?_
  refine Loop.intro (ι := Nat) (fun m => [(0, .string s), (5, .int .i64 m)])
    (fun m wr => Keeps w wr none_ ∧ 1 ≤ m ∧ m ≤ 5 ∧ ∀ j, 1 ≤ j → j < m → j ≤ (L s).length → okAt (L s) j = false) (fun m => 5 - m) 1 ⟨rfl, rfl, trivial⟩ ⟨Keeps.refl _ _, Nat.le_refl _, by omega, fun j h1 h2 => by omega⟩ ?_
  rintro m g wr ⟨hK, h1, h5, hno⟩
  (first | refine Then.go hmix ?_ | refine Sat.go hmix ?_ | refine ResK.go ?_ | skip); conv => whnf
  by_cases hm : m ≤ 4
  · by_cases hms : m ≤ s.size
    · have hb0 : byteAt s 0 = (L s).getD 0 0 := rfl
      have hbb := base_bound (L s) m
      by_cases h2 : 1 < m
      refine GO ?_
      refine RunV.of (build_off _) ?_
      refine GO ?_
      refine Load.one (by rfl) (off_cell wr.drew _ m (by omega) hm) ?_
      (first | refine Then.go hmix ?_ | refine Sat.go hmix ?_ | refine ResK.go ?_ | skip); conv => whnf
      have ho : 192 ≤ off m ∧ off m ≤ 240 := by unfold off; repeat' split <;> omega
      have hbt := bt_bound (L s) 0
      have hbb0 : ((byteAt s 0).toNat : Int) = bt (L s) 0 := rfl
      have kr : Keeps w ((wr.drew).alloc (.cells #[.int .i64 0, .int .i64 0, .int .i64 192, .int .i64 224, .int .i64 240] 3)) none_ := hK.drew.alloc _
      generalize (wr.drew).alloc (.cells #[.int .i64 0, .int .i64 0, .int .i64 192, .int .i64 224, .int .i64 240] 3) = wb at *
      rw [wrap_byte]
      show Num .i64 (((byteAt s 0).toNat : Int) - off m) _
      refine GO ?_
      have hbase : base (L s) m = ((byteAt s 0).toNat : Int) - off m := base_off _ _ h2
      rotate_left
      have e1 : m = 1 := by omega
      refine GO ?_
      have hbase : base (L s) m = IntKind.i64.wrap ((byteAt s 0).toNat : Int) := by rw [wrap_byte, e1]; rfl
      have kr : Keeps w wr none_ := hK
      generalize wr = wb at *
      all_goals
        refine Loop.intro (ι := Nat) (fun k => [(0, .string s), (5, .int .i64 m), (6, .int .i64 (candJ (L s) (base (L s) m) k)), (7, .int .i64 ((k + 1 : Nat) : Int))])
          (fun k wr => Keeps w wr none_ ∧ k + 1 ≤ m) (fun k => m - k) 0 ⟨rfl, rfl, v_int hbase.symm, v_int (by omega), trivial⟩ ⟨kr, h1⟩ ?_
        rintro k g wc ⟨kc, hkm⟩
        (first | refine Then.go hmix ?_ | refine Sat.go hmix ?_ | refine ResK.go ?_ | skip); conv => whnf
        by_cases hi : k + 1 < m
        · have hsm := candJ_small (L s) _ hbb k (by omega)
          have hb := bt_bound (L s) (k + 1)
          refine GO ?_
          rw [wrap_byte]
          have hbe : ((byteAt s (k + 1)).toNat : Int) = bt (L s) (k + 1) := rfl
          refine GO ?_
          exact ⟨k + 1, ⟨rfl, rfl, v_int (by rw [hbe]; rfl), v_int (by omega), trivial⟩, ⟨kc, by omega⟩, by dsimp only; omega⟩
        · have hk1 : k = m - 1 := by omega
          subst hk1
          have hc : candJ (L s) (base (L s) m) (m - 1) = cand (L s) m := rfl
          rw [hc]
          refine GO ?_
          refine CallS.of (Tryd.call63 _ _) (ref_sign (cand (L s) m)) ?_
          rintro e w1 ⟨rfl, rfl⟩
          refine ⟨_, rfl, ?_⟩; (first | refine Then.go hmix ?_ | refine Sat.go hmix ?_ | refine ResK.go ?_ | skip); conv => whnf
          cases hsg : isSign (cand (L s) m)
          · have hok : okAt (L s) m = false := by unfold okAt; rw [hsg]; rfl
            refine GO ?_
            refine ⟨m + 1, ⟨rfl, v_int (by omega), trivial⟩, ⟨kc.drew, by omega, by omega, fun j j1 j2 jl => ?_⟩, by dsimp only; omega⟩
            by_cases hj : j = m
            · rw [hj]; exact hok
            · exact hno j j1 (by omega) jl
          · refine GO ?_
            refine CallS.of (Tryd.call59 _ _) (ref_laid (cand (L s) m) hsg) ?_
            rintro e w1 ⟨v, rfl, h1v, k1⟩
            obtain ⟨a, cap, rfl⟩ := ref_str h1v
            refine ⟨_, rfl, ?_⟩; (first | refine Then.go hmix ?_ | refine Sat.go hmix ?_ | refine ResK.go ?_ | skip); conv => whnf
            refine GO ?_
            refine RunV.str (l := encodeRune (cand (L s) m)) Tryd.underlying43 Tryd.underlying5 Tryd.underlying9 h1v ?_
            refine GO ?_
            have hq : (str (encodeRune (cand (L s) m)) = s.extract 0 m) ↔ encodeRune (cand (L s) m) = (L s).take m := by
              rw [extract_str, str_inj]; rfl
            by_cases hx : encodeRune (cand (L s) m) = (L s).take m
            · have hok : okAt (L s) m = true := by unfold okAt; rw [hsg, hx]; simp
              have hy := first_yes (L s) m h1 (by omega) hok
              obtain ⟨_, hn⟩ := isSign_scal _ hsg
              refine Br.dec_yes (hq.2 hx) ?_
              refine GO ?_
              refine ⟨?_, (kc.drew).trans0 k1⟩
              unfold good
              rw [hy.1]
              simp only [hn]
              rw [show decide ((cand (L s) m).toNat = 65533 ∧ m = 1) = false from decide_eq_false (fun e => hy.2 ⟨by omega, e.2⟩)]
              rfl
            · have hok : okAt (L s) m = false := by unfold okAt; rw [hsg, decide_eq_false hx]; rfl
              refine Br.dec_no (fun e => hx (hq.1 e)) ?_
              refine GO ?_
              refine ⟨m + 1, ⟨rfl, v_int (by omega), trivial⟩, ⟨(kc.drew).trans0 k1, by omega, by omega, fun j j1 j2 jl => ?_⟩, by dsimp only; omega⟩
              by_cases hj : j = m
              · rw [hj]; exact hok
              · exact hno j j1 (by omega) jl
    · refine GO ?_
      have := first_no (L s) (L_ne h0) fun j j1 j4 jl => hno j j1 (by omega) jl
      refine ⟨?_, hK⟩
      unfold good
      rw [this]; rfl
  · refine GO ?_
    have := first_no (L s) (L_ne h0) fun j j1 j4 jl => hno j j1 (by omega) jl
    refine ⟨?_, hK⟩
    unfold good
    rw [this]; rfl
end
end Go.Proofs.YtmipmlcolaaonaaDoor
