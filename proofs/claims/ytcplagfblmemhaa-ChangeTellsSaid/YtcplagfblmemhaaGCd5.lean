/- Helper text of this claim: Cd5, Cd6, Cd7, Cd8: lemmas and contracts that the proved statement rests on; no conditions of its own. -/
import Derived.Test.YtcplagfblmemhaaGCx3
-- alias Try
namespace Go.Proofs.Ytcplagfblmemhaa
set_option linter.unusedVariables false
open Go.Shelf Go.RowKit Go.Pw Go.Vc Go.Cs Go.Lib Go.Cd
set_option linter.unusedVariables false
set_option maxRecDepth 100000
section
variable {w : World} {b : Nat}
theorem rf_fail02 (s : St) (h : VarK w b 87 (rdC s)) : Calls Try.prog 49 #[.pointer (some ⟨b, 0, none⟩)] w fun e w' => e = .returned (.tuple #[]) ∧ VarK w' b 87 (rdC none) ∧ Keeps w w' (one_ b) := by
  obtain ⟨x, y, hc⟩ : ∃ x y, rdC s = [x, y] := by cases s <;> exact ⟨_, _, rfl⟩
  rw [hc] at h
  refine calls_of_vc (args := [.pointer (some ⟨b, 0, none⟩)]) Try.func49 rfl (Nat.le_of_ble_eq_true rfl) ?_; refine Sat.go hmix ?_; conv => whnf
  refine KGO ?_
  refine Store.cellK (i := 0) h (by simp) (by rfl) ⟨rfl, by simp, by simp⟩ fun w1 v1 k1 => ?_
  (first | refine Then.go hmix ?_ | refine Sat.go hmix ?_ | refine ResK.go ?_ | skip); conv => whnf
  refine Store.cellK (i := 1) v1 (by simp) (by rfl) ⟨rfl, by simp, by simp⟩ fun w2 v2 k2 => ?_
  (first | refine Then.go hmix ?_ | refine Sat.go hmix ?_ | refine ResK.go ?_ | skip); conv => whnf
  exact ⟨rfl, v2, k1.trans' k2⟩
theorem numD_long {u : List UInt8} {i : Nat} (h9 : 9 ≤ i) (hi : i ≤ u.length) (hb : ∀ c ∈ u.take i, 128 ≤ c.toNat) : numD 9 false u = none := by
  have h := numD_pre (u.take 9) 9 false (u.drop 9) (fun c hc => hb c (by
    have : u.take 9 = (u.take i).take 9 := by rw [List.take_take, Nat.min_eq_left h9]
    rw [this] at hc; exact List.mem_of_mem_take hc)) (by rw [List.length_take]; omega)
  rw [List.take_append_drop, List.length_take, Nat.min_eq_left (by omega)] at h
  rw [h]; rfl
theorem numD_end {u : List UInt8} {i : Nat} (h9 : i ≤ 8) (hlt : i < u.length) (hb : ∀ c ∈ u.take i, 128 ≤ c.toNat) (hn : u[i].toNat < 128) :
    numD 9 false u = if 0 < i ∧ u[i].toNat = 0 then none else some (valL (u.take (i + 1)), u.drop (i + 1)) := by
  have hpre := numD_pre (u.take i) 9 false (u.drop i) hb (by rw [List.length_take]; omega)
  rw [List.take_append_drop, List.length_take, Nat.min_eq_left (by omega)] at hpre
  rw [hpre, List.drop_eq_getElem_cons hlt]
  obtain ⟨k, hk⟩ : ∃ k, 9 - i = k + 1 := ⟨8 - i, by omega⟩
  rw [hk]
  simp only [numD, if_neg (show ¬ 128 ≤ u[i].toNat by omega), Bool.false_or, decide_eq_true_eq]
  split
  · rfl
  · simp only [Option.map_some]
    have hva := valL_app u[i] (u.take i)
    rw [← List.take_succ_eq_append_getElem hlt, List.length_take, Nat.min_eq_left (by omega)] at hva
    congr 2
    rw [hva, Nat.mod_eq_of_lt hn, Nat.mul_comm]
theorem numD_short {u : List UInt8} (hb : ∀ c ∈ u, 128 ≤ c.toNat) : numD 9 false u = none := by
  by_cases h9 : 9 ≤ u.length
  · exact numD_long h9 (Nat.le_refl _) (by rw [List.take_length]; exact hb)
  · have hpre := numD_pre u 9 false [] hb (by omega)
    rw [List.append_nil] at hpre
    rw [hpre]
    obtain ⟨k, hk⟩ : ∃ k, 9 - u.length = k + 1 := ⟨8 - u.length, by omega⟩
    rw [hk]; rfl
theorem valL_drop {d : List UInt8} {k : Nat} (h : k < d.length) : valL (d.drop k) = d[k].toNat % 128 + 128 * valL (d.drop (k + 1)) := by
  rw [List.drop_eq_getElem_cons h]; rfl
theorem and127f : ∀ q : Fin 256, IntKind.i64.wrap (IntKind.u8.wrap ↑(BitVec.ofInt IntKind.u8.bits ((q.val : Nat) : Int) &&& BitVec.ofInt IntKind.u8.bits 127).toNat) = ((q.val % 128 : Nat) : Int) := by decide +kernel
theorem and127 {q : Nat} (h : q < 256) : IntKind.i64.wrap (IntKind.u8.wrap ↑(BitVec.ofInt IntKind.u8.bits (q : Int) &&& BitVec.ofInt IntKind.u8.bits 127).toNat) = ((q % 128 : Nat) : Int) := and127f ⟨q, h⟩
set_option maxHeartbeats 8000000 in
theorem rf_RNum02 (s : St) (h : VarK w b 87 (rdC s)) (hs : ∀ u, s = some u → u.length ≤ 140737488355328) :
    Calls Try.prog 29 #[.pointer (some ⟨b, 0, none⟩)] w fun e w' => e = .returned (.int .i64 ((numR s).1 : Nat)) ∧ VarK w' b 87 (rdC (numR s).2) ∧ Keeps w w' (one_ b) := by
  obtain ⟨u, x, hc, hr, hux⟩ : ∃ u x, rdC s = [.string (str u), .bool x] ∧ (numR s = match numD 9 false u with | none => (0, none) | some (n, r) => (n, some r)) ∧ (s = none ∧ u = [] ∨ s = some u ∧ x = false) := by
    cases s with
    | none => exact ⟨[], true, rfl, rfl, .inl ⟨rfl, rfl⟩⟩
    | some u => exact ⟨u, false, rfl, rfl, .inr ⟨rfl, rfl⟩⟩
  have hul : u.length ≤ 140737488355328 := by
    rcases hux with ⟨_, rfl⟩ | ⟨e, _⟩
    · simp
    · exact hs u e
  rw [hr]
  have h0 := h
  rw [hc] at h
  have ha := h.at
  have hsz : (str u).size = u.length := rfl
  have hby : ∀ i (hi : i < u.length), (byteAt (str u) i).toNat = u[i].toNat := fun i hi => by unfold byteAt; simp [str, hi]
  refine calls_of_vc (args := [.pointer (some ⟨b, 0, none⟩)]) Try.func29 rfl (Nat.le_of_ble_eq_true rfl) ?_; refine Sat.go hmix ?_; conv => whnf
  refine Loop.intro (ι := Nat) (fun i => [(0, .pointer (some ⟨b, 0, none⟩)), (3, .int .i64 (i : Nat))])
    (fun i wr => Keeps w wr none_ ∧ i ≤ u.length ∧ ∀ c ∈ u.take i, 128 ≤ c.toNat) (fun i => u.length - i) 0 ⟨rfl, rfl, trivial⟩ ⟨Keeps.refl _ _, by omega, by simp⟩ ?_
  rintro i g wr ⟨hK, hi, hb⟩
  (first | refine Then.go hmix ?_ | refine Sat.go hmix ?_ | refine ResK.go ?_ | skip); conv => whnf
  by_cases hlt : i < u.length
  · have hbi := hby i hlt
    obtain ⟨c, hcu⟩ : ∃ c, u[i] = c := ⟨_, rfl⟩
    have hcl := c.toNat_lt
    rw [hcu] at hbi
    by_cases hbig : 128 ≤ c.toNat
    · refine KGO ?_
      exact ⟨i + 1, ⟨rfl, rfl, trivial⟩, ⟨hK, by omega, by
        rw [List.take_succ_eq_append_getElem hlt]
        intro c' hc'
        rcases List.mem_append.1 hc' with h' | h'
        · exact hb c' h'
        · rw [List.mem_singleton.1 h', hcu]; exact hbig⟩, by dsimp only; omega⟩
    · by_cases h8 : 8 < i
      · have hend := numD_long (u := u) (i := i) (by omega) hi hb
        refine KGO ?_
        refine CallS.of (Try.call49 _ _) (rf_fail02 s (h0.keep0 hK)) ?_
        rintro e w2 ⟨rfl, v2, k2⟩
        refine ⟨_, rfl, ?_⟩; (first | refine Then.go hmix ?_ | refine Sat.go hmix ?_ | refine ResK.go ?_ | skip); conv => whnf
        rw [hend]
        exact ⟨rfl, v2, (hK.of_none (c := one_ b)).trans' k2⟩
      have hend := numD_end (by omega) hlt hb (by rw [hcu]; omega)
      rw [hcu] at hend
      by_cases hz : 0 < i ∧ c.toNat = 0
      · rw [if_pos hz] at hend
        obtain ⟨hz1, hz2⟩ := hz
        refine KGO ?_
        refine CallS.of (Try.call49 _ _) (rf_fail02 s (h0.keep0 hK)) ?_
        rintro e w2 ⟨rfl, v2, k2⟩
        refine ⟨_, rfl, ?_⟩; (first | refine Then.go hmix ?_ | refine Sat.go hmix ?_ | refine ResK.go ?_ | skip); conv => whnf
        rw [hend]
        exact ⟨rfl, v2, (hK.of_none (c := one_ b)).trans' k2⟩
      rw [if_neg hz] at hend
      have hd : (u.take (i + 1)).length = i + 1 := by rw [List.length_take]; omega
      obtain ⟨d, hde⟩ : ∃ d, u.take (i + 1) = d := ⟨_, rfl⟩
      have hdg : ∀ k (hk : k < d.length), u[k]'(by rw [← hde, List.length_take] at hk; omega) = d[k] := fun k hk => by subst hde; simp
      rw [hde] at hd hend
      by_cases hi0 : 0 < i
      · have hc0 : ¬ c.toNat = 0 := fun e => hz ⟨hi0, e⟩
        refine KGO ?_
        refine Loop.intro (ι := Nat) (fun k => [(0, .pointer (some ⟨b, 0, none⟩)), (3, .int .i64 (i : Nat)), (4, .int .i64 (valL (d.drop k) : Nat)), (5, .int .i64 ((k : Int) - 1))])
          (fun k wr => Keeps w wr none_ ∧ k ≤ i + 1) (fun k => k) (i + 1) ⟨rfl, rfl, v_int (by rw [List.drop_of_length_le (by omega)]; rfl), v_int (by omega), trivial⟩ ⟨hK, Nat.le_refl _⟩ ?_
        rintro k g wr ⟨hK, hk⟩
        (first | refine Then.go hmix ?_ | refine Sat.go hmix ?_ | refine ResK.go ?_ | skip); conv => whnf
        have hv8 := valL_lt (d.drop k)
        rw [List.length_drop] at hv8
        by_cases hk0 : 0 < k
        · have hle8 : 128 ^ (d.length - k) ≤ 128 ^ 8 := Nat.pow_le_pow_right (by decide) (by omega)
          have hstep := valL_drop (d := d) (k := k - 1) (by omega)
          rw [show k - 1 + 1 = k by omega] at hstep
          have hkl : k - 1 < u.length := by omega
          have hbk := hby (k - 1) hkl
          rw [hdg (k - 1) (by omega)] at hbk
          obtain ⟨e, he⟩ : ∃ e, d[k - 1]'(by omega) = e := ⟨_, rfl⟩
          rw [he] at hbk hstep
          have hel := e.toNat_lt
          obtain ⟨v, hv⟩ : ∃ v, valL (d.drop k) = v := ⟨_, rfl⟩
          rw [hv] at hv8 hstep ⊢
          have hv72 : v < 72057594037927936 := by omega
          have hidx : ((k : Int) - 1) = ((k - 1 : Nat) : Int) := by omega
          rw [hidx]
          refine KGO ?_
          rw [hbk, and127 (by omega)]
          refine KGO ?_
          exact ⟨k - 1, ⟨rfl, rfl, v_int (by rw [hstep]; omega), rfl, trivial⟩, ⟨hK, by omega⟩, by dsimp only; omega⟩
        · have hk0 : k = 0 := by omega
          subst hk0
          refine KGO ?_
          refine Cut.fromI (l := ((i : Nat) : Int) + 1) (by omega) (by omega) (by omega) ?_
          (first | refine Then.go hmix ?_ | refine Sat.go hmix ?_ | refine ResK.go ?_ | skip); conv => whnf
          refine Store.cellK (i := 0) (h.keep0 hK) (by simp) (by rfl) ⟨rfl, by simp, by simp⟩ fun w2 v2 k2 => ?_
          refine KGO ?_
          rw [hend]
          refine ⟨rfl, ?_, (hK.of_none (c := one_ b)).trans' k2⟩
          have e2 : (str u).extract ((i : Int) + 1).toNat (str u).size = str (u.drop (i + 1)) := by rw [hsz, show ((i : Int) + 1).toNat = i + 1 by omega]; exact str_drop u _
          show VarK w2 b 87 [.string (str (u.drop (i + 1))), .bool false]
          rw [← e2]
          rcases hux with ⟨_, hu⟩ | ⟨_, hx0⟩
          · rw [hu] at hlt; simp at hlt
          · rw [hx0] at v2; exact v2
      · refine KGO ?_
        refine Loop.intro (ι := Nat) (fun k => [(0, .pointer (some ⟨b, 0, none⟩)), (3, .int .i64 (i : Nat)), (4, .int .i64 (valL (d.drop k) : Nat)), (5, .int .i64 ((k : Int) - 1))])
          (fun k wr => Keeps w wr none_ ∧ k ≤ i + 1) (fun k => k) (i + 1) ⟨rfl, rfl, v_int (by rw [List.drop_of_length_le (by omega)]; rfl), v_int (by omega), trivial⟩ ⟨hK, Nat.le_refl _⟩ ?_
        rintro k g wr ⟨hK, hk⟩
        (first | refine Then.go hmix ?_ | refine Sat.go hmix ?_ | refine ResK.go ?_ | skip); conv => whnf
        have hv8 := valL_lt (d.drop k)
        rw [List.length_drop] at hv8
        by_cases hk0 : 0 < k
        · have hle8 : 128 ^ (d.length - k) ≤ 128 ^ 8 := Nat.pow_le_pow_right (by decide) (by omega)
          have hstep := valL_drop (d := d) (k := k - 1) (by omega)
          rw [show k - 1 + 1 = k by omega] at hstep
          have hkl : k - 1 < u.length := by omega
          have hbk := hby (k - 1) hkl
          rw [hdg (k - 1) (by omega)] at hbk
          obtain ⟨e, he⟩ : ∃ e, d[k - 1]'(by omega) = e := ⟨_, rfl⟩
          rw [he] at hbk hstep
          have hel := e.toNat_lt
          obtain ⟨v, hv⟩ : ∃ v, valL (d.drop k) = v := ⟨_, rfl⟩
          rw [hv] at hv8 hstep ⊢
          have hv72 : v < 72057594037927936 := by omega
          have hidx : ((k : Int) - 1) = ((k - 1 : Nat) : Int) := by omega
          rw [hidx]
          refine KGO ?_
          rw [hbk, and127 (by omega)]
          refine KGO ?_
          exact ⟨k - 1, ⟨rfl, rfl, v_int (by rw [hstep]; omega), rfl, trivial⟩, ⟨hK, by omega⟩, by dsimp only; omega⟩
        · have hk0 : k = 0 := by omega
          subst hk0
          refine KGO ?_
          refine Cut.fromI (l := ((i : Nat) : Int) + 1) (by omega) (by omega) (by omega) ?_
          (first | refine Then.go hmix ?_ | refine Sat.go hmix ?_ | refine ResK.go ?_ | skip); conv => whnf
          refine Store.cellK (i := 0) (h.keep0 hK) (by simp) (by rfl) ⟨rfl, by simp, by simp⟩ fun w2 v2 k2 => ?_
          refine KGO ?_
          rw [hend]
          refine ⟨rfl, ?_, (hK.of_none (c := one_ b)).trans' k2⟩
          have e2 : (str u).extract ((i : Int) + 1).toNat (str u).size = str (u.drop (i + 1)) := by rw [hsz, show ((i : Int) + 1).toNat = i + 1 by omega]; exact str_drop u _
          show VarK w2 b 87 [.string (str (u.drop (i + 1))), .bool false]
          rw [← e2]
          rcases hux with ⟨_, hu⟩ | ⟨_, hx0⟩
          · rw [hu] at hlt; simp at hlt
          · rw [hx0] at v2; exact v2
  · have hii : i = u.length := by omega
    rw [hii, List.take_length] at hb
    have hend := numD_short hb
    refine KGO ?_
    refine CallS.of (Try.call49 _ _) (rf_fail02 s (h0.keep0 hK)) ?_
    rintro e w2 ⟨rfl, v2, k2⟩
    refine ⟨_, rfl, ?_⟩; (first | refine Then.go hmix ?_ | refine Sat.go hmix ?_ | refine ResK.go ?_ | skip); conv => whnf
    rw [hend]
    exact ⟨rfl, v2, (hK.of_none (c := one_ b)).trans' k2⟩
end
end Go.Proofs.Ytcplagfblmemhaa

-- alias Try
namespace Go.Proofs.Ytcplagfblmemhaa
set_option linter.unusedVariables false
open Go.Shelf Go.RowKit Go.Pw Go.Vc Go.Cs Go.Lib Go.Cd
set_option linter.unusedVariables false
set_option maxRecDepth 100000
abbrev byC (c : UInt8) : List Value := [.int .u8 c.toNat]
theorem byC_cells (l : List UInt8) : l.flatMap byC = Go.Lib.byteCells l := by
  induction l with
  | nil => rfl
  | cons c l ih => simp only [List.flatMap_cons, ih]; rfl
theorem tyB : RowTy 89 5 byC 1 1 := ⟨Try.underlying89, ⟨_, byteInfo, rfl⟩, by decide, fun _ => rfl, fun x u hu => by rw [List.mem_singleton.1 hu]; rfl⟩
theorem bs1B (c : UInt8) (w : World) : (Instr.buildSlice 89 1 [(0, .int .u8 c.toNat)].toArray).run Try.prog w = .ok (.slice (some ⟨w.heap.size, 0, none⟩) 1 1) (w.alloc (.cells (List.toArray (byC c)) 5)) := by
  simp [Instr.buildSlice, go_sem, Try.runUnderlying89, byC]
abbrev OwnB8 (w : World) (B : Nat) (v : Value) (l : List UInt8) : Prop := w.ownsRow B 5 1 v l.length (l.flatMap byC)
section
variable {w : World} {b : Nat}
set_option maxHeartbeats 2000000 in
theorem rf_Num02 (n : Nat) (hn : n < 2 ^ 63) : Calls Try.prog 35 #[.int .i64 n] w fun e w' => e = .returned (.string (str (numE n))) ∧ Keeps w w' none_ := by
  refine calls_of_vc (args := [.int .i64 n]) Try.func35 rfl (Nat.le_of_ble_eq_true rfl) ?_; refine Sat.go hmix ?_; conv => whnf
  refine KGO ?_
  refine Loop.intro (ι := Nat × List UInt8 × Option Addr × Nat) (fun i => [(0, .int .i64 (i.1 : Nat)), (3, .slice i.2.2.1 i.2.1.length i.2.2.2)])
    (fun i wr => Keeps w wr none_ ∧ OwnB8 wr w.heap.size (.slice i.2.2.1 i.2.1.length i.2.2.2) i.2.1 ∧ i.2.1 ++ numE i.1 = numE n ∧ i.1 < 2 ^ 63) (fun i => i.1) (n, [], none, 0) ⟨rfl, rfl, trivial⟩
    ⟨Keeps.refl _ _, World.ownsRow_nil _ _ _ _, rfl, hn⟩ ?_
  rintro ⟨m, pre, a, c⟩ g wr ⟨hK, ho, he, hm⟩
  dsimp only at ho he hm ⊢
  (first | refine Then.go hmix ?_ | refine Sat.go hmix ?_ | refine ResK.go ?_ | skip); conv => whnf
  have hlen := congrArg List.length he
  have hnl := numE_len hn
  have hml := numE_pos m
  rw [List.length_append] at hlen
  by_cases hlt : 128 ≤ m
  · refine KGO ?_
    rw [tmod_nat]
    refine KGO ?_
    rw [show ((m % 128 : Nat) : Int) + 128 = ((m % 128 + 128 : Nat) : Int) by omega, wrap_b8 (by omega)]
    refine RunV.of (bs1B _ _) ?_
    have k4 : Keeps wr (wr.alloc (.cells (List.toArray (byC (b8 (m % 128 + 128)))) 5)) none_ := (Keeps.refl _ _).alloc _
    have h4 := at_fresh wr 5 (byC (b8 (m % 128 + 128)))
    have o4 := own_keep0 ho k4
    generalize wr.alloc (.cells (List.toArray (byC (b8 (m % 128 + 128)))) 5) = w4 at *
    generalize wr.heap.size = g4 at *
    refine KGO ?_
    have K4 := hK.trans0 k4
    refine tyB.app1 (b8 (m % 128 + 128)) o4 K4.size h4 (by omega) (by omega) fun v5 w5 o5 k5 => ?_
    obtain ⟨a5, c5, rfl⟩ := own_shape o5
    have K5 := own_leC o4 k5 K4 (Nat.le_refl _)
    refine KGO ?_
    rw [tdiv_nat]
    refine KGO ?_
    rw [numE_big hlt hm] at he
    exact ⟨(m / 128, pre ++ [b8 (m % 128 + 128)], a5, c5), ⟨v_int (wrap_i64 (by omega) (by omega)), rfl, trivial⟩, ⟨K5, o5, by rw [← he]; simp, by omega⟩, by dsimp only; omega⟩
  · refine KGO ?_
    rw [wrap_b8 (by omega)]
    refine RunV.of (bs1B _ _) ?_
    have k4 : Keeps wr (wr.alloc (.cells (List.toArray (byC (b8 m))) 5)) none_ := (Keeps.refl _ _).alloc _
    have h4 := at_fresh wr 5 (byC (b8 m))
    have o4 := own_keep0 ho k4
    generalize wr.alloc (.cells (List.toArray (byC (b8 m))) 5) = w4 at *
    generalize wr.heap.size = g4 at *
    refine KGO ?_
    have K4 := hK.trans0 k4
    refine tyB.app1 (b8 m) o4 K4.size h4 (by omega) (by omega) fun v5 w5 o5 k5 => ?_
    obtain ⟨a5, c5, rfl⟩ := own_shape o5
    have K5 := own_leC o4 k5 K4 (Nat.le_refl _)
    refine KGO ?_
    rw [numE_small (by omega)] at he
    rw [he] at o5 ⊢
    have o6 : w5.ownsRow w.heap.size 5 1 (.slice a5 (numE n).length c5) (numE n).length (Go.Lib.byteCells (numE n)) := by rw [← byC_cells]; exact o5
    refine RunV.str (l := numE n) Try.underlying89 Try.underlying5 Try.underlying9 o6 ?_
    refine KGO ?_
    exact ⟨rfl, K5⟩
set_option maxHeartbeats 2000000 in
theorem rf_Nums02 (l : List Nat) {v : Value} (hv : RowI w v (iL l)) (hb : ∀ n ∈ l, n < 2 ^ 63) (hl : l.length ≤ 1000000) :
    Calls Try.prog 36 #[v] w fun e w' => e = .returned (.string (str (numsE l))) ∧ Keeps w w' none_ := by
  obtain ⟨a, cap, rfl, hr⟩ := hv
  rw [iL_len]
  refine calls_of_vc (args := [.slice a l.length cap]) Try.func36 rfl (Nat.le_of_ble_eq_true rfl) ?_; refine Sat.go hmix ?_; conv => whnf
  refine KGO ?_
  refine CallS.of (Try.call35 _ _) (rf_Num02 l.length (by omega)) ?_
  rintro e w1 ⟨rfl, k1⟩
  refine ⟨_, rfl, ?_⟩; (first | refine Then.go hmix ?_ | refine Sat.go hmix ?_ | refine ResK.go ?_ | skip); conv => whnf
  have hln := numE_len (show l.length < 2 ^ 63 by omega)
  refine Loop.intro (ι := Nat) (fun i => [(0, .slice a l.length cap), (3, .string (str (numE l.length ++ (l.take i).flatMap numE))), (4, .int .i64 (i : Nat))])
    (fun i wr => Keeps w wr none_ ∧ i ≤ l.length) (fun i => l.length - i) 0 ⟨rfl, v_str (by simp), rfl, trivial⟩ ⟨k1, by omega⟩ ?_
  rintro i g wr ⟨hK, hi⟩
  (first | refine Then.go hmix ?_ | refine Sat.go hmix ?_ | refine ResK.go ?_ | skip); conv => whnf
  by_cases hlt : i < l.length
  · obtain ⟨gb, o, rfl, hgb, hat⟩ := hr (by rw [iL_len]; omega)
    have hca := at_int hat (by rw [iL_len]; exact hlt)
    have hgi : (iL l)[i]'(by rw [iL_len]; exact hlt) = ((l[i] : Nat) : Int) := by simp [iL]
    rw [hgi] at hca
    have hbi := hb l[i] (List.getElem_mem hlt)
    have hni := numE_len hbi
    have hfl := numsE_len (l.take i) (fun n hn => hb n (List.mem_of_mem_take hn))
    rw [List.length_take] at hfl
    have hs1 : (str (numE l.length ++ (l.take i).flatMap numE)).size = (numE l.length).length + ((l.take i).flatMap numE).length := by rw [← List.length_append]; rfl
    have hs2 : (str (numE l[i])).size = (numE l[i]).length := rfl
    have hcat : str (numE l.length ++ (l.take i).flatMap numE) ++ str (numE l[i]) = str (numE l.length ++ (l.take (i + 1)).flatMap numE) := by
      rw [List.take_succ_eq_append_getElem hlt, List.flatMap_append, ← List.append_assoc, List.flatMap_singleton]
      exact (str_append _ _).symm
    obtain ⟨X, hX⟩ : ∃ X, str (numE l.length ++ (l.take i).flatMap numE) = X := ⟨_, rfl⟩
    rw [hX] at hs1 hcat ⊢
    refine KGO ?_
    refine CallS.of (Try.call35 _ _) (rf_Num02 l[i] hbi) ?_
    rintro e w3 ⟨rfl, k3⟩
    refine ⟨_, rfl, ?_⟩; (first | refine Then.go hmix ?_ | refine Sat.go hmix ?_ | refine ResK.go ?_ | skip); conv => whnf
    refine RunV.cat (by omega) ?_
    refine KGO ?_
    rw [hcat]
    exact ⟨i + 1, ⟨rfl, rfl, v_int (by simp), trivial⟩, ⟨hK.trans0 k3, by omega⟩, by dsimp only; omega⟩
  · have hnn : i = l.length := by omega
    subst hnn
    refine KGO ?_
    refine ⟨?_, hK⟩
    rw [List.take_length]; rfl
theorem build_rd02 (s : ByteArray) (w : World) : (Instr.build 87 [(0, .string s)].toArray).run Try.prog w = .ok (.agg #[.string s, .bool false]) w := by
  simp [Instr.build, go_sem, Try.runUnderlying87]
theorem rf_Open02 (s : ByteArray) : Calls Try.prog 28 #[.string s] w fun e w' => e = .returned (.pointer (some ⟨w.heap.size, 0, none⟩)) ∧ VarK w' w.heap.size 87 (rdC (some (L s))) ∧ Keeps w w' none_ := by
  refine calls_of_vc (args := [.string s]) Try.func28 rfl (Nat.le_of_ble_eq_true rfl) ?_; refine Sat.go hmix ?_; conv => whnf
  refine RunV.of (build_rd02 s w) ?_
  (first | refine Then.go hmix ?_ | refine Sat.go hmix ?_ | refine ResK.go ?_ | skip); conv => whnf
  refine ⟨rfl, ?_, (Keeps.refl _ _).alloc _⟩
  exact VarK.new w 87 [.string s, .bool false]
theorem rf_Done02 (s : St) (h : VarK w b 87 (rdC s)) (hs : ∀ u, s = some u → u.length ≤ 140737488355328) : Calls Try.prog 31 #[.pointer (some ⟨b, 0, none⟩)] w fun e w' => e = .returned (.bool (decide (s = some []))) ∧ Keeps w w' none_ := by
  cases s with
  | none =>
    have ha : At w b 0 [.string ⟨#[]⟩, .bool true] := h.at
    refine calls_of_vc (args := [.pointer (some ⟨b, 0, none⟩)]) Try.func31 rfl (Nat.le_of_ble_eq_true rfl) ?_; refine Sat.go hmix ?_; conv => whnf
    refine KGO ?_
    exact ⟨rfl, Keeps.refl _ _⟩
  | some u =>
    have ha : At w b 0 [.string (str u), .bool false] := h.at
    have hsz : (str u).size = u.length := rfl
    refine calls_of_vc (args := [.pointer (some ⟨b, 0, none⟩)]) Try.func31 rfl (Nat.le_of_ble_eq_true rfl) ?_; refine Sat.go hmix ?_; conv => whnf
    by_cases hu : u.length = 0
    · refine KGO ?_
      refine ⟨ret_bool ?_, Keeps.refl _ _⟩
      rw [hsz, hu, List.eq_nil_of_length_eq_zero hu]; rfl
    · refine KGO ?_
      refine ⟨ret_bool ?_, Keeps.refl _ _⟩
      rw [hsz]
      have : u ≠ [] := fun e => hu (by rw [e]; rfl)
      simp [this, hu]
end
end Go.Proofs.Ytcplagfblmemhaa

-- alias Try
namespace Go.Proofs.Ytcplagfblmemhaa
set_option linter.unusedVariables false
open Go.Shelf Go.RowKit Go.Pw Go.Vc Go.Cs Go.Lib Go.Cd
set_option linter.unusedVariables false
set_option maxRecDepth 100000
section
variable {w : World} {b : Nat}
set_option maxHeartbeats 4000000 in
theorem rf_RNums02 (s : St) (h : VarK w b 87 (rdC s)) (hs : stLen s ≤ 140737488355328 / 16) :
    Calls Try.prog 30 #[.pointer (some ⟨b, 0, none⟩)] w fun e w' =>
      ∃ v, e = .returned v ∧ OwnI w' w.heap.size v (iL (numsR s).1) ∧ VarK w' b 87 (rdC (numsR s).2) ∧ Keeps w w' (one_ b) := by
  have hs0 : ∀ u, s = some u → u.length ≤ 140737488355328 := by rintro u rfl; simp only [stLen] at hs; omega
  have hlt := h.lt
  refine calls_of_vc (args := [.pointer (some ⟨b, 0, none⟩)]) Try.func30 rfl (Nat.le_of_ble_eq_true rfl) ?_; refine Sat.go hmix ?_; conv => whnf
  refine CallS.of (Try.call29 _ _) (rf_RNum02 s h hs0) ?_
  rintro e w1 ⟨rfl, h1, k1⟩
  refine ⟨_, rfl, ?_⟩; (first | refine Then.go hmix ?_ | refine Sat.go hmix ?_ | refine ResK.go ?_ | skip); conv => whnf
  have hle := numR_stLen s
  have hn63 := numR_lt s
  have hnn := @numR_none s
  have hd : numsR s = match numR s with | (_, none) => ([], none) | (n, some r) => if r.length < n then ([], none) else (match numsG n (some r) with | (_, none) => ([], none) | p => p) := rfl
  obtain ⟨n, s1, hns⟩ : ∃ n s1, numR s = (n, s1) := ⟨_, _, rfl⟩
  rw [hns] at h1 hle hn63 hnn hd
  rw [hns]
  dsimp only at h1 hle hn63 hnn hd ⊢
  obtain ⟨r0, x0, hc0, hr0⟩ : ∃ r0 x0, rdC s1 = [.string (str r0), .bool x0] ∧ r0.length = stLen s1 ∧ (s1 = none → x0 = true) ∧ (∀ r, s1 = some r → r = r0 ∧ x0 = false) := by
    cases s1 with
    | none => exact ⟨[], true, rfl, rfl, fun _ => rfl, fun _ h => by cases h⟩
    | some r => exact ⟨r, false, rfl, rfl, (fun h => by cases h), fun _ h => by injection h with h; exact ⟨h.symm, rfl⟩⟩
  obtain ⟨hr0l, hx1, hx2⟩ := hr0
  have a1 : At w1 b 0 [.string (str r0), .bool x0] := by rw [← hc0]; exact h1.at
  have hsz : (str r0).size = r0.length := rfl
  by_cases hbig : r0.length < n
  · refine KGO ?_
    refine CallS.of (Try.call49 _ _) (rf_fail02 s1 h1) ?_
    rintro e w2 ⟨rfl, h2, k2⟩
    refine ⟨_, rfl, ?_⟩; (first | refine Then.go hmix ?_ | refine Sat.go hmix ?_ | refine ResK.go ?_ | skip); conv => whnf
    have a2 : At w2 b 0 [.string ⟨#[]⟩, .bool true] := h2.at
    have hnil : numsR s = ([], none) := by
      rw [hd]
      cases s1 with
      | none => rfl
      | some r => obtain ⟨rfl, _⟩ := hx2 r rfl; dsimp only; rw [if_pos hbig]
    rw [hnil]
    exact ⟨_, rfl, World.ownsRow_nil _ _ _ _, h2, k1.trans' k2⟩
  cases s1 with
  | none =>
    have hn0 := hnn rfl
    obtain rfl := hx1 rfl
    have hnil : numsR s = ([], none) := hd
    refine KGO ?_
    refine Loop.intro (ι := Unit) (fun i => [(0, .pointer (some ⟨b, 0, none⟩)), (3, .int .i64 (n : Nat)), (4, .slice none 0 0), (5, .int .i64 0)])
      (fun i wr => wr = w1) (fun i => 0) () ⟨rfl, rfl, rfl, rfl, trivial⟩ rfl ?_
    rintro ⟨⟩ g wr rfl
    (first | refine Then.go hmix ?_ | refine Sat.go hmix ?_ | refine ResK.go ?_ | skip); conv => whnf
    have q2 := Keeps.refl wr none_
    refine KGO ?_
    rw [hnil]
    exact ⟨_, rfl, World.ownsRow_nil _ _ _ _, h1, k1⟩
  | some r =>
    obtain ⟨rfl, rfl⟩ := hx2 r rfl
    have hle : r.length ≤ stLen s := hle
    have hb47 : n ≤ 8796093022208 := by omega
    have hd : numsR s = (match numsG n (some r) with | (_, none) => ([], none) | p => p) := by rw [hd]; dsimp only; rw [if_neg hbig]
    refine KGO ?_
    refine Loop.intro (ι := Nat × List Nat × List UInt8 × Option Addr × Nat) (fun i => [(0, .pointer (some ⟨b, 0, none⟩)), (3, .int .i64 (n : Nat)), (4, .slice i.2.2.2.1 i.2.1.length i.2.2.2.2), (5, .int .i64 (i.1 : Nat))])
      (fun i wr => Keeps w wr (one_ b) ∧ VarK wr b 87 (rdC (some i.2.2.1)) ∧ OwnI wr w.heap.size (.slice i.2.2.2.1 i.2.1.length i.2.2.2.2) (iL i.2.1) ∧ i.1 ≤ n ∧ i.2.1.length = i.1 ∧ i.2.2.1.length ≤ stLen s ∧
        numsG n (some r) = (i.2.1 ++ (numsG (n - i.1) (some i.2.2.1)).1, (numsG (n - i.1) (some i.2.2.1)).2)) (fun i => n - i.1) (0, [], r, none, 0) ⟨rfl, rfl, rfl, rfl, trivial⟩
      ⟨k1, h1, World.ownsRow_nil _ _ _ _, by omega, rfl, hle, by simp⟩ ?_
    rintro ⟨i, outs, q, a, c⟩ g wr ⟨hK, hv, ho, hi, hol, hst, hg⟩
    dsimp only at hv ho hi hol hst hg ⊢
    (first | refine Then.go hmix ?_ | refine Sat.go hmix ?_ | refine ResK.go ?_ | skip); conv => whnf
    by_cases hlt2 : i < n
    · refine KGO ?_
      refine CallS.of (Try.call29 _ _) (rf_RNum02 (some q) hv (fun u e => by injection e with e; subst e; omega)) ?_
      rintro e w3 ⟨rfl, h3, k3⟩
      refine ⟨_, rfl, ?_⟩; (first | refine Then.go hmix ?_ | refine Sat.go hmix ?_ | refine ResK.go ?_ | skip); conv => whnf
      have o3 : OwnI w3 w.heap.size (.slice a outs.length c) (iL outs) := own_keep ho k3 (fun g hg e => by
        rcases ho.2 with ⟨hn, _⟩ | ⟨g', cap, cur, he, hB, _⟩
        · rw [hn] at hg; cases hg
        · rw [he] at hg; have e1 : g' = g := by simpa [Value.ownBlock] using hg
          have e : g = b := e
          omega)
      have K3 := hK.trans' k3
      have hqlt := numR_lt (some q)
      have hstq := numR_stLen (some q)
      have hgq : numsG (n - i) (some q) = match numR (some q) with | (_, none) => ([], none) | (m, some r) => (match numsG (n - (i + 1)) (some r) with | (l, s) => (m :: l, s)) := by
        obtain ⟨k, hk⟩ : ∃ k, n - i = k + 1 := ⟨n - i - 1, by omega⟩
        rw [hk, show n - (i + 1) = k by omega]; rfl
      obtain ⟨m, t2, hm⟩ : ∃ m t2, numR (some q) = (m, t2) := ⟨_, _, rfl⟩
      rw [hm] at hgq hqlt h3 hstq
      rw [hm]
      dsimp only at hgq hqlt h3 hstq ⊢
      refine RunV.of (bs1I _ _) ?_
      have k4 : Keeps w3 (w3.alloc (.cells (List.toArray (inC (m : Int))) 3)) none_ := (Keeps.refl _ _).alloc _
      have h4 := at_fresh w3 3 (inC (m : Int))
      have o4 := own_keep0 o3 k4
      have v4 := h3.keep0 k4
      generalize w3.alloc (.cells (List.toArray (inC (m : Int))) 3) = w4 at *
      generalize w3.heap.size = g4 at *
      refine KGO ?_
      have K4 := K3.trans0 k4
      have hol2 := iL_len outs
      rw [← hol2]
      rw [← hol2] at o4
      refine tyI.app1 (m : Int) o4 K4.size h4 (by omega) (by omega) fun v5 w5 o5 k5 => ?_
      have hap : iL outs ++ [(m : Int)] = iL (outs ++ [m]) := by simp [iL]
      rw [hap] at o5
      obtain ⟨a5, c5, rfl⟩ := own_shape o5
      have K5 := own_leC o4 k5 K4 (Nat.le_refl _)
      have v5 : VarK w5 b 87 (rdC t2) := v4.keep k5 (fun e => by
        rcases o4.2 with ⟨hn, _⟩ | ⟨g', cap, cur, he, hB, _⟩
        · have e : Value.ownBlock (.slice a (iL outs).length c) = some b := e
          rw [hn] at e; cases e
        · have e : Value.ownBlock (.slice a (iL outs).length c) = some b := e
          rw [he] at e; have e1 : g' = b := by simpa [Value.ownBlock] using e
          omega)
      cases t2 with
      | none =>
        have a5 : At w5 b 0 [.string ⟨#[]⟩, .bool true] := v5.at
        have q5 := Keeps.refl w5 none_
        have hnil : numsR s = ([], none) := by rw [hd, hg, hgq]
        refine KGO ?_
        rw [hnil]
        exact ⟨_, rfl, World.ownsRow_nil _ _ _ _, v5, K5⟩
      | some q2 =>
        have a5' : At w5 b 0 [.string (str q2), .bool false] := v5.at
        have q5 := Keeps.refl w5 none_
        refine KGO ?_
        refine ⟨(i + 1, outs ++ [m], q2, a5, c5), ⟨rfl, rfl, congrArg (fun n => Value.slice a5 n c5) (iL_len _), v_int (by simp), trivial⟩, ⟨K5, v5, ?_, by omega, by simp [hol], Nat.le_trans hstq hst, ?_⟩, by dsimp only; omega⟩
        · rw [iL_len] at o5; exact o5
        · dsimp only
          rw [hg, hgq]; simp
    · refine KGO ?_
      have hin : i = n := by omega
      subst hin
      rw [Nat.sub_self] at hg
      have hg : numsG i (some r) = (outs, some q) := by rw [hg]; simp [numsG]
      rw [hd, hg]
      exact ⟨_, rfl, ho, hv, hK⟩
end
end Go.Proofs.Ytcplagfblmemhaa

-- alias Try
namespace Go.Proofs.Ytcplagfblmemhaa
set_option linter.unusedVariables false
open Go.Shelf Go.RowKit Go.Pw Go.Vc Go.Cs Go.Lib Go.Cd
set_option linter.unusedVariables false
set_option maxRecDepth 100000
section
variable {w : World}
theorem ch_Chunk (a : Option Addr) (l c : Nat) : Calls Try.prog 25 #[.slice a l c, .int .i64 3] w fun e w' =>
    e = .returned (.func (.func 47) #[] #[.pointer (some ⟨w.heap.size, 0, none⟩), .pointer (some ⟨w.heap.size + 1, 0, none⟩)]) ∧
      VarK w' w.heap.size 38 [.slice a l c] ∧ VarK w' (w.heap.size + 1) 3 [.int .i64 3] ∧ Keeps w w' none_ ∧ w'.heap.size = w.heap.size + 2 := by
  refine calls_of_vc (args := [.slice a l c, .int .i64 3]) Try.func25 rfl (Nat.le_of_ble_eq_true rfl) ?_; refine Sat.go hmix ?_; conv => whnf
  have v1 := VarK.new w 38 [.slice a l c]
  have k1 : Keeps w (w.alloc (.cells (List.toArray [.slice a l c]) 38)) none_ := (Keeps.refl _ _).alloc _
  have z1 : (w.alloc (.cells (List.toArray [.slice a l c]) 38)).heap.size = w.heap.size + 1 := by simp
  generalize w.alloc (.cells (List.toArray [.slice a l c]) 38) = w1 at *
  have v2 := VarK.new w1 3 [.int .i64 3]
  have k2 : Keeps w1 (w1.alloc (.cells (List.toArray [.int .i64 3]) 3)) none_ := (Keeps.refl _ _).alloc _
  have z2 : (w1.alloc (.cells (List.toArray [.int .i64 3]) 3)).heap.size = w1.heap.size + 1 := by simp
  have v12 := v1.keep0 k2
  generalize w1.alloc (.cells (List.toArray [.int .i64 3]) 3) = w2 at *
  rw [z1] at v2 z2 ⊢
  have a2 := v2.at
  have q2 := Keeps.refl w2 none_
  refine KGO ?_
  exact ⟨rfl, v12, v2, k1.trans0 k2, z2⟩
theorem slice3I (g o n c l h : Nat) (hl : l < h) (hh : h ≤ c) (w : World) : (Instr.sliceAt 38 (.slice (some ⟨g, o, none⟩) n c) (some (.int .i64 (l : Nat))) (some (.int .i64 (h : Nat))) (some (.int .i64 (h : Nat)))).run Try.prog w = .ok (.slice (some ⟨g, o + l, none⟩) (h - l) (h - l)) w := by
  obtain ⟨i, hi, hi2⟩ := Option.map_eq_some_iff.1 infoI
  simp only [Prod.mk.injEq] at hi2
  have hne : ¬ h = l := by omega
  simp only [Instr.sliceAt, Instr.slice, Instr.sliceBounds, Sem.run_bind, und_ok Try.underlying38, Result.andThen_ok, size_ok hi]
  rw [run_sliceBound (P := Try.prog) (w := w) .i64 (h : Int) c _ (by omega) (by omega)]
  simp only [Result.andThen_ok, Int.toNat_natCast]
  rw [run_sliceBound (P := Try.prog) (w := w) .i64 (h : Int) h _ (by omega) (by omega)]
  simp only [Result.andThen_ok, Int.toNat_natCast]
  rw [run_sliceBound (P := Try.prog) (w := w) .i64 (l : Int) h _ (by omega) (by omega)]
  simp only [Result.andThen_ok, Int.toNat_natCast, Sem.run_pure, hi2.2.1, if_neg hne, Option.map_some, add_none, Nat.mul_one]
def chE (g o n : Nat) (j : Nat) : List Value := [.slice (some ⟨g, o + 3 * j, none⟩) (min 3 (n - 3 * j)) (min 3 (n - 3 * j))]
set_option maxHeartbeats 4000000 in
theorem ch_iter {n c b1 b2 L : Nat} {a : Option Addr} {g o : Nat} (ha : 0 < n → a = some ⟨g, o, none⟩) (hnc : n ≤ c) (hn : n ≤ 1000000) (J Jx : List Nat → World → Prop)
    (hJ : ∀ pre W, J pre W → VarK W b1 38 [.slice a n c] ∧ VarK W b2 3 [.int .i64 3]) (hab : ∀ pre W W', J pre W → Keeps W W' none_ → J pre W')
    (hY : ∀ pre W, J pre W → pre = List.range pre.length → 3 * pre.length < n → YieldS Try.prog L (chE g o n pre.length) W fun v W' => (v = .bool true ∧ J (pre ++ [pre.length]) W') ∨ (v = .bool false ∧ Jx (pre ++ [pre.length]) W'))
    (h0 : J [] w) :
    Calls Try.prog 47 #[.func (.yield L) #[] #[], .pointer (some ⟨b1, 0, none⟩), .pointer (some ⟨b2, 0, none⟩)] w fun e W' => (∃ v, e = .returned v) ∧ ((∃ xs, xs = List.range ((n + 2) / 3) ∧ J xs W') ∨ ∃ pre, Jx pre W') := by
  refine calls_of_vc (args := [.func (.yield L) #[] #[], .pointer (some ⟨b1, 0, none⟩), .pointer (some ⟨b2, 0, none⟩)]) Try.func47 rfl (Nat.le_of_ble_eq_true rfl) ?_; refine Sat.go hmix ?_; conv => whnf
  refine Loop.intro (ι := Nat) (fun j => [(0, .func (.yield L) #[] #[]), (1, .pointer (some ⟨b1, 0, none⟩)), (2, .pointer (some ⟨b2, 0, none⟩)), (4, .int .i64 ((3 * j : Nat) : Int))])
    (fun j wr => J (List.range j) wr ∧ 3 * j ≤ n + 2) (fun j => n + 3 - 3 * j) 0 ⟨rfl, rfl, rfl, rfl, trivial⟩ ⟨h0, by omega⟩ ?_
  rintro j gg wr ⟨hJr, hj⟩
  obtain ⟨v1, v2⟩ := hJ _ _ hJr
  have a1 := v1.at
  have a2 := v2.at
  have q1 := Keeps.refl wr none_
  (first | refine Then.go hmix ?_ | refine Sat.go hmix ?_ | refine ResK.go ?_ | skip); conv => whnf
  by_cases hlt : 3 * j < n
  · obtain rfl := ha (by omega)
    refine KGO ?_
    have hmin : min (3 : Int) ((n - 3 * j : Nat) : Int) = ((min 3 (n - 3 * j) : Nat) : Int) := by omega
    obtain ⟨m, hm⟩ : ∃ m, min 3 (n - 3 * j) = m := ⟨_, rfl⟩
    have hm1 : 1 ≤ m ∧ m ≤ 3 ∧ 3 * j + m ≤ n := by omega
    have hsum : ((3 * j : Nat) : Int) + min (3 : Int) ((n - 3 * j : Nat) : Int) = ((3 * j + m : Nat) : Int) := by omega
    rw [hsum]
    refine RunV.of (slice3I g o n c (3 * j) (3 * j + m) (by omega) (by omega) wr.drew) ?_
    refine KGO ?_
    have hy := hY (List.range j) wr.drew (hab _ _ _ hJr (Keeps.refl _ _).drew) (by simp) (by simpa using hlt)
    rw [List.length_range] at hy
    unfold chE at hy
    rw [hm] at hy
    rw [show 3 * j + m - 3 * j = m by omega]
    refine YieldS.of hy ?_
    rintro v w2 (⟨rfl, hJ2⟩ | ⟨rfl, hJ2⟩)
    · (first | refine Then.go hmix ?_ | refine Sat.go hmix ?_ | refine ResK.go ?_ | skip); conv => whnf
      obtain ⟨v21, v22⟩ := hJ _ _ hJ2
      have a22 := v22.at
      have q2 := Keeps.refl w2 none_
      refine KGO ?_
      refine ⟨j + 1, ⟨rfl, rfl, rfl, v_int (by omega), trivial⟩, ⟨by rw [List.range_succ]; exact hJ2, by omega⟩, by dsimp only; omega⟩
    · (first | refine Then.go hmix ?_ | refine Sat.go hmix ?_ | refine ResK.go ?_ | skip); conv => whnf
      refine KGO ?_
      exact ⟨⟨_, rfl⟩, .inr ⟨_, hJ2⟩⟩
  · refine KGO ?_
    refine ⟨⟨_, rfl⟩, .inl ⟨_, rfl, ?_⟩⟩
    rw [show (n + 2) / 3 = j by omega]; exact hJr
end
end Go.Proofs.Ytcplagfblmemhaa
