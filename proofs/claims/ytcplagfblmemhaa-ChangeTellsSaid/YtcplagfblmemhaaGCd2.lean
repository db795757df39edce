/- Helper text of this claim: Cd2, Cd3, Cx0, Cg0: lemmas and contracts that the proved statement rests on; no conditions of its own. -/
import Derived.Test.YtcplagfblmemhaaGAg6
import Derived.Test.YtcplagfblmemhaaGAg0
import Derived.Test.YtcplagfblmemhaaWcz
-- alias Try
namespace Go.Proofs.Ytcplagfblmemhaa
set_option linter.unusedVariables false
open Go.Shelf Go.RowKit Go.Pw Go.Vc Go.Cs Go.Lib Go.Cd
set_option linter.unusedVariables false
set_option maxRecDepth 100000
theorem str_drop (u : List UInt8) (k : Nat) : (str u).extract k u.length = str (u.drop k) := by
  apply ByteArray.ext
  simp [str]
  exact List.take_of_length_le (by simp)
def valL : List UInt8 → Nat
  | [] => 0
  | b :: r => b.toNat % 128 + 128 * valL r
theorem valL_lt : ∀ l : List UInt8, valL l < 128 ^ l.length
  | [] => by simp [valL]
  | b :: r => by
    have := valL_lt r
    simp only [valL, List.length_cons, Nat.pow_succ]
    omega
theorem valL_app (b : UInt8) : ∀ l : List UInt8, valL (l ++ [b]) = valL l + b.toNat % 128 * 128 ^ l.length
  | [] => by simp [valL]
  | a :: r => by
    have := valL_app b r
    simp only [List.cons_append, valL, this, List.length_cons, Nat.pow_succ]
    rw [Nat.mul_add, ← Nat.add_assoc, Nat.mul_left_comm, Nat.mul_comm 128 (128 ^ r.length)]
theorem numD_pre : ∀ (pre : List UInt8) (k : Nat) (z : Bool) (r : List UInt8), (∀ b ∈ pre, 128 ≤ b.toNat) → pre.length ≤ k →
    numD k z (pre ++ r) = (numD (k - pre.length) (z || decide (0 < pre.length)) r).map fun p => (valL pre + 128 ^ pre.length * p.1, p.2)
  | [], k, z, r, _, _ => by
    simp only [List.nil_append, List.length_nil, Nat.sub_zero, valL, Nat.pow_zero, Nat.zero_add, Nat.one_mul, Nat.lt_irrefl, decide_false, Bool.or_false]
    cases numD k z r <;> rfl
  | b :: pre, k + 1, z, r, h, hk => by
    have hb := h b List.mem_cons_self
    have hb2 := b.toNat_lt
    simp only [List.cons_append, numD]
    rw [if_pos hb, numD_pre pre k true r (fun x hx => h x (List.mem_cons_of_mem _ hx)) (by simpa using hk)]
    simp only [List.length_cons, Nat.add_sub_add_right, Bool.true_or, Nat.zero_lt_succ, decide_true, Bool.or_true]
    cases numD (k - pre.length) true r with
    | none => rfl
    | some p =>
      simp only [Option.map_some, valL, Nat.pow_succ]
      congr 2
      rw [Nat.mul_add, show b.toNat - 128 = b.toNat % 128 by omega, Nat.add_assoc, Nat.mul_comm (128 ^ pre.length) 128, Nat.mul_assoc]
theorem shl_step {q m m2 j : Nat} (hq : q < 256) (hj : j < 9) (hm : m < 128 ^ j) (hva : m2 = m + q % 128 * 128 ^ j) :
    (m : Int) + IntKind.i64.wrap ((q : Int).tmod 128 * 2 ^ min (7 * (j : Int)).toNat IntKind.i64.bits) = (m2 : Int) ∧ m2 < 2 ^ 63 := by
  have hb : (IntKind.i64.bits : Nat) = 64 := rfl
  have h7 : min (7 * (j : Int)).toNat IntKind.i64.bits = 7 * j := by rw [hb]; omega
  have hp : (2 : Int) ^ (7 * j) = ((128 ^ j : Nat) : Int) := by rw [Int.pow_mul]; norm_cast
  have hle : 128 ^ j ≤ 128 ^ 8 := Nat.pow_le_pow_right (by decide) (by omega)
  have hmul : q % 128 * 128 ^ j ≤ 127 * 128 ^ 8 := Nat.mul_le_mul (by omega) hle
  rw [h7, hp, tmod_nat, ← Int.natCast_mul, wrap_i64 (by omega) (by omega), hva]
  refine ⟨by rw [Int.natCast_add], by omega⟩
def rdC : St → List Value
  | none => [.string ⟨#[]⟩, .bool true]
  | some u => [.string (str u), .bool false]
section
variable {w : World} {b : Nat}
theorem cd_fail (s : St) (h : VarK w b 83 (rdC s)) : Calls Try.prog 46 #[.pointer (some ⟨b, 0, none⟩)] w fun e w' => e = .returned (.tuple #[]) ∧ VarK w' b 83 (rdC none) ∧ Keeps w w' (one_ b) := by
  obtain ⟨x, y, hc⟩ : ∃ x y, rdC s = [x, y] := by cases s <;> exact ⟨_, _, rfl⟩
  rw [hc] at h
  refine calls_of_vc (args := [.pointer (some ⟨b, 0, none⟩)]) Try.func46 rfl (Nat.le_of_ble_eq_true rfl) ?_; refine Sat.go hmix ?_; conv => whnf
  refine KGO ?_
  refine Store.cellK (i := 0) h (by simp) (by rfl) ⟨rfl, by simp, by simp⟩ fun w1 v1 k1 => ?_
  (first | refine Then.go hmix ?_ | refine Sat.go hmix ?_ | refine ResK.go ?_ | skip); conv => whnf
  refine Store.cellK (i := 1) v1 (by simp) (by rfl) ⟨rfl, by simp, by simp⟩ fun w2 v2 k2 => ?_
  (first | refine Then.go hmix ?_ | refine Sat.go hmix ?_ | refine ResK.go ?_ | skip); conv => whnf
  exact ⟨rfl, v2, k1.trans' k2⟩
set_option maxHeartbeats 8000000 in
theorem cd_RNum (s : St) (h : VarK w b 83 (rdC s)) (hs : ∀ u, s = some u → u.length ≤ 140737488355328) :
    Calls Try.prog 24 #[.pointer (some ⟨b, 0, none⟩)] w fun e w' => e = .returned (.int .i64 ((numR s).1 : Nat)) ∧ VarK w' b 83 (rdC (numR s).2) ∧ Keeps w w' (one_ b) := by
  obtain ⟨u, x, hc, hr, hux⟩ : ∃ u x, rdC s = [.string (str u), .bool x] ∧ (numR s = match numD 9 false u with | none => (0, none) | some (n, r) => (n, some r)) ∧ (s = none ∧ u = [] ∨ s = some u ∧ x = false) := by
    cases s with
    | none => exact ⟨[], true, rfl, rfl, .inl ⟨rfl, rfl⟩⟩
    | some u => exact ⟨u, false, rfl, rfl, .inr ⟨rfl, rfl⟩⟩
  have hul : u.length ≤ 140737488355328 := by
    rcases hux with ⟨_, rfl⟩ | ⟨e, _⟩
    · simp
    · exact hs u e
  rw [hr]
  have h0 := h
  rw [hc] at h
  have ha := h.at
  refine calls_of_vc (args := [.pointer (some ⟨b, 0, none⟩)]) Try.func24 rfl (Nat.le_of_ble_eq_true rfl) ?_; refine Sat.go hmix ?_; conv => whnf
  refine Loop.intro (ι := Nat) (fun i => [(0, .pointer (some ⟨b, 0, none⟩)), (3, .int .i64 (valL (u.take i) : Nat)), (4, .int .i64 (i : Nat))])
    (fun i wr => Keeps w wr none_ ∧ i ≤ u.length ∧ i ≤ 9 ∧ ∀ c ∈ u.take i, 128 ≤ c.toNat) (fun i => 9 - i) 0 ⟨rfl, rfl, rfl, trivial⟩ ⟨Keeps.refl _ _, by omega, by omega, by simp⟩ ?_
  rintro i g wr ⟨hK, hi, hi9, hb⟩
  (first | refine Then.go hmix ?_ | refine Sat.go hmix ?_ | refine ResK.go ?_ | skip); conv => whnf
  have hsz : (str u).size = u.length := rfl
  have hpre := numD_pre (u.take i) 9 false (u.drop i) hb (by rw [List.length_take]; omega)
  rw [List.take_append_drop, List.length_take, Nat.min_eq_left hi] at hpre
  by_cases hlt : i < u.length ∧ i < 9
  · obtain ⟨hlt, hlt9⟩ := hlt
    have hvl := valL_lt (u.take i)
    rw [List.length_take, Nat.min_eq_left hi] at hvl
    have hx : u.take (i + 1) = u.take i ++ [u[i]] := List.take_succ_eq_append_getElem hlt
    have hva := valL_app u[i] (u.take i)
    rw [← hx, List.length_take, Nat.min_eq_left hi] at hva
    have hby : (byteAt (str u) i).toNat = u[i].toNat := by
      unfold byteAt; simp [str, hlt]
    obtain ⟨c, hcu⟩ : ∃ c, u[i] = c := ⟨_, rfl⟩
    have hcl := c.toNat_lt
    obtain ⟨m, hm⟩ : ∃ m, valL (u.take i) = m := ⟨_, rfl⟩
    obtain ⟨m2, hm2⟩ : ∃ m2, valL (u.take (i + 1)) = m2 := ⟨_, rfl⟩
    obtain ⟨q, hq⟩ : ∃ q, c.toNat = q := ⟨_, rfl⟩
    rw [hm, hcu, hq, hm2] at hva
    rw [hm] at hvl hpre ⊢
    rw [hcu, hq] at hby
    rw [hq] at hcl
    have hw8 : IntKind.i64.wrap ((byteAt (str u) i).toNat : Int) = (q : Int) := by rw [hby]; exact wrap_i64 (by omega) (by omega)
    obtain ⟨hsh, hm63⟩ := shl_step hcl hlt9 hvl hva
    have hend : ¬ 128 ≤ q → numD 9 false u = if 0 < i ∧ q = 0 then none else some (m2, u.drop (i + 1)) := fun hn => by
      rw [hpre, List.drop_eq_getElem_cons hlt, hcu]
      obtain ⟨k, hk⟩ : ∃ k, 9 - i = k + 1 := ⟨8 - i, by omega⟩
      rw [hk]
      simp only [numD, hq, if_neg hn, Bool.false_or, decide_eq_true_eq]
      split
      · rfl
      · simp only [Option.map_some]; congr 2; rw [hva, Nat.mod_eq_of_lt (by omega : q < 128), Nat.mul_comm]
    have hnone : numD 9 false u = none → ∀ wx, Keeps w wx none_ → VarK wx b 83 [.string (str u), .bool x] := fun _ wx kx => h.keep0 kx
    obtain rfl | rfl | rfl | rfl | rfl | rfl | rfl | rfl | rfl : i = 0 ∨ i = 1 ∨ i = 2 ∨ i = 3 ∨ i = 4 ∨ i = 5 ∨ i = 6 ∨ i = 7 ∨ i = 8 := by omega
    · skip
      refine KGO ?_
      rw [hw8, hsh]
      by_cases hbig : 128 ≤ q
      · refine KGO ?_
        exact ⟨1, ⟨rfl, v_int (by rw [hm2]), rfl, trivial⟩, ⟨hK, by omega, by omega, by
          rw [hx]
          intro c' hc'
          rcases List.mem_append.1 hc' with h' | h'
          · exact hb c' h'
          · rw [List.mem_singleton.1 h', hcu, hq]; exact hbig⟩, by dsimp only; omega⟩
      · have hend := hend hbig
        rw [if_neg (by omega)] at hend
        by_cases hz : q = 0
        · skip
          refine KGO ?_
          try (refine Cut.fromI (l := ((0 : Nat) : Int) + 1) (by omega) (by omega) (by omega) ?_; (first | refine Then.go hmix ?_ | refine Sat.go hmix ?_ | refine ResK.go ?_ | skip); conv => whnf)
          refine Store.cellK (i := 0) (h.keep0 hK) (by simp) (by rfl) ⟨rfl, by simp, by simp⟩ fun w2 v2 k2 => ?_
          refine KGO ?_
          rw [hend]
          refine ⟨rfl, ?_, (hK.of_none (c := one_ b)).trans' k2⟩
          have e2 : (str u).extract 1 (str u).size = str (u.drop 1) := by rw [hsz]; exact str_drop u 1
          show VarK w2 b 83 [.string (str (u.drop 1)), .bool false]
          rw [← e2]
          rcases hux with ⟨_, hu⟩ | ⟨_, hx0⟩
          · rw [hu] at hlt; simp at hlt
          · rw [hx0] at v2; exact v2
        · skip
          refine KGO ?_
          try (refine Cut.fromI (l := ((0 : Nat) : Int) + 1) (by omega) (by omega) (by omega) ?_; (first | refine Then.go hmix ?_ | refine Sat.go hmix ?_ | refine ResK.go ?_ | skip); conv => whnf)
          refine Store.cellK (i := 0) (h.keep0 hK) (by simp) (by rfl) ⟨rfl, by simp, by simp⟩ fun w2 v2 k2 => ?_
          refine KGO ?_
          rw [hend]
          refine ⟨rfl, ?_, (hK.of_none (c := one_ b)).trans' k2⟩
          have e2 : (str u).extract 1 (str u).size = str (u.drop 1) := by rw [hsz]; exact str_drop u 1
          show VarK w2 b 83 [.string (str (u.drop 1)), .bool false]
          rw [← e2]
          rcases hux with ⟨_, hu⟩ | ⟨_, hx0⟩
          · rw [hu] at hlt; simp at hlt
          · rw [hx0] at v2; exact v2
    · skip
      refine KGO ?_
      rw [hw8, hsh]
      by_cases hbig : 128 ≤ q
      · refine KGO ?_
        exact ⟨2, ⟨rfl, v_int (by rw [hm2]), rfl, trivial⟩, ⟨hK, by omega, by omega, by
          rw [hx]
          intro c' hc'
          rcases List.mem_append.1 hc' with h' | h'
          · exact hb c' h'
          · rw [List.mem_singleton.1 h', hcu, hq]; exact hbig⟩, by dsimp only; omega⟩
      by_cases hz : q = 0
      · have hend := hend hbig
        rw [if_pos ⟨by omega, hz⟩] at hend
        refine KGO ?_
        refine CallS.of (Try.call46 _ _) (cd_fail s (h0.keep0 hK)) ?_
        rintro e w2 ⟨rfl, v2, k2⟩
        refine ⟨_, rfl, ?_⟩; (first | refine Then.go hmix ?_ | refine Sat.go hmix ?_ | refine ResK.go ?_ | skip); conv => whnf
        rw [hend]
        exact ⟨rfl, v2, (hK.of_none (c := one_ b)).trans' k2⟩
      · have hend := hend hbig
        rw [if_neg (fun h => hz h.2)] at hend
        refine KGO ?_
        try (refine Cut.fromI (l := ((1 : Nat) : Int) + 1) (by omega) (by omega) (by omega) ?_; (first | refine Then.go hmix ?_ | refine Sat.go hmix ?_ | refine ResK.go ?_ | skip); conv => whnf)
        refine Store.cellK (i := 0) (h.keep0 hK) (by simp) (by rfl) ⟨rfl, by simp, by simp⟩ fun w2 v2 k2 => ?_
        refine KGO ?_
        rw [hend]
        refine ⟨rfl, ?_, (hK.of_none (c := one_ b)).trans' k2⟩
        have e2 : (str u).extract 2 (str u).size = str (u.drop 2) := by rw [hsz]; exact str_drop u 2
        show VarK w2 b 83 [.string (str (u.drop 2)), .bool false]
        rw [← e2]
        rcases hux with ⟨_, hu⟩ | ⟨_, hx0⟩
        · rw [hu] at hlt; simp at hlt
        · rw [hx0] at v2; exact v2
    · skip
      refine KGO ?_
      rw [hw8, hsh]
      by_cases hbig : 128 ≤ q
      · refine KGO ?_
        exact ⟨3, ⟨rfl, v_int (by rw [hm2]), rfl, trivial⟩, ⟨hK, by omega, by omega, by
          rw [hx]
          intro c' hc'
          rcases List.mem_append.1 hc' with h' | h'
          · exact hb c' h'
          · rw [List.mem_singleton.1 h', hcu, hq]; exact hbig⟩, by dsimp only; omega⟩
      by_cases hz : q = 0
      · have hend := hend hbig
        rw [if_pos ⟨by omega, hz⟩] at hend
        refine KGO ?_
        refine CallS.of (Try.call46 _ _) (cd_fail s (h0.keep0 hK)) ?_
        rintro e w2 ⟨rfl, v2, k2⟩
        refine ⟨_, rfl, ?_⟩; (first | refine Then.go hmix ?_ | refine Sat.go hmix ?_ | refine ResK.go ?_ | skip); conv => whnf
        rw [hend]
        exact ⟨rfl, v2, (hK.of_none (c := one_ b)).trans' k2⟩
      · have hend := hend hbig
        rw [if_neg (fun h => hz h.2)] at hend
        refine KGO ?_
        try (refine Cut.fromI (l := ((2 : Nat) : Int) + 1) (by omega) (by omega) (by omega) ?_; (first | refine Then.go hmix ?_ | refine Sat.go hmix ?_ | refine ResK.go ?_ | skip); conv => whnf)
        refine Store.cellK (i := 0) (h.keep0 hK) (by simp) (by rfl) ⟨rfl, by simp, by simp⟩ fun w2 v2 k2 => ?_
        refine KGO ?_
        rw [hend]
        refine ⟨rfl, ?_, (hK.of_none (c := one_ b)).trans' k2⟩
        have e2 : (str u).extract 3 (str u).size = str (u.drop 3) := by rw [hsz]; exact str_drop u 3
        show VarK w2 b 83 [.string (str (u.drop 3)), .bool false]
        rw [← e2]
        rcases hux with ⟨_, hu⟩ | ⟨_, hx0⟩
        · rw [hu] at hlt; simp at hlt
        · rw [hx0] at v2; exact v2
    · skip
      refine KGO ?_
      rw [hw8, hsh]
      by_cases hbig : 128 ≤ q
      · refine KGO ?_
        exact ⟨4, ⟨rfl, v_int (by rw [hm2]), rfl, trivial⟩, ⟨hK, by omega, by omega, by
          rw [hx]
          intro c' hc'
          rcases List.mem_append.1 hc' with h' | h'
          · exact hb c' h'
          · rw [List.mem_singleton.1 h', hcu, hq]; exact hbig⟩, by dsimp only; omega⟩
      by_cases hz : q = 0
      · have hend := hend hbig
        rw [if_pos ⟨by omega, hz⟩] at hend
        refine KGO ?_
        refine CallS.of (Try.call46 _ _) (cd_fail s (h0.keep0 hK)) ?_
        rintro e w2 ⟨rfl, v2, k2⟩
        refine ⟨_, rfl, ?_⟩; (first | refine Then.go hmix ?_ | refine Sat.go hmix ?_ | refine ResK.go ?_ | skip); conv => whnf
        rw [hend]
        exact ⟨rfl, v2, (hK.of_none (c := one_ b)).trans' k2⟩
      · have hend := hend hbig
        rw [if_neg (fun h => hz h.2)] at hend
        refine KGO ?_
        try (refine Cut.fromI (l := ((3 : Nat) : Int) + 1) (by omega) (by omega) (by omega) ?_; (first | refine Then.go hmix ?_ | refine Sat.go hmix ?_ | refine ResK.go ?_ | skip); conv => whnf)
        refine Store.cellK (i := 0) (h.keep0 hK) (by simp) (by rfl) ⟨rfl, by simp, by simp⟩ fun w2 v2 k2 => ?_
        refine KGO ?_
        rw [hend]
        refine ⟨rfl, ?_, (hK.of_none (c := one_ b)).trans' k2⟩
        have e2 : (str u).extract 4 (str u).size = str (u.drop 4) := by rw [hsz]; exact str_drop u 4
        show VarK w2 b 83 [.string (str (u.drop 4)), .bool false]
        rw [← e2]
        rcases hux with ⟨_, hu⟩ | ⟨_, hx0⟩
        · rw [hu] at hlt; simp at hlt
        · rw [hx0] at v2; exact v2
    · skip
      refine KGO ?_
      rw [hw8, hsh]
      by_cases hbig : 128 ≤ q
      · refine KGO ?_
        exact ⟨5, ⟨rfl, v_int (by rw [hm2]), rfl, trivial⟩, ⟨hK, by omega, by omega, by
          rw [hx]
          intro c' hc'
          rcases List.mem_append.1 hc' with h' | h'
          · exact hb c' h'
          · rw [List.mem_singleton.1 h', hcu, hq]; exact hbig⟩, by dsimp only; omega⟩
      by_cases hz : q = 0
      · have hend := hend hbig
        rw [if_pos ⟨by omega, hz⟩] at hend
        refine KGO ?_
        refine CallS.of (Try.call46 _ _) (cd_fail s (h0.keep0 hK)) ?_
        rintro e w2 ⟨rfl, v2, k2⟩
        refine ⟨_, rfl, ?_⟩; (first | refine Then.go hmix ?_ | refine Sat.go hmix ?_ | refine ResK.go ?_ | skip); conv => whnf
        rw [hend]
        exact ⟨rfl, v2, (hK.of_none (c := one_ b)).trans' k2⟩
      · have hend := hend hbig
        rw [if_neg (fun h => hz h.2)] at hend
        refine KGO ?_
        try (refine Cut.fromI (l := ((4 : Nat) : Int) + 1) (by omega) (by omega) (by omega) ?_; (first | refine Then.go hmix ?_ | refine Sat.go hmix ?_ | refine ResK.go ?_ | skip); conv => whnf)
        refine Store.cellK (i := 0) (h.keep0 hK) (by simp) (by rfl) ⟨rfl, by simp, by simp⟩ fun w2 v2 k2 => ?_
        refine KGO ?_
        rw [hend]
        refine ⟨rfl, ?_, (hK.of_none (c := one_ b)).trans' k2⟩
        have e2 : (str u).extract 5 (str u).size = str (u.drop 5) := by rw [hsz]; exact str_drop u 5
        show VarK w2 b 83 [.string (str (u.drop 5)), .bool false]
        rw [← e2]
        rcases hux with ⟨_, hu⟩ | ⟨_, hx0⟩
        · rw [hu] at hlt; simp at hlt
        · rw [hx0] at v2; exact v2
    · skip
      refine KGO ?_
      rw [hw8, hsh]
      by_cases hbig : 128 ≤ q
      · refine KGO ?_
        exact ⟨6, ⟨rfl, v_int (by rw [hm2]), rfl, trivial⟩, ⟨hK, by omega, by omega, by
          rw [hx]
          intro c' hc'
          rcases List.mem_append.1 hc' with h' | h'
          · exact hb c' h'
          · rw [List.mem_singleton.1 h', hcu, hq]; exact hbig⟩, by dsimp only; omega⟩
      by_cases hz : q = 0
      · have hend := hend hbig
        rw [if_pos ⟨by omega, hz⟩] at hend
        refine KGO ?_
        refine CallS.of (Try.call46 _ _) (cd_fail s (h0.keep0 hK)) ?_
        rintro e w2 ⟨rfl, v2, k2⟩
        refine ⟨_, rfl, ?_⟩; (first | refine Then.go hmix ?_ | refine Sat.go hmix ?_ | refine ResK.go ?_ | skip); conv => whnf
        rw [hend]
        exact ⟨rfl, v2, (hK.of_none (c := one_ b)).trans' k2⟩
      · have hend := hend hbig
        rw [if_neg (fun h => hz h.2)] at hend
        refine KGO ?_
        try (refine Cut.fromI (l := ((5 : Nat) : Int) + 1) (by omega) (by omega) (by omega) ?_; (first | refine Then.go hmix ?_ | refine Sat.go hmix ?_ | refine ResK.go ?_ | skip); conv => whnf)
        refine Store.cellK (i := 0) (h.keep0 hK) (by simp) (by rfl) ⟨rfl, by simp, by simp⟩ fun w2 v2 k2 => ?_
        refine KGO ?_
        rw [hend]
        refine ⟨rfl, ?_, (hK.of_none (c := one_ b)).trans' k2⟩
        have e2 : (str u).extract 6 (str u).size = str (u.drop 6) := by rw [hsz]; exact str_drop u 6
        show VarK w2 b 83 [.string (str (u.drop 6)), .bool false]
        rw [← e2]
        rcases hux with ⟨_, hu⟩ | ⟨_, hx0⟩
        · rw [hu] at hlt; simp at hlt
        · rw [hx0] at v2; exact v2
    · skip
      refine KGO ?_
      rw [hw8, hsh]
      by_cases hbig : 128 ≤ q
      · refine KGO ?_
        exact ⟨7, ⟨rfl, v_int (by rw [hm2]), rfl, trivial⟩, ⟨hK, by omega, by omega, by
          rw [hx]
          intro c' hc'
          rcases List.mem_append.1 hc' with h' | h'
          · exact hb c' h'
          · rw [List.mem_singleton.1 h', hcu, hq]; exact hbig⟩, by dsimp only; omega⟩
      by_cases hz : q = 0
      · have hend := hend hbig
        rw [if_pos ⟨by omega, hz⟩] at hend
        refine KGO ?_
        refine CallS.of (Try.call46 _ _) (cd_fail s (h0.keep0 hK)) ?_
        rintro e w2 ⟨rfl, v2, k2⟩
        refine ⟨_, rfl, ?_⟩; (first | refine Then.go hmix ?_ | refine Sat.go hmix ?_ | refine ResK.go ?_ | skip); conv => whnf
        rw [hend]
        exact ⟨rfl, v2, (hK.of_none (c := one_ b)).trans' k2⟩
      · have hend := hend hbig
        rw [if_neg (fun h => hz h.2)] at hend
        refine KGO ?_
        try (refine Cut.fromI (l := ((6 : Nat) : Int) + 1) (by omega) (by omega) (by omega) ?_; (first | refine Then.go hmix ?_ | refine Sat.go hmix ?_ | refine ResK.go ?_ | skip); conv => whnf)
        refine Store.cellK (i := 0) (h.keep0 hK) (by simp) (by rfl) ⟨rfl, by simp, by simp⟩ fun w2 v2 k2 => ?_
        refine KGO ?_
        rw [hend]
        refine ⟨rfl, ?_, (hK.of_none (c := one_ b)).trans' k2⟩
        have e2 : (str u).extract 7 (str u).size = str (u.drop 7) := by rw [hsz]; exact str_drop u 7
        show VarK w2 b 83 [.string (str (u.drop 7)), .bool false]
        rw [← e2]
        rcases hux with ⟨_, hu⟩ | ⟨_, hx0⟩
        · rw [hu] at hlt; simp at hlt
        · rw [hx0] at v2; exact v2
    · skip
      refine KGO ?_
      rw [hw8, hsh]
      by_cases hbig : 128 ≤ q
      · refine KGO ?_
        exact ⟨8, ⟨rfl, v_int (by rw [hm2]), rfl, trivial⟩, ⟨hK, by omega, by omega, by
          rw [hx]
          intro c' hc'
          rcases List.mem_append.1 hc' with h' | h'
          · exact hb c' h'
          · rw [List.mem_singleton.1 h', hcu, hq]; exact hbig⟩, by dsimp only; omega⟩
      by_cases hz : q = 0
      · have hend := hend hbig
        rw [if_pos ⟨by omega, hz⟩] at hend
        refine KGO ?_
        refine CallS.of (Try.call46 _ _) (cd_fail s (h0.keep0 hK)) ?_
        rintro e w2 ⟨rfl, v2, k2⟩
        refine ⟨_, rfl, ?_⟩; (first | refine Then.go hmix ?_ | refine Sat.go hmix ?_ | refine ResK.go ?_ | skip); conv => whnf
        rw [hend]
        exact ⟨rfl, v2, (hK.of_none (c := one_ b)).trans' k2⟩
      · have hend := hend hbig
        rw [if_neg (fun h => hz h.2)] at hend
        refine KGO ?_
        try (refine Cut.fromI (l := ((7 : Nat) : Int) + 1) (by omega) (by omega) (by omega) ?_; (first | refine Then.go hmix ?_ | refine Sat.go hmix ?_ | refine ResK.go ?_ | skip); conv => whnf)
        refine Store.cellK (i := 0) (h.keep0 hK) (by simp) (by rfl) ⟨rfl, by simp, by simp⟩ fun w2 v2 k2 => ?_
        refine KGO ?_
        rw [hend]
        refine ⟨rfl, ?_, (hK.of_none (c := one_ b)).trans' k2⟩
        have e2 : (str u).extract 8 (str u).size = str (u.drop 8) := by rw [hsz]; exact str_drop u 8
        show VarK w2 b 83 [.string (str (u.drop 8)), .bool false]
        rw [← e2]
        rcases hux with ⟨_, hu⟩ | ⟨_, hx0⟩
        · rw [hu] at hlt; simp at hlt
        · rw [hx0] at v2; exact v2
    · skip
      refine KGO ?_
      rw [hw8, hsh]
      by_cases hbig : 128 ≤ q
      · refine KGO ?_
        exact ⟨9, ⟨rfl, v_int (by rw [hm2]), rfl, trivial⟩, ⟨hK, by omega, by omega, by
          rw [hx]
          intro c' hc'
          rcases List.mem_append.1 hc' with h' | h'
          · exact hb c' h'
          · rw [List.mem_singleton.1 h', hcu, hq]; exact hbig⟩, by dsimp only; omega⟩
      by_cases hz : q = 0
      · have hend := hend hbig
        rw [if_pos ⟨by omega, hz⟩] at hend
        refine KGO ?_
        refine CallS.of (Try.call46 _ _) (cd_fail s (h0.keep0 hK)) ?_
        rintro e w2 ⟨rfl, v2, k2⟩
        refine ⟨_, rfl, ?_⟩; (first | refine Then.go hmix ?_ | refine Sat.go hmix ?_ | refine ResK.go ?_ | skip); conv => whnf
        rw [hend]
        exact ⟨rfl, v2, (hK.of_none (c := one_ b)).trans' k2⟩
      · have hend := hend hbig
        rw [if_neg (fun h => hz h.2)] at hend
        refine KGO ?_
        try (refine Cut.fromI (l := ((8 : Nat) : Int) + 1) (by omega) (by omega) (by omega) ?_; (first | refine Then.go hmix ?_ | refine Sat.go hmix ?_ | refine ResK.go ?_ | skip); conv => whnf)
        refine Store.cellK (i := 0) (h.keep0 hK) (by simp) (by rfl) ⟨rfl, by simp, by simp⟩ fun w2 v2 k2 => ?_
        refine KGO ?_
        rw [hend]
        refine ⟨rfl, ?_, (hK.of_none (c := one_ b)).trans' k2⟩
        have e2 : (str u).extract 9 (str u).size = str (u.drop 9) := by rw [hsz]; exact str_drop u 9
        show VarK w2 b 83 [.string (str (u.drop 9)), .bool false]
        rw [← e2]
        rcases hux with ⟨_, hu⟩ | ⟨_, hx0⟩
        · rw [hu] at hlt; simp at hlt
        · rw [hx0] at v2; exact v2
  · have hend : numD 9 false u = none := by
      rw [hpre]
      by_cases h9 : i = 9
      · subst h9; rfl
      · rw [List.drop_of_length_le (by omega)]
        obtain ⟨k, hk⟩ : ∃ k, 9 - i = k + 1 := ⟨8 - i, by omega⟩
        rw [hk]; rfl
    by_cases hlt1 : i < u.length
    · refine KGO ?_
      refine CallS.of (Try.call46 _ _) (cd_fail s (h0.keep0 hK)) ?_
      rintro e w2 ⟨rfl, v2, k2⟩
      refine ⟨_, rfl, ?_⟩; (first | refine Then.go hmix ?_ | refine Sat.go hmix ?_ | refine ResK.go ?_ | skip); conv => whnf
      rw [hend]
      exact ⟨rfl, v2, (hK.of_none (c := one_ b)).trans' k2⟩
    · refine KGO ?_
      refine CallS.of (Try.call46 _ _) (cd_fail s (h0.keep0 hK)) ?_
      rintro e w2 ⟨rfl, v2, k2⟩
      refine ⟨_, rfl, ?_⟩; (first | refine Then.go hmix ?_ | refine Sat.go hmix ?_ | refine ResK.go ?_ | skip); conv => whnf
      rw [hend]
      exact ⟨rfl, v2, (hK.of_none (c := one_ b)).trans' k2⟩
end
end Go.Proofs.Ytcplagfblmemhaa

-- alias Try
namespace Go.Proofs.Ytcplagfblmemhaa
set_option linter.unusedVariables false
open Go.Shelf Go.RowKit Go.Pw Go.Vc Go.Cs Go.Lib Go.Cd
set_option linter.unusedVariables false
set_option maxRecDepth 100000
theorem own_leC {w w' a : World} {c : Nat → Prop} {B s n : Nat} {e : TypeId} {v : Value} {xs : List Value} (h : w.ownsRow B e s v n xs) (k : Keeps w w' (own_ v)) (ha : Keeps a w c) (hB : a.heap.size ≤ B) : Keeps a w' c :=
  ha.trans k fun i hi hc => by
    exfalso
    rcases h.2 with ⟨rfl, _⟩ | ⟨g, cap, cur, rfl, hb, _⟩
    · cases hc
    · have e : g = i := by simpa [own_, Value.ownBlock] using hc
      omega
theorem bs1I (z : Int) (w : World) : (Instr.buildSlice 38 1 [(0, .int .i64 z)].toArray).run Try.prog w = .ok (.slice (some ⟨w.heap.size, 0, none⟩) 1 1) (w.alloc (.cells (List.toArray (inC z)) 3)) := by
  simp [Instr.buildSlice, go_sem, Try.runUnderlying38, inC]
def iL (l : List Nat) : List Int := l.map fun n : Nat => (n : Int)
theorem iL_len (l : List Nat) : (iL l).length = l.length := by simp [iL]
theorem numsE_len (l : List Nat) (h : ∀ n ∈ l, n < 2 ^ 63) : (l.flatMap numE).length ≤ 9 * l.length := by
  induction l with
  | nil => simp
  | cons n l ih =>
    have h1 := numE_len (h n List.mem_cons_self)
    have h2 := ih fun m hm => h m (List.mem_cons_of_mem _ hm)
    simp only [List.flatMap_cons, List.length_append, List.length_cons]; omega
section
variable {w : World} {b : Nat}
set_option maxHeartbeats 2000000 in
theorem cd_encI (l : List Nat) {v : Value} (hv : RowI w v (iL l)) (hb : ∀ n ∈ l, n < 2 ^ 63) (hl : l.length ≤ 1000000) :
    Calls Try.prog 52 #[v, .func (.func 32) #[] #[]] w fun e w' => e = .returned (.string (str (numsE l))) ∧ Keeps w w' none_ := by
  obtain ⟨a, cap, rfl, hr⟩ := hv
  rw [iL_len]
  refine calls_of_vc (args := [.slice a l.length cap, .func (.func 32) #[] #[]]) Try.func52 rfl (Nat.le_of_ble_eq_true rfl) ?_; refine Sat.go hmix ?_; conv => whnf
  have hb0 := bld_new w w.heap.size (Nat.le_refl _)
  have K0 : Keeps w (w.alloc (.cells #[.pointer none, .slice none 0 0] 91)) none_ := (Keeps.refl _ _).alloc _
  generalize w.alloc (.cells #[.pointer none, .slice none 0 0] 91) = w0 at *
  refine GO ?_
  refine CallS.of (Try.call32 _ _) (cd_Num l.length (by omega)) ?_
  rintro e w1 ⟨rfl, k1⟩
  refine ⟨_, rfl, ?_⟩; (first | refine Then.go hmix ?_ | refine Sat.go hmix ?_ | refine ResK.go ?_ | skip); conv => whnf
  have hln := numE_len (show l.length < 2 ^ 63 by omega)
  have hsz : (str (numE l.length)).size = (numE l.length).length := rfl
  have hb1 := bld_keep hb0 k1
  have K1 := K0.trans0 k1
  refine CallS.of (Try.call54 _ _) (s_writeString (str (numE l.length)) w1 hb1 (by rw [hsz]; simp; omega) K1.size) ?_
  rintro e w2 ⟨rfl, hb2, hbe, _⟩
  refine ⟨_, rfl, ?_⟩; (first | refine Then.go hmix ?_ | refine Sat.go hmix ?_ | refine ResK.go ?_ | skip); conv => whnf
  have K2 := K1.below' hbe (Nat.le_refl _)
  rw [List.nil_append, show L (str (numE l.length)) = numE l.length from rfl] at hb2
  refine Loop.intro (ι := Nat) (fun i => [(1, .func (.func 32) #[] #[]), (5, .pointer (some ⟨w.heap.size, 0, none⟩)), (6, .func (.func 54) #[.pointer (some ⟨w.heap.size, 0, none⟩)] #[]), (15, .slice a l.length cap), (16, .int .i64 (l.length : Nat)), (17, .int .i64 (i : Nat))])
    (fun i wr => Keeps w wr none_ ∧ i ≤ l.length ∧ Bld wr w.heap.size w.heap.size (numE l.length ++ (l.take i).flatMap numE)) (fun i => l.length - i) 0 ⟨rfl, rfl, by simp [upd], rfl, rfl, rfl, trivial⟩ ⟨K2, by omega, by simpa using hb2⟩ ?_
  rintro i g wr ⟨hK, hi, hbr⟩
  (first | refine Then.go hmix ?_ | refine Sat.go hmix ?_ | refine ResK.go ?_ | skip); conv => whnf
  by_cases hlt : i < l.length
  · obtain ⟨gb, o, rfl, hgb, hat⟩ := hr (by rw [iL_len]; omega)
    have hca := at_int hat (by rw [iL_len]; exact hlt)
    have hgi : (iL l)[i]'(by rw [iL_len]; exact hlt) = ((l[i] : Nat) : Int) := by simp [iL]
    rw [hgi] at hca
    have hbi := hb l[i] (List.getElem_mem hlt)
    refine KGO ?_
    refine CallS.of (Try.call32 _ _) (cd_Num l[i] hbi) ?_
    rintro e w3 ⟨rfl, k3⟩
    refine ⟨_, rfl, ?_⟩; (first | refine Then.go hmix ?_ | refine Sat.go hmix ?_ | refine ResK.go ?_ | skip); conv => whnf
    have hni := numE_len hbi
    have hbr3 := bld_keep hbr k3
    have K3 := hK.trans0 k3
    have hfl := numsE_len (l.take i) (fun n hn => hb n (List.mem_of_mem_take hn))
    rw [List.length_take] at hfl
    refine CallS.of (Try.call54 _ _) (s_writeString (str (numE l[i])) w3 hbr3 (by rw [show (str (numE l[i])).size = (numE l[i]).length from rfl, List.length_append]; omega) K3.size) ?_
    rintro e w4 ⟨rfl, hb4, hbe4, _⟩
    refine ⟨_, rfl, ?_⟩; (first | refine Then.go hmix ?_ | refine Sat.go hmix ?_ | refine ResK.go ?_ | skip); conv => whnf
    refine KGO ?_
    refine ⟨i + 1, ⟨rfl, rfl, rfl, rfl, rfl, v_int (by simp), trivial⟩, ⟨K3.below' hbe4 (Nat.le_refl _), by omega, ?_⟩, by dsimp only; omega⟩
    rw [List.take_succ_eq_append_getElem hlt, List.flatMap_append, ← List.append_assoc]
    rw [show L (str (numE l[i])) = numE l[i] from rfl] at hb4
    simpa using hb4
  · refine KGO ?_
    have hnn : i = l.length := by omega
    rw [hnn, List.take_length] at hbr
    refine CallS.of (Try.call51 _ _) (s_string wr hbr hK.size) ?_
    rintro e w4 ⟨rfl, hb4, hbe4, _⟩
    refine ⟨_, rfl, ?_⟩; (first | refine Then.go hmix ?_ | refine Sat.go hmix ?_ | refine ResK.go ?_ | skip); conv => whnf
    exact ⟨rfl, hK.below' hbe4 (Nat.le_refl _)⟩
theorem cd_Nums (l : List Nat) {v : Value} (hv : RowI w v (iL l)) (hb : ∀ n ∈ l, n < 2 ^ 63) (hl : l.length ≤ 1000000) :
    Calls Try.prog 33 #[v] w fun e w' => e = .returned (.string (str (numsE l))) ∧ Keeps w w' none_ := by
  have hv0 := hv
  obtain ⟨a, cap, rfl, hr⟩ := hv
  refine calls_of_vc (args := [.slice a (iL l).length cap]) Try.func33 rfl (Nat.le_of_ble_eq_true rfl) ?_; refine Sat.go hmix ?_; conv => whnf
  refine CallS.of (Try.call52 _ _) (cd_encI l hv0 hb hl) ?_
  rintro e w1 ⟨rfl, k1⟩
  refine ⟨_, rfl, ?_⟩; (first | refine Then.go hmix ?_ | refine Sat.go hmix ?_ | refine ResK.go ?_ | skip); conv => whnf
  exact ⟨rfl, k1⟩
theorem build_rd (s : ByteArray) (w : World) : (Instr.build 83 [(0, .string s)].toArray).run Try.prog w = .ok (.agg #[.string s, .bool false]) w := by
  simp [Instr.build, go_sem, Try.runUnderlying83]
theorem cd_Open (s : ByteArray) : Calls Try.prog 23 #[.string s] w fun e w' => e = .returned (.pointer (some ⟨w.heap.size, 0, none⟩)) ∧ VarK w' w.heap.size 83 (rdC (some (L s))) ∧ Keeps w w' none_ := by
  refine calls_of_vc (args := [.string s]) Try.func23 rfl (Nat.le_of_ble_eq_true rfl) ?_; refine Sat.go hmix ?_; conv => whnf
  refine RunV.of (build_rd s w) ?_
  (first | refine Then.go hmix ?_ | refine Sat.go hmix ?_ | refine ResK.go ?_ | skip); conv => whnf
  refine ⟨rfl, ?_, (Keeps.refl _ _).alloc _⟩
  exact VarK.new w 83 [.string s, .bool false]
theorem cd_Done (s : St) (h : VarK w b 83 (rdC s)) (hs : ∀ u, s = some u → u.length ≤ 140737488355328) : Calls Try.prog 27 #[.pointer (some ⟨b, 0, none⟩)] w fun e w' => e = .returned (.bool (decide (s = some []))) ∧ Keeps w w' none_ := by
  cases s with
  | none =>
    have ha : At w b 0 [.string ⟨#[]⟩, .bool true] := h.at
    refine calls_of_vc (args := [.pointer (some ⟨b, 0, none⟩)]) Try.func27 rfl (Nat.le_of_ble_eq_true rfl) ?_; refine Sat.go hmix ?_; conv => whnf
    refine KGO ?_
    exact ⟨rfl, Keeps.refl _ _⟩
  | some u =>
    have ha : At w b 0 [.string (str u), .bool false] := h.at
    have hsz : (str u).size = u.length := rfl
    refine calls_of_vc (args := [.pointer (some ⟨b, 0, none⟩)]) Try.func27 rfl (Nat.le_of_ble_eq_true rfl) ?_; refine Sat.go hmix ?_; conv => whnf
    by_cases hu : u.length = 0
    · refine KGO ?_
      refine ⟨ret_bool ?_, Keeps.refl _ _⟩
      rw [hsz, hu, List.eq_nil_of_length_eq_zero hu]; rfl
    · refine KGO ?_
      refine ⟨ret_bool ?_, Keeps.refl _ _⟩
      rw [hsz]
      have : u ≠ [] := fun e => hu (by rw [e]; rfl)
      simp [this, hu]
end
end Go.Proofs.Ytcplagfblmemhaa

/-! The book of changes, as plain functions. -/
namespace Go.Cx
set_option linter.unusedVariables false
open Go.Cd
structure Chg where
  of : Int
  id : Int
  what : Int
  deriving DecidableEq
instance : Inhabited Chg := ⟨⟨0, 0, 0⟩⟩
structure Bk where
  state : Int
  kept : Int
  notes : List (List Chg)
def three (n : Int) : Bool := decide (1 ≤ n ∧ n ≤ 3)
def fineA (c : Chg) : Bool := three c.of && three c.what && decide (0 ≤ c.id)
def noteA (k : Bk) (st : Int) (l : List Chg) : Int × Bk :=
  if k.state = 9223372036854775807 ∨ st ≠ k.state + 1 then (17, k)
  else if 65536 < l.length ∨ l.any (fun c => !fineA c) = true then (1, k)
  else (0, ⟨st, k.kept, if k.kept < (k.notes.length + 1 : Nat) then (k.notes ++ [l]).tail else k.notes ++ [l]⟩)
def firstA (k : Bk) : Int := k.state - k.notes.length
/-- A book as New and Note leave it. -/
structure GoodB (k : Bk) : Prop where
  s0 : 0 ≤ k.state
  s1 : k.state ≤ 9223372036854775807
  k0 : 1 ≤ k.kept
  k1 : k.kept ≤ 256
  nk : (k.notes.length : Int) ≤ k.kept
  ns : (k.notes.length : Int) ≤ k.state
  len : ∀ l ∈ k.notes, l.length ≤ 65536
  fine : ∀ l ∈ k.notes, ∀ c ∈ l, fineA c = true
theorem good_new {s k : Int} (h0 : 0 ≤ s) (h1 : s ≤ 9223372036854775807) (h2 : 1 ≤ k) (h3 : k ≤ 256) : GoodB ⟨s, k, []⟩ := ⟨h0, h1, h2, h3, (by show ((0 : Nat) : Int) ≤ k; omega), (by show ((0 : Nat) : Int) ≤ s; omega), (fun l h => nomatch h), (fun l h => nomatch h)⟩
theorem tail_mem {α : Type} {l : List α} {x : α} (h : x ∈ l.tail) : x ∈ l := List.mem_of_mem_tail h
theorem noteA_good {k : Bk} {st : Int} {l : List Chg} (h : GoodB k) (hs : st ≤ 9223372036854775807) : GoodB (noteA k st l).2 := by
  unfold noteA
  split
  · exact h
  rename_i h1
  split
  · exact h
  rename_i h2
  have h1a : ¬ k.state = 9223372036854775807 := fun e => h1 (.inl e)
  have h1b : st = k.state + 1 := Classical.byContradiction fun e => h1 (.inr e)
  have h2a : l.length ≤ 65536 := Nat.le_of_not_lt fun e => h2 (.inl e)
  have h2b : ∀ c ∈ l, fineA c = true := fun c hc => by
    have : ¬ l.any (fun c => !fineA c) = true := fun e => h2 (.inr e)
    rw [List.any_eq_true] at this
    cases hf : fineA c with
    | true => rfl
    | false => exact (this ⟨c, hc, by rw [hf]; rfl⟩).elim
  have hmem : ∀ x ∈ k.notes ++ [l], x.length ≤ 65536 ∧ ∀ c ∈ x, fineA c = true := fun x hx => by
    rcases List.mem_append.1 hx with hx | hx
    · exact ⟨h.len x hx, h.fine x hx⟩
    · rw [List.mem_singleton.1 hx]; exact ⟨h2a, h2b⟩
  have := h.s0; have := h.k0; have := h.nk; have := h.ns
  dsimp only
  split
  · rename_i hk
    refine ⟨by dsimp only; omega, hs, h.k0, h.k1, ?_, ?_, fun x hx => (hmem x (tail_mem hx)).1, fun x hx => (hmem x (tail_mem hx)).2⟩
    · simp only [List.length_tail, List.length_append, List.length_singleton]; omega
    · simp only [List.length_tail, List.length_append, List.length_singleton]; omega
  · rename_i hk
    refine ⟨by dsimp only; omega, hs, h.k0, h.k1, ?_, ?_, fun x hx => (hmem x hx).1, fun x hx => (hmem x hx).2⟩
    · simp only [List.length_append, List.length_singleton]; omega
    · simp only [List.length_append, List.length_singleton]; omega

/-! ### The serialized form -/
def flatC (l : List Chg) : List Nat := l.flatMap fun c => [c.of.toNat, c.id.toNat, c.what.toNat]
def bytesA (k : Bk) : List UInt8 := numE k.kept.toNat ++ numE (firstA k).toNat ++ numE k.notes.length ++ k.notes.flatMap fun l => numsE (flatC l)
def chunkC : List Nat → Option (List Chg)
  | [] => some []
  | a :: b :: c :: r => (chunkC r).map fun l => ⟨a, b, c⟩ :: l
  | _ => none
theorem chunk_flat : ∀ (l : List Chg), (∀ c ∈ l, fineA c = true) → chunkC (flatC l) = some l
  | [], _ => rfl
  | c :: l, h => by
    have hc := h c List.mem_cons_self
    simp only [fineA, three, Bool.and_eq_true, decide_eq_true_eq] at hc
    show chunkC (c.of.toNat :: c.id.toNat :: c.what.toNat :: flatC l) = _
    simp only [chunkC, chunk_flat l fun x hx => h x (List.mem_cons_of_mem _ hx), Option.map_some]
    congr 2
    obtain ⟨o, i, w⟩ := c
    simp only [Chg.mk.injEq]
    dsimp only at hc
    omega
theorem flat_chunk : ∀ (n : List Nat) (l : List Chg), chunkC n = some l → flatC l = n
  | [], l, h => by injection h with h; subst h; rfl
  | [_], _, h => by cases h
  | [_, _], _, h => by cases h
  | a :: b :: c :: r, l, h => by
    unfold chunkC at h
    cases hr : chunkC r with
    | none => rw [hr] at h; cases h
    | some l' =>
      rw [hr] at h
      injection h with h
      subst h
      have := flat_chunk r l' hr
      show (a : Int).toNat :: (b : Int).toNat :: (c : Int).toNat :: flatC l' = _
      rw [this]; simp
/-- The records read: k of them. -/
def readG : Nat → Bk → St → Option (Bk × St)
  | 0, b, s => some (b, s)
  | k + 1, b, s => (match numsR s with
    | (n, s') => (match chunkC n with
      | none => none
      | some l => if (noteA b (b.state + 1) l).1 = 0 then readG k (noteA b (b.state + 1) l).2 s' else none))
def readA (u : List UInt8) : Option Bk :=
  match numR (some u) with
  | (kept, s1) => (match numR s1 with
    | (first, s2) => (match numR s2 with
      | (many, s3) => if kept < 1 ∨ 256 < kept ∨ kept < many then none else (match readG many ⟨first, kept, []⟩ s3 with
        | none => none
        | some (b, s) => if s = some [] then some b else none)))

/-! ### Net changes -/
abbrev Key := Int × Int
def fstep (f : Option (Bool × Bool)) (c : Chg) : Option (Bool × Bool) :=
  some (match f with | none => decide (c.what ≠ 1) | some p => p.1, decide (c.what ≠ 3))
/-- What becomes of an object: it was, it is. -/
def fate (cs : List Chg) (k : Key) : Option (Bool × Bool) := (cs.filter fun c => decide ((c.of, c.id) = k)).foldl fstep none
/-- A number put into an ascending list. -/
def putS : List Int → Int → List Int
  | [], n => [n]
  | x :: l, n => if x < n then x :: putS l n else if x = n then x :: l else n :: x :: l
def idsA (cs : List Chg) (of : Int) : List Int := (cs.filter fun c => decide (c.of = of)).foldl (fun l c => putS l c.id) []
structure Dlt where
  made : List Int
  changed : List Int
  gone : List Int
  state : Int
def netA (cs : List Chg) (of : Int) (w i : Bool) : List Int := (idsA cs of).filter fun n => decide (fate cs (of, n) = some (w, i))
def sinceA (k : Bk) (st of : Int) : Dlt × Int :=
  if of < 1 ∨ 3 < of then (⟨[], [], [], 0⟩, 1)
  else if k.state < st then (⟨[], [], [], 0⟩, 17)
  else if st < firstA k then (⟨[], [], [], 0⟩, 18)
  else
    let cs := (k.notes.drop (st - firstA k).toNat).flatten
    (⟨netA cs of false true, netA cs of true true, netA cs of true false, k.state⟩, 0)
end Go.Cx

-- alias Try
namespace Go.Proofs.Ytcplagfblmemhaa
set_option linter.unusedVariables false
open Go.RowKit Go.Pw Go.Vc Go.Cs Go.Lib Go.Cx
set_option linter.unusedVariables false
set_option maxRecDepth 100000
def chC (c : Chg) : List Value := [.int .i64 c.of, .int .i64 c.id, .int .i64 c.what]
abbrev shC (s : Sl) : List Value := [.slice s.a s.n s.c]
abbrev RowC (w : World) (v : Value) (l : List Chg) : Prop := RowO w v chC l
abbrev OwnChg (w : World) (B : Nat) (v : Value) (l : List Chg) : Prop := w.ownsRow B 48 3 v l.length (l.flatMap chC)
abbrev OwnCl (w : World) (B : Nat) (v : Value) (l : List Sl) : Prop := w.ownsRow B 37 1 v l.length (l.flatMap shC)
theorem infoChg : (Try.prog.info? 48).map (fun i => (i.zero, i.size, i.bytes)) = some (some (.agg #[.int .i64 0, .int .i64 0, .int .i64 0]), 3, 24) := by kernel_rfl
theorem lenChg (x : Chg) : (chC x).length = 3 := rfl
theorem oneChg (l : List Chg) : ∀ u ∈ l.flatMap chC, u.oneCell' = true := fun u hu => by
  obtain ⟨b, _, hb⟩ := List.mem_flatMap.1 hu
  exact (show ∀ u ∈ chC b, u.oneCell' = true from List.all_eq_true.1 (by rfl)) u hb
theorem build0Chg (w : World) : (Instr.buildSlice 37 0 [].toArray).run Try.prog w = .ok (.slice (some ⟨w.heap.size, 0, none⟩) 0 0) (w.alloc (.cells #[] 48)) := by
  simp [Instr.buildSlice, go_sem, Try.runUnderlying37]
theorem infoCl : (Try.prog.info? 37).map (fun i => (i.zero, i.size, i.bytes)) = some (some (.slice none 0 0), 1, 24) := by kernel_rfl
theorem lenCl (x : Sl) : (shC x).length = 1 := rfl
theorem oneCl (l : List Sl) : ∀ u ∈ l.flatMap shC, u.oneCell' = true := fun u hu => by
  obtain ⟨b, _, hb⟩ := List.mem_flatMap.1 hu
  exact (show ∀ u ∈ shC b, u.oneCell' = true from List.all_eq_true.1 (by rfl)) u hb
theorem build0Cl (w : World) : (Instr.buildSlice 22 0 [].toArray).run Try.prog w = .ok (.slice (some ⟨w.heap.size, 0, none⟩) 0 0) (w.alloc (.cells #[] 37)) := by
  simp [Instr.buildSlice, go_sem, Try.runUnderlying22]
theorem tyChg : RowTy 37 48 chC 3 24 := ⟨Try.underlying37, ⟨_, infoChg, rfl⟩, by decide, lenChg, fun x => List.all_eq_true.1 (by rfl)⟩
theorem tyCl : RowTy 22 37 shC 1 24 := ⟨Try.underlying22, ⟨_, infoCl, rfl⟩, by decide, lenCl, fun x => List.all_eq_true.1 (by rfl)⟩
end Go.Proofs.Ytcplagfblmemhaa
