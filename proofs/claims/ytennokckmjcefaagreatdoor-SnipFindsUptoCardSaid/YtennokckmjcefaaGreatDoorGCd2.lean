/- Helper lemmas that the proved statement rests on; no conditions of their own. -/
import Derived.Test.YtennokckmjcefaaGreatDoorGMg0
set_option linter.unusedVariables false
set_option maxHeartbeats 8000000
set_option maxRecDepth 100000
namespace Go.Proofs.YtennokckmjcefaaGreatDoor
open Go.Shelf Go.RowKit Go.Pw Go.Vc Go.Cs Go.Lib Go.Cd
theorem zby (u : List UInt8) (k : Nat) : (str u).extract k u.length = str (u.drop k) := by
 apply ByteArray.ext
 simp [str]
 exact List.take_of_length_le (by simp)
def valL : List UInt8 → Nat
 | [] => 0
 | b :: r => b.toNat % 128 + 128 * valL r
theorem znl : ∀ l : List UInt8, valL l < 128 ^ l.length
 | [] => by simp [valL]
 | b :: r => by
  have := znl r
  simp only [valL, List.length_cons, Nat.pow_succ]
  omega
theorem zjT (b : UInt8) : ∀ l : List UInt8, valL (l ++ [b]) = valL l + b.toNat % 128 * 128 ^ l.length
 | [] => by simp [valL]
 | a :: r => by
  have := zjT b r
  simp only [List.cons_append, valL, this, List.length_cons, Nat.pow_succ]
  rw [Nat.mul_add, ← Nat.add_assoc, Nat.mul_left_comm, Nat.mul_comm 128 (128 ^ r.length)]
theorem zjG : ∀ (pre : List UInt8) (k : Nat) (z : Bool) (r : List UInt8), (∀ b ∈ pre, 128 ≤ b.toNat) → pre.length ≤ k →
  numD k z (pre ++ r) = (numD (k - pre.length) (z || decide (0 < pre.length)) r).map fun p => (valL pre + 128 ^ pre.length * p.1, p.2)
 | [], k, z, r, _, _ => by
  simp only [List.nil_append, List.length_nil, Nat.sub_zero, valL, Nat.pow_zero, Nat.zero_add, Nat.one_mul, Nat.lt_irrefl, decide_false, Bool.or_false]
  cases numD k z r <;> rfl
 | b :: pre, k + 1, z, r, h, hk => by
  have hb := h b List.mem_cons_self
  have hb2 := b.toNat_lt
  simp only [List.cons_append, numD]
  rw [if_pos hb, zjG pre k true r (fun x hx => h x (List.mem_cons_of_mem _ hx)) (by simpa using hk)]
  simp only [List.length_cons, Nat.add_sub_add_right, Bool.true_or, Nat.zero_lt_succ, decide_true, Bool.or_true]
  cases numD (k - pre.length) true r with
  | none => rfl
  | some p =>
   simp only [Option.map_some, valL, Nat.pow_succ]
   congr 2
   rw [Nat.mul_add, show b.toNat - 128 = b.toNat % 128 by omega, Nat.add_assoc, Nat.mul_comm (128 ^ pre.length) 128, Nat.mul_assoc]
theorem znJ {q m m2 j : Nat} (hq : q < 256) (hj : j < 9) (hm : m < 128 ^ j) (hva : m2 = m + q % 128 * 128 ^ j) :
  (m : Int) + IntKind.i64.wrap ((q : Int).tmod 128 * 2 ^ min (7 * (j : Int)).toNat IntKind.i64.bits) = (m2 : Int) ∧ m2 < 2 ^ 63 := by
 have hb : (IntKind.i64.bits : Nat) = 64 := rfl
 have h7 : min (7 * (j : Int)).toNat IntKind.i64.bits = 7 * j := by rw [hb]; omega
 have hp : (2 : Int) ^ (7 * j) = ((128 ^ j : Nat) : Int) := by rw [Int.pow_mul]; norm_cast
 have hle : 128 ^ j ≤ 128 ^ 8 := Nat.pow_le_pow_right (by decide) (by omega)
 have hmul : q % 128 * 128 ^ j ≤ 127 * 128 ^ 8 := Nat.mul_le_mul (by omega) hle
 rw [h7, hp, zjE, ← Int.natCast_mul, zda (by omega) (by omega), hva]
 refine ⟨by rw [Int.natCast_add], by omega⟩
def rdC : St → List Value
 | none => [.string ⟨#[]⟩, .bool true]
 | some u => [.string (str u), .bool false]
section
variable {w : World} {b : Nat}
theorem zcd (s : St) (h : VarK w b 139 (rdC s)) : Calls Tryz.prog 115 #[.pointer (some ⟨b, 0, none⟩)] w fun e w' => e = .returned (.tuple #[]) ∧ VarK w' b 139 (rdC none) ∧ Kp w w' (one_ b) := by
 obtain ⟨x, y, hc⟩ : ∃ x y, rdC s = [x, y] := by cases s <;> exact ⟨_, _, rfl⟩
 rw [hc] at h
 refine zaa (args := [.pointer (some ⟨b, 0, none⟩)]) Tryz.func115 rfl NL ?_; refine GW ?_
 refine KGO ?_
 refine Store.cellK (i := 0) h (by simp) (by rfl) ⟨rfl, by simp, by simp⟩ fun w1 v1 k1 => ?_
 refine GW ?_
 refine Store.cellK (i := 1) v1 (by simp) (by rfl) ⟨rfl, by simp, by simp⟩ fun w2 v2 k2 => ?_
 refine GW ?_
 exact ⟨rfl, v2, k1.trans' k2⟩
theorem zgZ (s : St) (h : VarK w b 139 (rdC s)) (hs : ∀ u, s = some u → u.length ≤ 140737488355328) :
  Calls Tryz.prog 51 #[.pointer (some ⟨b, 0, none⟩)] w fun e w' => e = .returned (.int .i64 ((numR s).1 : Nat)) ∧ VarK w' b 139 (rdC (numR s).2) ∧ Kp w w' (one_ b) := by
 obtain ⟨u, x, hc, hr, hux⟩ : ∃ u x, rdC s = [.string (str u), .bool x] ∧ (numR s = match numD 9 false u with | none => (0, none) | some (n, r) => (n, some r)) ∧ (s = none ∧ u = [] ∨ s = some u ∧ x = false) := by
  cases s with
  | none => exact ⟨[], true, rfl, rfl, .inl ⟨rfl, rfl⟩⟩
  | some u => exact ⟨u, false, rfl, rfl, .inr ⟨rfl, rfl⟩⟩
 have hul : u.length ≤ 140737488355328 := by
  rcases hux with ⟨_, rfl⟩ | ⟨e, _⟩
  ·simp
  ·exact hs u e
 rw [hr]
 have h0 := h
 rw [hc] at h
 have ha := h.at
 refine zaa (args := [.pointer (some ⟨b, 0, none⟩)]) Tryz.func51 rfl NL ?_; refine GW ?_
 refine Loop.intro (ι := Nat) (fun i => [(0, .pointer (some ⟨b, 0, none⟩)), (3, .int .i64 (valL (u.take i) : Nat)), (4, .int .i64 (i : Nat))])
  (fun i wr => Kp w wr n_ ∧ i ≤ u.length ∧ i ≤ 9 ∧ ∀ c ∈ u.take i, 128 ≤ c.toNat) (fun i => 9 - i) 0 ⟨rfl, rfl, rfl, trivial⟩ ⟨Kp.refl _ _, by omega, by omega, by simp⟩ ?_
 rintro i g wr ⟨hK, hi, hi9, hb⟩
 refine GW ?_
 have hsz : (str u).size = u.length := rfl
 have hpre := zjG (u.take i) 9 false (u.drop i) hb (by rw [List.length_take]; omega)
 rw [List.take_append_drop, List.length_take, Nat.min_eq_left hi] at hpre
 by_cases hlt : i < u.length ∧ i < 9
 ·obtain ⟨hlt, hlt9⟩ := hlt
  have hvl := znl (u.take i)
  rw [List.length_take, Nat.min_eq_left hi] at hvl
  have hx : u.take (i + 1) = u.take i ++ [u[i]] := List.take_succ_eq_append_getElem hlt
  have hva := zjT u[i] (u.take i)
  rw [← hx, List.length_take, Nat.min_eq_left hi] at hva
  have hby : (byteAt (str u) i).toNat = u[i].toNat := by
   unfold byteAt; simp [str, hlt]
  obtain ⟨c, hcu⟩ : ∃ c, u[i] = c := ⟨_, rfl⟩
  have hcl := c.toNat_lt
  obtain ⟨m, hm⟩ : ∃ m, valL (u.take i) = m := ⟨_, rfl⟩
  obtain ⟨m2, hm2⟩ : ∃ m2, valL (u.take (i + 1)) = m2 := ⟨_, rfl⟩
  obtain ⟨q, hq⟩ : ∃ q, c.toNat = q := ⟨_, rfl⟩
  rw [hm, hcu, hq, hm2] at hva
  rw [hm] at hvl hpre ⊢
  rw [hcu, hq] at hby
  rw [hq] at hcl
  have hw8 : IntKind.i64.wrap ((byteAt (str u) i).toNat : Int) = (q : Int) := by rw [hby]; exact zda (by omega) (by omega)
  obtain ⟨hsh, hm63⟩ := znJ hcl hlt9 hvl hva
  have hend : ¬ 128 ≤ q → numD 9 false u = if 0 < i ∧ q = 0 then none else some (m2, u.drop (i + 1)) := fun hn => by
   rw [hpre, List.drop_eq_getElem_cons hlt, hcu]
   obtain ⟨k, hk⟩ : ∃ k, 9 - i = k + 1 := ⟨8 - i, by omega⟩
   rw [hk]
   simp only [numD, hq, if_neg hn, Bool.false_or, decide_eq_true_eq]
   split
   ·rfl
   ·simp only [Option.map_some]; congr 2; rw [hva, Nat.mod_eq_of_lt (by omega : q < 128), Nat.mul_comm]
  have hnone : numD 9 false u = none → ∀ wx, Kp w wx n_ → VarK wx b 139 [.string (str u), .bool x] := fun _ wx kx => h.keep0 kx
  obtain rfl | rfl | rfl | rfl | rfl | rfl | rfl | rfl | rfl : i = 0 ∨ i = 1 ∨ i = 2 ∨ i = 3 ∨ i = 4 ∨ i = 5 ∨ i = 6 ∨ i = 7 ∨ i = 8 := by omega
  ·skip
   refine KGO ?_
   rw [hw8, hsh]
   by_cases hbig : 128 ≤ q
   ·refine KGO ?_
    exact ⟨1, ⟨rfl, v_int (by rw [hm2]), rfl, trivial⟩, ⟨hK, by omega, by omega, by
     rw [hx]
     intro c' hc'
     rcases List.mem_append.1 hc' with h' | h'
     ·exact hb c' h'
     ·rw [List.mem_singleton.1 h', hcu, hq]; exact hbig⟩, by dsimp only; omega⟩
   ·have hend := hend hbig
    rw [if_neg (by omega)] at hend
    by_cases hz : q = 0
    ·skip
     refine KGO ?_
     try (refine Cut.fromI (l := ((0 : Nat) : Int) + 1) (by omega) (by omega) (by omega) ?_; refine GW ?_)
     refine Store.cellK (i := 0) (h.keep0 hK) (by simp) (by rfl) ⟨rfl, by simp, by simp⟩ fun w2 v2 k2 => ?_
     refine KGO ?_
     rw [hend]
     refine ⟨rfl, ?_, (hK.of_none (c := one_ b)).trans' k2⟩
     have e2 : (str u).extract 1 (str u).size = str (u.drop 1) := by rw [hsz]; exact zby u 1
     show VarK w2 b 139 [.string (str (u.drop 1)), .bool false]
     rw [← e2]
     rcases hux with ⟨_, hu⟩ | ⟨_, hx0⟩
     ·rw [hu] at hlt; simp at hlt
     ·rw [hx0] at v2; exact v2
    ·skip
     refine KGO ?_
     try (refine Cut.fromI (l := ((0 : Nat) : Int) + 1) (by omega) (by omega) (by omega) ?_; refine GW ?_)
     refine Store.cellK (i := 0) (h.keep0 hK) (by simp) (by rfl) ⟨rfl, by simp, by simp⟩ fun w2 v2 k2 => ?_
     refine KGO ?_
     rw [hend]
     refine ⟨rfl, ?_, (hK.of_none (c := one_ b)).trans' k2⟩
     have e2 : (str u).extract 1 (str u).size = str (u.drop 1) := by rw [hsz]; exact zby u 1
     show VarK w2 b 139 [.string (str (u.drop 1)), .bool false]
     rw [← e2]
     rcases hux with ⟨_, hu⟩ | ⟨_, hx0⟩
     ·rw [hu] at hlt; simp at hlt
     ·rw [hx0] at v2; exact v2
  ·skip
   refine KGO ?_
   rw [hw8, hsh]
   by_cases hbig : 128 ≤ q
   ·refine KGO ?_
    exact ⟨2, ⟨rfl, v_int (by rw [hm2]), rfl, trivial⟩, ⟨hK, by omega, by omega, by
     rw [hx]
     intro c' hc'
     rcases List.mem_append.1 hc' with h' | h'
     ·exact hb c' h'
     ·rw [List.mem_singleton.1 h', hcu, hq]; exact hbig⟩, by dsimp only; omega⟩
   by_cases hz : q = 0
   ·have hend := hend hbig
    rw [if_pos ⟨by omega, hz⟩] at hend
    refine KGO ?_
    refine CallS.of (Tryz.call115 _ _) (zcd s (h0.keep0 hK)) ?_
    rintro e w2 ⟨rfl, v2, k2⟩
    refine RT ?_
    rw [hend]
    exact ⟨rfl, v2, (hK.of_none (c := one_ b)).trans' k2⟩
   ·have hend := hend hbig
    rw [if_neg (fun h => hz h.2)] at hend
    refine KGO ?_
    try (refine Cut.fromI (l := ((1 : Nat) : Int) + 1) (by omega) (by omega) (by omega) ?_; refine GW ?_)
    refine Store.cellK (i := 0) (h.keep0 hK) (by simp) (by rfl) ⟨rfl, by simp, by simp⟩ fun w2 v2 k2 => ?_
    refine KGO ?_
    rw [hend]
    refine ⟨rfl, ?_, (hK.of_none (c := one_ b)).trans' k2⟩
    have e2 : (str u).extract 2 (str u).size = str (u.drop 2) := by rw [hsz]; exact zby u 2
    show VarK w2 b 139 [.string (str (u.drop 2)), .bool false]
    rw [← e2]
    rcases hux with ⟨_, hu⟩ | ⟨_, hx0⟩
    ·rw [hu] at hlt; simp at hlt
    ·rw [hx0] at v2; exact v2
  ·skip
   refine KGO ?_
   rw [hw8, hsh]
   by_cases hbig : 128 ≤ q
   ·refine KGO ?_
    exact ⟨3, ⟨rfl, v_int (by rw [hm2]), rfl, trivial⟩, ⟨hK, by omega, by omega, by
     rw [hx]
     intro c' hc'
     rcases List.mem_append.1 hc' with h' | h'
     ·exact hb c' h'
     ·rw [List.mem_singleton.1 h', hcu, hq]; exact hbig⟩, by dsimp only; omega⟩
   by_cases hz : q = 0
   ·have hend := hend hbig
    rw [if_pos ⟨by omega, hz⟩] at hend
    refine KGO ?_
    refine CallS.of (Tryz.call115 _ _) (zcd s (h0.keep0 hK)) ?_
    rintro e w2 ⟨rfl, v2, k2⟩
    refine RT ?_
    rw [hend]
    exact ⟨rfl, v2, (hK.of_none (c := one_ b)).trans' k2⟩
   ·have hend := hend hbig
    rw [if_neg (fun h => hz h.2)] at hend
    refine KGO ?_
    try (refine Cut.fromI (l := ((2 : Nat) : Int) + 1) (by omega) (by omega) (by omega) ?_; refine GW ?_)
    refine Store.cellK (i := 0) (h.keep0 hK) (by simp) (by rfl) ⟨rfl, by simp, by simp⟩ fun w2 v2 k2 => ?_
    refine KGO ?_
    rw [hend]
    refine ⟨rfl, ?_, (hK.of_none (c := one_ b)).trans' k2⟩
    have e2 : (str u).extract 3 (str u).size = str (u.drop 3) := by rw [hsz]; exact zby u 3
    show VarK w2 b 139 [.string (str (u.drop 3)), .bool false]
    rw [← e2]
    rcases hux with ⟨_, hu⟩ | ⟨_, hx0⟩
    ·rw [hu] at hlt; simp at hlt
    ·rw [hx0] at v2; exact v2
  ·skip
   refine KGO ?_
   rw [hw8, hsh]
   by_cases hbig : 128 ≤ q
   ·refine KGO ?_
    exact ⟨4, ⟨rfl, v_int (by rw [hm2]), rfl, trivial⟩, ⟨hK, by omega, by omega, by
     rw [hx]
     intro c' hc'
     rcases List.mem_append.1 hc' with h' | h'
     ·exact hb c' h'
     ·rw [List.mem_singleton.1 h', hcu, hq]; exact hbig⟩, by dsimp only; omega⟩
   by_cases hz : q = 0
   ·have hend := hend hbig
    rw [if_pos ⟨by omega, hz⟩] at hend
    refine KGO ?_
    refine CallS.of (Tryz.call115 _ _) (zcd s (h0.keep0 hK)) ?_
    rintro e w2 ⟨rfl, v2, k2⟩
    refine RT ?_
    rw [hend]
    exact ⟨rfl, v2, (hK.of_none (c := one_ b)).trans' k2⟩
   ·have hend := hend hbig
    rw [if_neg (fun h => hz h.2)] at hend
    refine KGO ?_
    try (refine Cut.fromI (l := ((3 : Nat) : Int) + 1) (by omega) (by omega) (by omega) ?_; refine GW ?_)
    refine Store.cellK (i := 0) (h.keep0 hK) (by simp) (by rfl) ⟨rfl, by simp, by simp⟩ fun w2 v2 k2 => ?_
    refine KGO ?_
    rw [hend]
    refine ⟨rfl, ?_, (hK.of_none (c := one_ b)).trans' k2⟩
    have e2 : (str u).extract 4 (str u).size = str (u.drop 4) := by rw [hsz]; exact zby u 4
    show VarK w2 b 139 [.string (str (u.drop 4)), .bool false]
    rw [← e2]
    rcases hux with ⟨_, hu⟩ | ⟨_, hx0⟩
    ·rw [hu] at hlt; simp at hlt
    ·rw [hx0] at v2; exact v2
  ·skip
   refine KGO ?_
   rw [hw8, hsh]
   by_cases hbig : 128 ≤ q
   ·refine KGO ?_
    exact ⟨5, ⟨rfl, v_int (by rw [hm2]), rfl, trivial⟩, ⟨hK, by omega, by omega, by
     rw [hx]
     intro c' hc'
     rcases List.mem_append.1 hc' with h' | h'
     ·exact hb c' h'
     ·rw [List.mem_singleton.1 h', hcu, hq]; exact hbig⟩, by dsimp only; omega⟩
   by_cases hz : q = 0
   ·have hend := hend hbig
    rw [if_pos ⟨by omega, hz⟩] at hend
    refine KGO ?_
    refine CallS.of (Tryz.call115 _ _) (zcd s (h0.keep0 hK)) ?_
    rintro e w2 ⟨rfl, v2, k2⟩
    refine RT ?_
    rw [hend]
    exact ⟨rfl, v2, (hK.of_none (c := one_ b)).trans' k2⟩
   ·have hend := hend hbig
    rw [if_neg (fun h => hz h.2)] at hend
    refine KGO ?_
    try (refine Cut.fromI (l := ((4 : Nat) : Int) + 1) (by omega) (by omega) (by omega) ?_; refine GW ?_)
    refine Store.cellK (i := 0) (h.keep0 hK) (by simp) (by rfl) ⟨rfl, by simp, by simp⟩ fun w2 v2 k2 => ?_
    refine KGO ?_
    rw [hend]
    refine ⟨rfl, ?_, (hK.of_none (c := one_ b)).trans' k2⟩
    have e2 : (str u).extract 5 (str u).size = str (u.drop 5) := by rw [hsz]; exact zby u 5
    show VarK w2 b 139 [.string (str (u.drop 5)), .bool false]
    rw [← e2]
    rcases hux with ⟨_, hu⟩ | ⟨_, hx0⟩
    ·rw [hu] at hlt; simp at hlt
    ·rw [hx0] at v2; exact v2
  ·skip
   refine KGO ?_
   rw [hw8, hsh]
   by_cases hbig : 128 ≤ q
   ·refine KGO ?_
    exact ⟨6, ⟨rfl, v_int (by rw [hm2]), rfl, trivial⟩, ⟨hK, by omega, by omega, by
     rw [hx]
     intro c' hc'
     rcases List.mem_append.1 hc' with h' | h'
     ·exact hb c' h'
     ·rw [List.mem_singleton.1 h', hcu, hq]; exact hbig⟩, by dsimp only; omega⟩
   by_cases hz : q = 0
   ·have hend := hend hbig
    rw [if_pos ⟨by omega, hz⟩] at hend
    refine KGO ?_
    refine CallS.of (Tryz.call115 _ _) (zcd s (h0.keep0 hK)) ?_
    rintro e w2 ⟨rfl, v2, k2⟩
    refine RT ?_
    rw [hend]
    exact ⟨rfl, v2, (hK.of_none (c := one_ b)).trans' k2⟩
   ·have hend := hend hbig
    rw [if_neg (fun h => hz h.2)] at hend
    refine KGO ?_
    try (refine Cut.fromI (l := ((5 : Nat) : Int) + 1) (by omega) (by omega) (by omega) ?_; refine GW ?_)
    refine Store.cellK (i := 0) (h.keep0 hK) (by simp) (by rfl) ⟨rfl, by simp, by simp⟩ fun w2 v2 k2 => ?_
    refine KGO ?_
    rw [hend]
    refine ⟨rfl, ?_, (hK.of_none (c := one_ b)).trans' k2⟩
    have e2 : (str u).extract 6 (str u).size = str (u.drop 6) := by rw [hsz]; exact zby u 6
    show VarK w2 b 139 [.string (str (u.drop 6)), .bool false]
    rw [← e2]
    rcases hux with ⟨_, hu⟩ | ⟨_, hx0⟩
    ·rw [hu] at hlt; simp at hlt
    ·rw [hx0] at v2; exact v2
  ·skip
   refine KGO ?_
   rw [hw8, hsh]
   by_cases hbig : 128 ≤ q
   ·refine KGO ?_
    exact ⟨7, ⟨rfl, v_int (by rw [hm2]), rfl, trivial⟩, ⟨hK, by omega, by omega, by
     rw [hx]
     intro c' hc'
     rcases List.mem_append.1 hc' with h' | h'
     ·exact hb c' h'
     ·rw [List.mem_singleton.1 h', hcu, hq]; exact hbig⟩, by dsimp only; omega⟩
   by_cases hz : q = 0
   ·have hend := hend hbig
    rw [if_pos ⟨by omega, hz⟩] at hend
    refine KGO ?_
    refine CallS.of (Tryz.call115 _ _) (zcd s (h0.keep0 hK)) ?_
    rintro e w2 ⟨rfl, v2, k2⟩
    refine RT ?_
    rw [hend]
    exact ⟨rfl, v2, (hK.of_none (c := one_ b)).trans' k2⟩
   ·have hend := hend hbig
    rw [if_neg (fun h => hz h.2)] at hend
    refine KGO ?_
    try (refine Cut.fromI (l := ((6 : Nat) : Int) + 1) (by omega) (by omega) (by omega) ?_; refine GW ?_)
    refine Store.cellK (i := 0) (h.keep0 hK) (by simp) (by rfl) ⟨rfl, by simp, by simp⟩ fun w2 v2 k2 => ?_
    refine KGO ?_
    rw [hend]
    refine ⟨rfl, ?_, (hK.of_none (c := one_ b)).trans' k2⟩
    have e2 : (str u).extract 7 (str u).size = str (u.drop 7) := by rw [hsz]; exact zby u 7
    show VarK w2 b 139 [.string (str (u.drop 7)), .bool false]
    rw [← e2]
    rcases hux with ⟨_, hu⟩ | ⟨_, hx0⟩
    ·rw [hu] at hlt; simp at hlt
    ·rw [hx0] at v2; exact v2
  ·skip
   refine KGO ?_
   rw [hw8, hsh]
   by_cases hbig : 128 ≤ q
   ·refine KGO ?_
    exact ⟨8, ⟨rfl, v_int (by rw [hm2]), rfl, trivial⟩, ⟨hK, by omega, by omega, by
     rw [hx]
     intro c' hc'
     rcases List.mem_append.1 hc' with h' | h'
     ·exact hb c' h'
     ·rw [List.mem_singleton.1 h', hcu, hq]; exact hbig⟩, by dsimp only; omega⟩
   by_cases hz : q = 0
   ·have hend := hend hbig
    rw [if_pos ⟨by omega, hz⟩] at hend
    refine KGO ?_
    refine CallS.of (Tryz.call115 _ _) (zcd s (h0.keep0 hK)) ?_
    rintro e w2 ⟨rfl, v2, k2⟩
    refine RT ?_
    rw [hend]
    exact ⟨rfl, v2, (hK.of_none (c := one_ b)).trans' k2⟩
   ·have hend := hend hbig
    rw [if_neg (fun h => hz h.2)] at hend
    refine KGO ?_
    try (refine Cut.fromI (l := ((7 : Nat) : Int) + 1) (by omega) (by omega) (by omega) ?_; refine GW ?_)
    refine Store.cellK (i := 0) (h.keep0 hK) (by simp) (by rfl) ⟨rfl, by simp, by simp⟩ fun w2 v2 k2 => ?_
    refine KGO ?_
    rw [hend]
    refine ⟨rfl, ?_, (hK.of_none (c := one_ b)).trans' k2⟩
    have e2 : (str u).extract 8 (str u).size = str (u.drop 8) := by rw [hsz]; exact zby u 8
    show VarK w2 b 139 [.string (str (u.drop 8)), .bool false]
    rw [← e2]
    rcases hux with ⟨_, hu⟩ | ⟨_, hx0⟩
    ·rw [hu] at hlt; simp at hlt
    ·rw [hx0] at v2; exact v2
  ·skip
   refine KGO ?_
   rw [hw8, hsh]
   by_cases hbig : 128 ≤ q
   ·refine KGO ?_
    exact ⟨9, ⟨rfl, v_int (by rw [hm2]), rfl, trivial⟩, ⟨hK, by omega, by omega, by
     rw [hx]
     intro c' hc'
     rcases List.mem_append.1 hc' with h' | h'
     ·exact hb c' h'
     ·rw [List.mem_singleton.1 h', hcu, hq]; exact hbig⟩, by dsimp only; omega⟩
   by_cases hz : q = 0
   ·have hend := hend hbig
    rw [if_pos ⟨by omega, hz⟩] at hend
    refine KGO ?_
    refine CallS.of (Tryz.call115 _ _) (zcd s (h0.keep0 hK)) ?_
    rintro e w2 ⟨rfl, v2, k2⟩
    refine RT ?_
    rw [hend]
    exact ⟨rfl, v2, (hK.of_none (c := one_ b)).trans' k2⟩
   ·have hend := hend hbig
    rw [if_neg (fun h => hz h.2)] at hend
    refine KGO ?_
    try (refine Cut.fromI (l := ((8 : Nat) : Int) + 1) (by omega) (by omega) (by omega) ?_; refine GW ?_)
    refine Store.cellK (i := 0) (h.keep0 hK) (by simp) (by rfl) ⟨rfl, by simp, by simp⟩ fun w2 v2 k2 => ?_
    refine KGO ?_
    rw [hend]
    refine ⟨rfl, ?_, (hK.of_none (c := one_ b)).trans' k2⟩
    have e2 : (str u).extract 9 (str u).size = str (u.drop 9) := by rw [hsz]; exact zby u 9
    show VarK w2 b 139 [.string (str (u.drop 9)), .bool false]
    rw [← e2]
    rcases hux with ⟨_, hu⟩ | ⟨_, hx0⟩
    ·rw [hu] at hlt; simp at hlt
    ·rw [hx0] at v2; exact v2
 ·have hend : numD 9 false u = none := by
   rw [hpre]
   by_cases h9 : i = 9
   ·subst h9; rfl
   ·rw [List.drop_of_length_le (by omega)]
    obtain ⟨k, hk⟩ : ∃ k, 9 - i = k + 1 := ⟨8 - i, by omega⟩
    rw [hk]; rfl
  by_cases hlt1 : i < u.length
  ·refine KGO ?_
   refine CallS.of (Tryz.call115 _ _) (zcd s (h0.keep0 hK)) ?_
   rintro e w2 ⟨rfl, v2, k2⟩
   refine RT ?_
   rw [hend]
   exact ⟨rfl, v2, (hK.of_none (c := one_ b)).trans' k2⟩
  ·refine KGO ?_
   refine CallS.of (Tryz.call115 _ _) (zcd s (h0.keep0 hK)) ?_
   rintro e w2 ⟨rfl, v2, k2⟩
   refine RT ?_
   rw [hend]
   exact ⟨rfl, v2, (hK.of_none (c := one_ b)).trans' k2⟩
end
theorem zaU {w w' a : World} {c : Nat → Prop} {B s n : Nat} {e : TypeId} {v : Value} {xs : List Value} (h : w.ownsRow B e s v n xs) (k : Kp w w' (own_ v)) (ha : Kp a w c) (hB : a.heap.size ≤ B) : Kp a w' c :=
 ha.trans k fun i hi hc => by
  exfalso
  rcases h.2 with ⟨rfl, _⟩ | ⟨g, cap, cur, rfl, hb, _⟩
  ·cases hc
  ·have e : g = i := by simpa [own_, Value.ownBlock] using hc
   omega
theorem bs1I (z : Int) (w : World) : (Instr.buildSlice 40 1 [(0, .int .i64 z)].toArray).run Tryz.prog w = .ok (.slice (some ⟨w.heap.size, 0, none⟩) 1 1) (w.alloc (.cells (List.toArray (inC z)) 3)) := by
 simp [Instr.buildSlice, go_sem, Tryz.runUnderlying40, inC]
section
variable {w : World} {b : Nat}
theorem zop (s : ByteArray) (w : World) : (Instr.build 139 [(0, .string s)].toArray).run Tryz.prog w = .ok (.agg #[.string s, .bool false]) w := by
 simp [Instr.build, go_sem, Tryz.runUnderlying139]
theorem zqf (s : ByteArray) : Calls Tryz.prog 50 #[.string s] w fun e w' => e = .returned (.pointer (some ⟨w.heap.size, 0, none⟩)) ∧ VarK w' w.heap.size 139 (rdC (some (L s))) ∧ Kp w w' n_ := by
 refine zaa (args := [.string s]) Tryz.func50 rfl NL ?_; refine GW ?_
 refine RunV.of (zop s w) ?_
 refine GW ?_
 refine ⟨rfl, ?_, (Kp.refl _ _).alloc _⟩
 exact VarK.new w 139 [.string s, .bool false]
theorem zni (s : St) (h : VarK w b 139 (rdC s)) (hs : ∀ u, s = some u → u.length ≤ 140737488355328) : Calls Tryz.prog 56 #[.pointer (some ⟨b, 0, none⟩)] w fun e w' => e = .returned (.bool (decide (s = some []))) ∧ Kp w w' n_ := by
 cases s with
 | none =>
  have ha : At w b 0 [.string ⟨#[]⟩, .bool true] := h.at
  refine zaa (args := [.pointer (some ⟨b, 0, none⟩)]) Tryz.func56 rfl NL ?_; refine GW ?_
  refine KGO ?_
  exact ⟨rfl, Kp.refl _ _⟩
 | some u =>
  have ha : At w b 0 [.string (str u), .bool false] := h.at
  have hsz : (str u).size = u.length := rfl
  refine zaa (args := [.pointer (some ⟨b, 0, none⟩)]) Tryz.func56 rfl NL ?_; refine GW ?_
  by_cases hu : u.length = 0
  ·refine KGO ?_
   refine ⟨zal ?_, Kp.refl _ _⟩
   rw [hsz, hu, List.eq_nil_of_length_eq_zero hu]; rfl
  ·refine KGO ?_
   refine ⟨zal ?_, Kp.refl _ _⟩
   rw [hsz]
   have : u ≠ [] := fun e => hu (by rw [e]; rfl)
   simp [this, hu]
end
theorem zjc (s : St) : ∀ u r, s = some u → (numR s).2 = some r → r.length < u.length := by
 rintro u r rfl h
 unfold numR at h
 dsimp only at h
 split at h
 ·cases h
 ·rename_i n r' hd
  injection h with h; subst h
  exact (zdY 9 false u n r' hd).2
theorem zgG (s : St) : (numR s).1 < 2 ^ 63 := by
 unfold numR
 split
 ·decide
 ·split
  ·decide
  ·rename_i h; have := (zdY _ _ _ _ _ h).1; dsimp only; omega
section
end
end Go.Proofs.YtennokckmjcefaaGreatDoor
namespace Go.Proofs.YtennokckmjcefaaGreatDoor
open Go.Shelf Go.RowKit Go.Pw Go.Vc Go.Cs Go.Lib Go.Cd Go.Mg
def notD (D : List TypeId) (w : World) (q : Nat) : Prop := ∀ cs T z, w.heap[q]? = some (.cells cs T z) → T ∉ D
theorem zak {D : List TypeId} {w : World} {b : Nat} {T : TypeId} {cs : List Value} (h : VarK w b T cs) (hT : T ∉ D) : ∀ q, q < w.heap.size → one_ b q → notD D w q := fun q _ e cs' T' z hh => by
 have e : q = b := e
 subst e
 unfold VarK at h
 rw [h] at hh
 injection hh with hh
 injection hh with _ h2
 rw [← h2]; exact hT
theorem zaT {D : List TypeId} {w : World} {B s n : Nat} {E : TypeId} {v : Value} {xs : List Value} (h : w.ownsRow B E s v n xs) (hE : E ∉ D) : ∀ q, q < w.heap.size → own_ v q → notD D w q := fun q _ e cs T z hh => by
 rcases h.2 with ⟨rfl, _⟩ | ⟨g, cap, cur, rfl, _, hr, _⟩
 ·cases e
 ·have e : g = q := by simpa [own_, Value.ownBlock] using e
  subst e
  rw [hr] at hh
  injection hh with hh
  injection hh with _ h2
  rw [← h2]; exact hE
theorem zfj {D : List TypeId} {w : World} : ∀ q, q < w.heap.size → n_ q → notD D w q := fun q _ e => e.elim
theorem zar {w : World} {B s n q : Nat} {E : TypeId} {v : Value} {xs : List Value} (h : w.ownsRow B E s v n xs) (hq : v.ownBlock = some q) : ∃ cs z, w.heap[q]? = some (.cells cs E z) ∧ B ≤ q ∧ q < w.heap.size := by
 rcases h.2 with ⟨rfl, _⟩ | ⟨g, cap, cur, rfl, hb, hr, _⟩
 ·cases hq
 ·injection hq with e
  subst e
  refine ⟨_, _, hr, hb, ?_⟩
  rcases Nat.lt_or_ge g w.heap.size with h' | h'
  ·exact h'
  ·rw [Array.getElem?_eq_none h'] at hr; cases hr
theorem zag {D : List TypeId} {w w' : World} {c : Nat → Prop} {B s n : Nat} {E : TypeId} {v : Value} {xs : List Value} (h : w.ownsRow B E s v n xs) (k : Kp w w' c) (hc : ∀ q, q < w.heap.size → c q → notD D w q) (hE : E ∈ D) : w'.ownsRow B E s v n xs :=
 zaj h k fun q hq e => by
  obtain ⟨cs, z, hh, _, hlt⟩ := zar h hq
  exact hc q hlt e _ _ _ hh hE
theorem zhL {w w' : World} {c : Nat → Prop} {B s n : Nat} {E : TypeId} {v : Value} {xs : List Value} (h : w.ownsRow B E s v n xs) (k : Kp w w' c) (hc : ∀ q, c q → w.heap.size ≤ q) : w'.ownsRow B E s v n xs :=
 zaj h k fun q hq e => by
  obtain ⟨cs, z, hh, _, hlt⟩ := zar h hq
  have := hc q e; omega
theorem zaf {w : World} {B s n b : Nat} {E T : TypeId} {v : Value} {xs cs : List Value} (h : w.ownsRow B E s v n xs) (hv : VarK w b T cs) (hne : E ≠ T) : ¬ own_ v b := fun e => by
 obtain ⟨cs', z, hh, _⟩ := zar h e
 unfold VarK at hv
 rw [hv] at hh
 injection hh with hh
 injection hh with _ h2
 exact hne h2.symm
def CapK (v : Value) : Prop := ∀ a n c, v = .slice a n c → n ≤ c
theorem zcy {w : World} {B s n : Nat} {E : TypeId} {v : Value} {xs : List Value} (h : w.ownsRow B E s v n xs) : CapK v := fun a n' c e => by
 subst e
 rcases h.2 with ⟨h1, h2⟩ | ⟨g, cap', cur, h1, hb, hgg, h3, h4, _⟩
 ·injection h1 with _ h5 h6
  omega
 ·injection h1 with _ h5 h6
  omega
def bldQ (w : World) (B b : Nat) : Nat → Prop := fun q => B ≤ q ∧ (q = b ∨ ∃ cs z, w.heap[q]? = some (.cells cs 5 z))
theorem znk {w w' : World} {B b : Nat} (hb : Below B w w') (ho : OthersKept 5 (some b) w w') : Kp w w' (bldQ w B b) := ⟨hb.os, hb.tape, hb.output, hb.size, fun k hk hn => by
 by_cases hkB : k < B
 ·exact hb.block k hkB
 ·obtain ⟨o, ho'⟩ : ∃ o, w.heap[k]? = some o := ⟨w.heap[k], Array.getElem?_eq_getElem hk⟩
  rw [ho']
  exact ho k o ho' (fun e => hn ⟨by omega, .inl (by injection e)⟩) (fun c fz e => hn ⟨by omega, .inr ⟨c, fz, by rw [ho', e]⟩⟩)⟩
theorem zjB {w : World} {B b q : Nat} {T : TypeId} {cs : List Value} (h : VarK w q T cs) (hT : T ≠ 5) (hne : q ≠ b) : ¬ bldQ w B b q := fun ⟨_, e⟩ => by
 rcases e with e | ⟨cs', z, e⟩
 ·exact hne e
 ·unfold VarK at h
  rw [h] at e
  injection e with e
  injection e with _ e
  exact hT e
theorem zpv {w : World} {B b : Nat} {l : List UInt8} (h : Bld w B b l) : b < w.heap.size := by
 rcases h with ⟨_, v, hb, _⟩ | ⟨_, v, hb, _⟩ <;> exact zbn hb
theorem zme {a w w' : World} {c : Nat → Prop} {B b : Nat} (h : Kp a w c) (k : Kp w w' (bldQ w B b)) (hB : a.heap.size ≤ B) : Kp a w' c :=
 h.trans k fun q hq e => by have := e.1; omega
structure Pr where
 p : Pst
 h : Sl
instance : Inhabited Pr := ⟨⟨⟨0, []⟩, ⟨none, 0, 0⟩⟩⟩
def prC (x : Pr) : List Value := [.int .i64 x.p.doc, .slice x.h.a x.h.n x.h.c]
theorem lenPr (x : Pr) : (prC x).length = 2 := rfl
theorem infoPr : (Tryz.prog.info? 44).map (fun i => (i.zero, i.size, i.bytes)) = some (some (.agg #[.int .i64 0, .slice none 0 0]), 2, 32) := by kernel_rfl
theorem tyP : RowTy 37 44 prC 2 32 := ⟨Tryz.underlying37, ⟨_, infoPr, rfl⟩, by decide, lenPr, fun x => List.all_eq_true.1 (by rfl)⟩
theorem RowI_at {w : World} {s : Sl} {l : List Int} (h : RowI w s.v l) (h0 : 0 < l.length) : ∃ g o, s.a = some ⟨g, o, none⟩ ∧ At w g o (l.flatMap inC) := by
 obtain ⟨a, c, e, hr⟩ := h
 obtain ⟨g, o, e2, _, hat⟩ := hr h0
 injection e with e3
 exact ⟨g, o, e3.trans e2, hat⟩
structure RdP (w : World) (v : Value) (lx : List Pr) : Prop where
 row : RowO w v prC lx
 pl : ∀ x ∈ lx, RowI w x.h.v x.p.places
 cap : CapK v
 plc : ∀ x ∈ lx, CapK x.h.v
theorem RdP.keep {w w' : World} {v : Value} {lx : List Pr} (h : RdP w v lx) (k : Kp w w' n_) : RdP w' v lx := ⟨h.row.keep k, fun x hx => (h.pl x hx).keep k, h.cap, h.plc⟩
def RowP (w : World) (v : Value) (l : List Pst) : Prop := ∃ lx, lx.map (·.p) = l ∧ RdP w v lx
theorem RowP.keep {w w' : World} {v : Value} {l : List Pst} (h : RowP w v l) (k : Kp w w' n_) : RowP w' v l := let ⟨lx, h1, h2⟩ := h; ⟨lx, h1, h2.keep k⟩
structure OwP (w : World) (B : Nat) (v : Value) (lx : List Pr) : Prop where
 row : OwnR 44 prC 2 w B v lx
 pl : ∀ x ∈ lx, OwnI w B x.h.v x.p.places
def DP : List TypeId := [3, 44]
theorem OwP.rd {w : World} {B : Nat} {v : Value} {lx : List Pr} (h : OwP w B v lx) : RdP w v lx := ⟨zaw h.row, fun x hx => zaw (h.pl x hx), zcy h.row, fun x hx => zcy (h.pl x hx)⟩
theorem OwP.keepT {w w' : World} {c : Nat → Prop} {B : Nat} {v : Value} {lx : List Pr} (h : OwP w B v lx) (k : Kp w w' c) (hc : ∀ q, q < w.heap.size → c q → notD DP w q) : OwP w' B v lx :=
 ⟨zag h.row k hc (by decide), fun x hx => zag (h.pl x hx) k hc (by decide)⟩
theorem OwP.keep {w w' : World} {B : Nat} {v : Value} {lx : List Pr} (h : OwP w B v lx) (k : Kp w w' n_) : OwP w' B v lx := h.keepT k zfj
theorem OwP.keepL {w w' : World} {c : Nat → Prop} {B : Nat} {v : Value} {lx : List Pr} (h : OwP w B v lx) (k : Kp w w' c) (hc : ∀ q, c q → w.heap.size ≤ q) : OwP w' B v lx :=
 ⟨zhL h.row k hc, fun x hx => zhL (h.pl x hx) k hc⟩
theorem OwP.base {w : World} {B B' : Nat} {v : Value} {lx : List Pr} (h : OwP w B v lx) (hB : B' ≤ B) : OwP w B' v lx := ⟨zaz h.row hB, fun x hx => zaz (h.pl x hx) hB⟩
def OwnP (w : World) (B : Nat) (v : Value) (l : List Pst) : Prop := ∃ lx, lx.map (·.p) = l ∧ OwP w B v lx
theorem OwnP.row {w : World} {B : Nat} {v : Value} {l : List Pst} (h : OwnP w B v l) : RowP w v l := let ⟨lx, h1, h2⟩ := h; ⟨lx, h1, h2.rd⟩
theorem OwnP.keepT {w w' : World} {c : Nat → Prop} {B : Nat} {v : Value} {l : List Pst} (h : OwnP w B v l) (k : Kp w w' c) (hc : ∀ q, q < w.heap.size → c q → notD DP w q) : OwnP w' B v l := let ⟨lx, h1, h2⟩ := h; ⟨lx, h1, h2.keepT k hc⟩
theorem OwnP.keep {w w' : World} {B : Nat} {v : Value} {l : List Pst} (h : OwnP w B v l) (k : Kp w w' n_) : OwnP w' B v l := h.keepT k zfj
theorem OwnP.keepL {w w' : World} {c : Nat → Prop} {B : Nat} {v : Value} {l : List Pst} (h : OwnP w B v l) (k : Kp w w' c) (hc : ∀ q, c q → w.heap.size ≤ q) : OwnP w' B v l := let ⟨lx, h1, h2⟩ := h; ⟨lx, h1, h2.keepL k hc⟩
theorem OwnP.base {w : World} {B B' : Nat} {v : Value} {l : List Pst} (h : OwnP w B v l) (hB : B' ≤ B) : OwnP w B' v l := let ⟨lx, h1, h2⟩ := h; ⟨lx, h1, h2.base hB⟩
theorem OwnP.shape {w : World} {B : Nat} {v : Value} {l : List Pst} (h : OwnP w B v l) : ∃ a c, v = .slice a l.length c := by
 obtain ⟨lx, h1, h2⟩ := h
 obtain ⟨a, c, e⟩ := zab h2.row
 exact ⟨a, c, by rw [e, ← h1, List.length_map]⟩
theorem RowP.shape {w : World} {v : Value} {l : List Pst} (h : RowP w v l) : ∃ a c, v = .slice a l.length c := by
 obtain ⟨lx, h1, h2⟩ := h
 obtain ⟨a, c, e, _⟩ := h2.row
 exact ⟨a, c, by rw [e, ← h1, List.length_map]⟩
theorem zbp (w : World) (B : Nat) : OwnP w B (.slice none 0 0) [] := ⟨[], rfl, ⟨⟨rfl, .inl ⟨rfl, rfl⟩⟩, fun x h => by cases h⟩⟩
end Go.Proofs.YtennokckmjcefaaGreatDoor
