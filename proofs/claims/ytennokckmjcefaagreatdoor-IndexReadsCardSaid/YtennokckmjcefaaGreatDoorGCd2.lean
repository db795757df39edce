/- Helper lemmas; no conditions of their own. -/
import Derived.Test.YtennokckmjcefaaGreatDoorGMg0
set_option linter.unusedVariables false
set_option maxHeartbeats 8000000
set_option maxRecDepth 100000
namespace Go.Proofs.YtennokckmjcefaaGreatDoor
open Go.Shelf Go.RowKit Go.Pw Go.Vc Go.Cs Go.Lib Go.Cd
theorem zbc (u : List UInt8) (k : Nat) : (str u).extract k u.length = str (u.drop k) := by
 apply ByteArray.ext
 simp [str]
 exact yaz (by simp)
def valL : List UInt8 → Nat
 | [] => 0
 | b :: r => b.toNat % 128 + 128 * valL r
theorem zhY : ∀ l : List UInt8, valL l < 128 ^ l.length
 | [] => by simp [valL]
 | b :: r => by
  have := zhY r
  simp only [valL, yab, Nat.pow_succ]
  omega
theorem zhL (b : UInt8) : ∀ l : List UInt8, valL (l ++ [b]) = valL l + b.toNat % 128 * 128 ^ l.length
 | [] => by simp [valL]
 | a :: r => by
  have := zhL b r
  simp only [yaW, valL, this, yab, Nat.pow_succ]
  rw [Nat.mul_add, ← ybT, Nat.mul_left_comm, ycc 128 (128 ^ r.length)]
theorem zee : ∀ (pre : List UInt8) (k : Nat) (z : Bool) (r : List UInt8), (∀ b ∈ pre, 128 ≤ b.toNat) → pre.length ≤ k →
  numD k z (pre ++ r) = (numD (k - pre.length) (z || decide (0 < pre.length)) r).map fun p => (valL pre + 128 ^ pre.length * p.1, p.2)
 | [], k, z, r, _, _ => by
  simp only [yaT, yaE, ybb, valL, Nat.pow_zero, yaU, Nat.one_mul, Nat.lt_irrefl, decide_false, Bool.or_false]
  cases numD k z r <;> rfl
 | b :: pre, k + 1, z, r, h, hk => by
  have hb := h b yae
  have hb2 := b.toNat_lt
  simp only [yaW, numD]
  rw [if_pos hb, zee pre k true r (fun x hx => h x (yai _ hx)) (by simpa using hk)]
  simp only [yab, Nat.add_sub_add_right, Bool.true_or, Nat.zero_lt_succ, decide_true, Bool.or_true]
  cases numD (k - pre.length) true r with
  | none => rfl
  | some p =>
   simp only [ybn, valL, Nat.pow_succ]
   congr 2
   rw [Nat.mul_add, show b.toNat - 128 = b.toNat % 128 by omega, ybT, ycc (128 ^ pre.length) 128, Nat.mul_assoc]
theorem zpL {q m m2 j : Nat} (hq : q < 256) (hj : j < 9) (hm : m < 128 ^ j) (hva : m2 = m + q % 128 * 128 ^ j) :
  (m : Int) + IntKind.i64.wrap ((q : Int).tmod 128 * 2 ^ min (7 * (j : Int)).toNat IntKind.i64.bits) = (m2 : Int) ∧ m2 < 2 ^ 63 := by
 have hb : (IntKind.i64.bits : Nat) = 64 := rfl
 have h7 : min (7 * (j : Int)).toNat IntKind.i64.bits = 7 * j := by rw [hb]; omega
 have hp : (2 : Int) ^ (7 * j) = ((128 ^ j : Nat) : Int) := by rw [Int.pow_mul]; norm_cast
 have hle : 128 ^ j ≤ 128 ^ 8 := Nat.pow_le_pow_right (by decide) OM
 have hmul : q % 128 * 128 ^ j ≤ 127 * 128 ^ 8 := Nat.mul_le_mul OM hle
 rw [h7, hp, tmod_nat, ← Int.natCast_mul, wrap_i64 OM OM, hva]
 refine ⟨by rw [Int.natCast_add], OM⟩
def rdC : St → List Value
 | none => [.string ⟨#[]⟩, .bool true]
 | some u => [.string (str u), .bool false]
section
variable {w : World} {b : Nat}
theorem zbE (s : St) (h : VarK w b 139 (rdC s)) : Calls Tryz.prog 115 #[.pointer (some ⟨b, 0, none⟩)] w fun e w' => e = .returned (.tuple #[]) ∧ VarK w' b 139 (rdC none) ∧ Kp w w' (one_ b) := by
 obtain ⟨x, y, hc⟩ : ∃ x y, rdC s = [x, y] := by cases s <;> exact ⟨_, _, rfl⟩
 rw [hc] at h
 refine zaa (args := [.pointer (some ⟨b, 0, none⟩)]) Tryz.func115 rfl NL ?_; refine GW ?_
 refine KGO ?_
 refine Yd (i := 0) h (by simp) (by rfl) ⟨rfl, by simp, by simp⟩ fun w1 v1 k1 => ?_
 refine GW ?_
 refine Yd (i := 1) v1 (by simp) (by rfl) ⟨rfl, by simp, by simp⟩ fun w2 v2 k2 => ?_
 refine GW ?_
 exact ⟨rfl, v2, k1.trans' k2⟩
theorem zcx (s : St) (h : VarK w b 139 (rdC s)) (hs : ∀ u, s = some u → u.length ≤ 140737488355328) :
  Calls Tryz.prog 51 #[.pointer (some ⟨b, 0, none⟩)] w fun e w' => e = .returned (.int .i64 ((numR s).1 : Nat)) ∧ VarK w' b 139 (rdC (numR s).2) ∧ Kp w w' (one_ b) := by
 obtain ⟨u, x, hc, hr, hux⟩ : ∃ u x, rdC s = [.string (str u), .bool x] ∧ (numR s = match numD 9 false u with | none => (0, none) | some (n, r) => (n, some r)) ∧ (s = none ∧ u = [] ∨ s = some u ∧ x = false) := by
  cases s with
  | none => exact ⟨[], true, rfl, rfl, .inl ⟨rfl, rfl⟩⟩
  | some u => exact ⟨u, false, rfl, rfl, .inr ⟨rfl, rfl⟩⟩
 have hul : u.length ≤ 140737488355328 := by
  rcases hux with ⟨_, rfl⟩ | ⟨e, _⟩
  ·simp
  exact hs u e
 rw [hr]
 have h0 := h
 rw [hc] at h
 have ha := h.at
 refine zaa (args := [.pointer (some ⟨b, 0, none⟩)]) Tryz.func51 rfl NL ?_; refine GW ?_
 refine Yc (ι := Nat) (fun i => [(0, .pointer (some ⟨b, 0, none⟩)), (3, .int .i64 (valL (u.take i) : Nat)), (4, .int .i64 (i : Nat))])
  (fun i wr => Kp w wr n_ ∧ i ≤ u.length ∧ i ≤ 9 ∧ ∀ c ∈ u.take i, 128 ≤ c.toNat) (fun i => 9 - i) 0 FR ⟨Yb _ _, OM, OM, by simp⟩ ?_
 rintro i g wr ⟨hK, hi, hi9, hb⟩
 refine GW ?_
 have hsz : (str u).size = u.length := rfl
 have hpre := zee (u.take i) 9 false (u.drop i) hb (by rw [yar]; omega)
 rw [yaB, yar, yaJ hi] at hpre
 by_cases hlt : i < u.length ∧ i < 9
 ·obtain ⟨hlt, hlt9⟩ := hlt
  have hvl := zhY (u.take i)
  rw [yar, yaJ hi] at hvl
  have hx : u.take (i + 1) = u.take i ++ [u[i]] := yad hlt
  have hva := zhL u[i] (u.take i)
  rw [← hx, yar, yaJ hi] at hva
  have hby : (zaB (str u) i).toNat = u[i].toNat := by
   unfold zaB; simp [str, hlt]
  obtain ⟨c, hcu⟩ : ∃ c, u[i] = c := ⟨_, rfl⟩
  have hcl := c.toNat_lt
  obtain ⟨m, hm⟩ : ∃ m, valL (u.take i) = m := ⟨_, rfl⟩
  obtain ⟨m2, hm2⟩ : ∃ m2, valL (u.take (i + 1)) = m2 := ⟨_, rfl⟩
  obtain ⟨q, hq⟩ : ∃ q, c.toNat = q := ⟨_, rfl⟩
  rw [hm, hcu, hq, hm2] at hva
  rw [hm] at hvl hpre ⊢
  rw [hcu, hq] at hby
  rw [hq] at hcl
  have hw8 : IntKind.i64.wrap ((zaB (str u) i).toNat : Int) = (q : Int) := by rw [hby]; exact wrap_i64 OM OM
  obtain ⟨hsh, hm63⟩ := zpL hcl hlt9 hvl hva
  have hend : ¬ 128 ≤ q → numD 9 false u = if 0 < i ∧ q = 0 then none else some (m2, u.drop (i + 1)) := fun hn => by
   rw [hpre, yat hlt, hcu]
   obtain ⟨k, hk⟩ : ∃ k, 9 - i = k + 1 := ⟨8 - i, OM⟩
   rw [hk]
   simp only [numD, hq, if_neg hn, Bool.false_or, decide_eq_true_eq]
   split
   ·rfl
   simp only [ybn]; congr 2; rw [hva, Nat.mod_eq_of_lt (by omega : q < 128), ycc]
  have hnone : numD 9 false u = none → ∀ wx, Kp w wx n_ → VarK wx b 139 [.string (str u), .bool x] := fun _ wx kx => h.keep0 kx
  obtain rfl | rfl | rfl | rfl | rfl | rfl | rfl | rfl | rfl : i = 0 ∨ i = 1 ∨ i = 2 ∨ i = 3 ∨ i = 4 ∨ i = 5 ∨ i = 6 ∨ i = 7 ∨ i = 8 := OM
  ·skip
   refine KGO ?_
   rw [hw8, hsh]
   by_cases hbig : 128 ≤ q
   ·refine KGO ?_
    exact ⟨1, ⟨rfl, v_int (by rw [hm2]), rfl, trivial⟩, ⟨hK, OM, OM, by
     rw [hx]
     intro c' hc'
     rcases yaj.1 hc' with h' | h'
     ·exact hb c' h'
     rw [yac.1 h', hcu, hq]; exact hbig⟩, DO⟩
   have hend := hend hbig
   rw [if_neg OM] at hend
   by_cases hz : q = 0
   ·skip
    refine KGO ?_
    try (refine Cut.fromI (l := ((0 : Nat) : Int) + 1) OM OM OM ?_; refine GW ?_)
    refine Yd (i := 0) (h.keep0 hK) (by simp) (by rfl) ⟨rfl, by simp, by simp⟩ fun w2 v2 k2 => ?_
    refine KGO ?_
    rw [hend]
    refine ⟨rfl, ?_, (hK.of_none (c := one_ b)).trans' k2⟩
    have e2 : (str u).extract 1 (str u).size = str (u.drop 1) := by rw [hsz]; exact zbc u 1
    show VarK w2 b 139 [.string (str (u.drop 1)), .bool false]
    rw [← e2]
    rcases hux with ⟨_, hu⟩ | ⟨_, hx0⟩
    ·rw [hu] at hlt; simp at hlt
    rw [hx0] at v2; exact v2
   skip
   refine KGO ?_
   try (refine Cut.fromI (l := ((0 : Nat) : Int) + 1) OM OM OM ?_; refine GW ?_)
   refine Yd (i := 0) (h.keep0 hK) (by simp) (by rfl) ⟨rfl, by simp, by simp⟩ fun w2 v2 k2 => ?_
   refine KGO ?_
   rw [hend]
   refine ⟨rfl, ?_, (hK.of_none (c := one_ b)).trans' k2⟩
   have e2 : (str u).extract 1 (str u).size = str (u.drop 1) := by rw [hsz]; exact zbc u 1
   show VarK w2 b 139 [.string (str (u.drop 1)), .bool false]
   rw [← e2]
   rcases hux with ⟨_, hu⟩ | ⟨_, hx0⟩
   ·rw [hu] at hlt; simp at hlt
   rw [hx0] at v2; exact v2
  ·skip
   refine KGO ?_
   rw [hw8, hsh]
   by_cases hbig : 128 ≤ q
   ·refine KGO ?_
    exact ⟨2, ⟨rfl, v_int (by rw [hm2]), rfl, trivial⟩, ⟨hK, OM, OM, by
     rw [hx]
     intro c' hc'
     rcases yaj.1 hc' with h' | h'
     ·exact hb c' h'
     rw [yac.1 h', hcu, hq]; exact hbig⟩, DO⟩
   by_cases hz : q = 0
   ·have hend := hend hbig
    rw [if_pos ⟨OM, hz⟩] at hend
    refine KGO ?_
    refine Ya (Tryz.call115 _ _) (zbE s (h0.keep0 hK)) ?_
    rintro e w2 ⟨rfl, v2, k2⟩
    refine RT ?_
    rw [hend]
    exact ⟨rfl, v2, (hK.of_none (c := one_ b)).trans' k2⟩
   have hend := hend hbig
   rw [if_neg (fun h => hz h.2)] at hend
   refine KGO ?_
   try (refine Cut.fromI (l := ((1 : Nat) : Int) + 1) OM OM OM ?_; refine GW ?_)
   refine Yd (i := 0) (h.keep0 hK) (by simp) (by rfl) ⟨rfl, by simp, by simp⟩ fun w2 v2 k2 => ?_
   refine KGO ?_
   rw [hend]
   refine ⟨rfl, ?_, (hK.of_none (c := one_ b)).trans' k2⟩
   have e2 : (str u).extract 2 (str u).size = str (u.drop 2) := by rw [hsz]; exact zbc u 2
   show VarK w2 b 139 [.string (str (u.drop 2)), .bool false]
   rw [← e2]
   rcases hux with ⟨_, hu⟩ | ⟨_, hx0⟩
   ·rw [hu] at hlt; simp at hlt
   rw [hx0] at v2; exact v2
  ·skip
   refine KGO ?_
   rw [hw8, hsh]
   by_cases hbig : 128 ≤ q
   ·refine KGO ?_
    exact ⟨3, ⟨rfl, v_int (by rw [hm2]), rfl, trivial⟩, ⟨hK, OM, OM, by
     rw [hx]
     intro c' hc'
     rcases yaj.1 hc' with h' | h'
     ·exact hb c' h'
     rw [yac.1 h', hcu, hq]; exact hbig⟩, DO⟩
   by_cases hz : q = 0
   ·have hend := hend hbig
    rw [if_pos ⟨OM, hz⟩] at hend
    refine KGO ?_
    refine Ya (Tryz.call115 _ _) (zbE s (h0.keep0 hK)) ?_
    rintro e w2 ⟨rfl, v2, k2⟩
    refine RT ?_
    rw [hend]
    exact ⟨rfl, v2, (hK.of_none (c := one_ b)).trans' k2⟩
   have hend := hend hbig
   rw [if_neg (fun h => hz h.2)] at hend
   refine KGO ?_
   try (refine Cut.fromI (l := ((2 : Nat) : Int) + 1) OM OM OM ?_; refine GW ?_)
   refine Yd (i := 0) (h.keep0 hK) (by simp) (by rfl) ⟨rfl, by simp, by simp⟩ fun w2 v2 k2 => ?_
   refine KGO ?_
   rw [hend]
   refine ⟨rfl, ?_, (hK.of_none (c := one_ b)).trans' k2⟩
   have e2 : (str u).extract 3 (str u).size = str (u.drop 3) := by rw [hsz]; exact zbc u 3
   show VarK w2 b 139 [.string (str (u.drop 3)), .bool false]
   rw [← e2]
   rcases hux with ⟨_, hu⟩ | ⟨_, hx0⟩
   ·rw [hu] at hlt; simp at hlt
   rw [hx0] at v2; exact v2
  ·skip
   refine KGO ?_
   rw [hw8, hsh]
   by_cases hbig : 128 ≤ q
   ·refine KGO ?_
    exact ⟨4, ⟨rfl, v_int (by rw [hm2]), rfl, trivial⟩, ⟨hK, OM, OM, by
     rw [hx]
     intro c' hc'
     rcases yaj.1 hc' with h' | h'
     ·exact hb c' h'
     rw [yac.1 h', hcu, hq]; exact hbig⟩, DO⟩
   by_cases hz : q = 0
   ·have hend := hend hbig
    rw [if_pos ⟨OM, hz⟩] at hend
    refine KGO ?_
    refine Ya (Tryz.call115 _ _) (zbE s (h0.keep0 hK)) ?_
    rintro e w2 ⟨rfl, v2, k2⟩
    refine RT ?_
    rw [hend]
    exact ⟨rfl, v2, (hK.of_none (c := one_ b)).trans' k2⟩
   have hend := hend hbig
   rw [if_neg (fun h => hz h.2)] at hend
   refine KGO ?_
   try (refine Cut.fromI (l := ((3 : Nat) : Int) + 1) OM OM OM ?_; refine GW ?_)
   refine Yd (i := 0) (h.keep0 hK) (by simp) (by rfl) ⟨rfl, by simp, by simp⟩ fun w2 v2 k2 => ?_
   refine KGO ?_
   rw [hend]
   refine ⟨rfl, ?_, (hK.of_none (c := one_ b)).trans' k2⟩
   have e2 : (str u).extract 4 (str u).size = str (u.drop 4) := by rw [hsz]; exact zbc u 4
   show VarK w2 b 139 [.string (str (u.drop 4)), .bool false]
   rw [← e2]
   rcases hux with ⟨_, hu⟩ | ⟨_, hx0⟩
   ·rw [hu] at hlt; simp at hlt
   rw [hx0] at v2; exact v2
  ·skip
   refine KGO ?_
   rw [hw8, hsh]
   by_cases hbig : 128 ≤ q
   ·refine KGO ?_
    exact ⟨5, ⟨rfl, v_int (by rw [hm2]), rfl, trivial⟩, ⟨hK, OM, OM, by
     rw [hx]
     intro c' hc'
     rcases yaj.1 hc' with h' | h'
     ·exact hb c' h'
     rw [yac.1 h', hcu, hq]; exact hbig⟩, DO⟩
   by_cases hz : q = 0
   ·have hend := hend hbig
    rw [if_pos ⟨OM, hz⟩] at hend
    refine KGO ?_
    refine Ya (Tryz.call115 _ _) (zbE s (h0.keep0 hK)) ?_
    rintro e w2 ⟨rfl, v2, k2⟩
    refine RT ?_
    rw [hend]
    exact ⟨rfl, v2, (hK.of_none (c := one_ b)).trans' k2⟩
   have hend := hend hbig
   rw [if_neg (fun h => hz h.2)] at hend
   refine KGO ?_
   try (refine Cut.fromI (l := ((4 : Nat) : Int) + 1) OM OM OM ?_; refine GW ?_)
   refine Yd (i := 0) (h.keep0 hK) (by simp) (by rfl) ⟨rfl, by simp, by simp⟩ fun w2 v2 k2 => ?_
   refine KGO ?_
   rw [hend]
   refine ⟨rfl, ?_, (hK.of_none (c := one_ b)).trans' k2⟩
   have e2 : (str u).extract 5 (str u).size = str (u.drop 5) := by rw [hsz]; exact zbc u 5
   show VarK w2 b 139 [.string (str (u.drop 5)), .bool false]
   rw [← e2]
   rcases hux with ⟨_, hu⟩ | ⟨_, hx0⟩
   ·rw [hu] at hlt; simp at hlt
   rw [hx0] at v2; exact v2
  ·skip
   refine KGO ?_
   rw [hw8, hsh]
   by_cases hbig : 128 ≤ q
   ·refine KGO ?_
    exact ⟨6, ⟨rfl, v_int (by rw [hm2]), rfl, trivial⟩, ⟨hK, OM, OM, by
     rw [hx]
     intro c' hc'
     rcases yaj.1 hc' with h' | h'
     ·exact hb c' h'
     rw [yac.1 h', hcu, hq]; exact hbig⟩, DO⟩
   by_cases hz : q = 0
   ·have hend := hend hbig
    rw [if_pos ⟨OM, hz⟩] at hend
    refine KGO ?_
    refine Ya (Tryz.call115 _ _) (zbE s (h0.keep0 hK)) ?_
    rintro e w2 ⟨rfl, v2, k2⟩
    refine RT ?_
    rw [hend]
    exact ⟨rfl, v2, (hK.of_none (c := one_ b)).trans' k2⟩
   have hend := hend hbig
   rw [if_neg (fun h => hz h.2)] at hend
   refine KGO ?_
   try (refine Cut.fromI (l := ((5 : Nat) : Int) + 1) OM OM OM ?_; refine GW ?_)
   refine Yd (i := 0) (h.keep0 hK) (by simp) (by rfl) ⟨rfl, by simp, by simp⟩ fun w2 v2 k2 => ?_
   refine KGO ?_
   rw [hend]
   refine ⟨rfl, ?_, (hK.of_none (c := one_ b)).trans' k2⟩
   have e2 : (str u).extract 6 (str u).size = str (u.drop 6) := by rw [hsz]; exact zbc u 6
   show VarK w2 b 139 [.string (str (u.drop 6)), .bool false]
   rw [← e2]
   rcases hux with ⟨_, hu⟩ | ⟨_, hx0⟩
   ·rw [hu] at hlt; simp at hlt
   rw [hx0] at v2; exact v2
  ·skip
   refine KGO ?_
   rw [hw8, hsh]
   by_cases hbig : 128 ≤ q
   ·refine KGO ?_
    exact ⟨7, ⟨rfl, v_int (by rw [hm2]), rfl, trivial⟩, ⟨hK, OM, OM, by
     rw [hx]
     intro c' hc'
     rcases yaj.1 hc' with h' | h'
     ·exact hb c' h'
     rw [yac.1 h', hcu, hq]; exact hbig⟩, DO⟩
   by_cases hz : q = 0
   ·have hend := hend hbig
    rw [if_pos ⟨OM, hz⟩] at hend
    refine KGO ?_
    refine Ya (Tryz.call115 _ _) (zbE s (h0.keep0 hK)) ?_
    rintro e w2 ⟨rfl, v2, k2⟩
    refine RT ?_
    rw [hend]
    exact ⟨rfl, v2, (hK.of_none (c := one_ b)).trans' k2⟩
   have hend := hend hbig
   rw [if_neg (fun h => hz h.2)] at hend
   refine KGO ?_
   try (refine Cut.fromI (l := ((6 : Nat) : Int) + 1) OM OM OM ?_; refine GW ?_)
   refine Yd (i := 0) (h.keep0 hK) (by simp) (by rfl) ⟨rfl, by simp, by simp⟩ fun w2 v2 k2 => ?_
   refine KGO ?_
   rw [hend]
   refine ⟨rfl, ?_, (hK.of_none (c := one_ b)).trans' k2⟩
   have e2 : (str u).extract 7 (str u).size = str (u.drop 7) := by rw [hsz]; exact zbc u 7
   show VarK w2 b 139 [.string (str (u.drop 7)), .bool false]
   rw [← e2]
   rcases hux with ⟨_, hu⟩ | ⟨_, hx0⟩
   ·rw [hu] at hlt; simp at hlt
   rw [hx0] at v2; exact v2
  ·skip
   refine KGO ?_
   rw [hw8, hsh]
   by_cases hbig : 128 ≤ q
   ·refine KGO ?_
    exact ⟨8, ⟨rfl, v_int (by rw [hm2]), rfl, trivial⟩, ⟨hK, OM, OM, by
     rw [hx]
     intro c' hc'
     rcases yaj.1 hc' with h' | h'
     ·exact hb c' h'
     rw [yac.1 h', hcu, hq]; exact hbig⟩, DO⟩
   by_cases hz : q = 0
   ·have hend := hend hbig
    rw [if_pos ⟨OM, hz⟩] at hend
    refine KGO ?_
    refine Ya (Tryz.call115 _ _) (zbE s (h0.keep0 hK)) ?_
    rintro e w2 ⟨rfl, v2, k2⟩
    refine RT ?_
    rw [hend]
    exact ⟨rfl, v2, (hK.of_none (c := one_ b)).trans' k2⟩
   have hend := hend hbig
   rw [if_neg (fun h => hz h.2)] at hend
   refine KGO ?_
   try (refine Cut.fromI (l := ((7 : Nat) : Int) + 1) OM OM OM ?_; refine GW ?_)
   refine Yd (i := 0) (h.keep0 hK) (by simp) (by rfl) ⟨rfl, by simp, by simp⟩ fun w2 v2 k2 => ?_
   refine KGO ?_
   rw [hend]
   refine ⟨rfl, ?_, (hK.of_none (c := one_ b)).trans' k2⟩
   have e2 : (str u).extract 8 (str u).size = str (u.drop 8) := by rw [hsz]; exact zbc u 8
   show VarK w2 b 139 [.string (str (u.drop 8)), .bool false]
   rw [← e2]
   rcases hux with ⟨_, hu⟩ | ⟨_, hx0⟩
   ·rw [hu] at hlt; simp at hlt
   rw [hx0] at v2; exact v2
  skip
  refine KGO ?_
  rw [hw8, hsh]
  by_cases hbig : 128 ≤ q
  ·refine KGO ?_
   exact ⟨9, ⟨rfl, v_int (by rw [hm2]), rfl, trivial⟩, ⟨hK, OM, OM, by
    rw [hx]
    intro c' hc'
    rcases yaj.1 hc' with h' | h'
    ·exact hb c' h'
    rw [yac.1 h', hcu, hq]; exact hbig⟩, DO⟩
  by_cases hz : q = 0
  ·have hend := hend hbig
   rw [if_pos ⟨OM, hz⟩] at hend
   refine KGO ?_
   refine Ya (Tryz.call115 _ _) (zbE s (h0.keep0 hK)) ?_
   rintro e w2 ⟨rfl, v2, k2⟩
   refine RT ?_
   rw [hend]
   exact ⟨rfl, v2, (hK.of_none (c := one_ b)).trans' k2⟩
  have hend := hend hbig
  rw [if_neg (fun h => hz h.2)] at hend
  refine KGO ?_
  try (refine Cut.fromI (l := ((8 : Nat) : Int) + 1) OM OM OM ?_; refine GW ?_)
  refine Yd (i := 0) (h.keep0 hK) (by simp) (by rfl) ⟨rfl, by simp, by simp⟩ fun w2 v2 k2 => ?_
  refine KGO ?_
  rw [hend]
  refine ⟨rfl, ?_, (hK.of_none (c := one_ b)).trans' k2⟩
  have e2 : (str u).extract 9 (str u).size = str (u.drop 9) := by rw [hsz]; exact zbc u 9
  show VarK w2 b 139 [.string (str (u.drop 9)), .bool false]
  rw [← e2]
  rcases hux with ⟨_, hu⟩ | ⟨_, hx0⟩
  ·rw [hu] at hlt; simp at hlt
  rw [hx0] at v2; exact v2
 have hend : numD 9 false u = none := by
  rw [hpre]
  by_cases h9 : i = 9
  ·subst h9; rfl
  rw [ybD OM]
  obtain ⟨k, hk⟩ : ∃ k, 9 - i = k + 1 := ⟨8 - i, OM⟩
  rw [hk]; rfl
 by_cases hlt1 : i < u.length
 ·refine KGO ?_
  refine Ya (Tryz.call115 _ _) (zbE s (h0.keep0 hK)) ?_
  rintro e w2 ⟨rfl, v2, k2⟩
  refine RT ?_
  rw [hend]
  exact ⟨rfl, v2, (hK.of_none (c := one_ b)).trans' k2⟩
 refine KGO ?_
 refine Ya (Tryz.call115 _ _) (zbE s (h0.keep0 hK)) ?_
 rintro e w2 ⟨rfl, v2, k2⟩
 refine RT ?_
 rw [hend]
 exact ⟨rfl, v2, (hK.of_none (c := one_ b)).trans' k2⟩
end
theorem zav {w w' a : World} {c : Nat → Prop} {B s n : Nat} {e : TypeId} {v : Value} {xs : List Value} (h : w.ownsRow B e s v n xs) (k : Kp w w' (own_ v)) (ha : Kp a w c) (hB : a.heap.size ≤ B) : Kp a w' c :=
 ha.trans k fun i hi hc => by
  exfalso
  rcases h.2 with ⟨rfl, _⟩ | ⟨g, cap, cur, rfl, hb, _⟩
  ·cases hc
  have e : g = i := by simpa [own_, Value.ownBlock] using hc
  omega
theorem bs1I (z : Int) (w : World) : (Instr.buildSlice 40 1 [(0, .int .i64 z)].toArray).run Tryz.prog w = .ok (.slice (some ⟨w.heap.size, 0, none⟩) 1 1) (w.alloc (.cells (List.toArray (inC z)) 3)) := by
 simp [Instr.buildSlice, go_sem, Tryz.runUnderlying40, inC]
def iL (l : List Nat) : List Int := l.map fun n : Nat => (n : Int)
theorem zbl (l : List Nat) : (iL l).length = l.length := by simp [iL]
theorem ziu (l : List Nat) (h : ∀ n ∈ l, n < 2 ^ 63) : (l.flatMap numE).length ≤ 9 * l.length := by
 induction l with
 | nil => simp
 | cons n l ih =>
  have h1 := zap (h n yae)
  have h2 := ih fun m hm => h m (yai _ hm)
  simp only [yao, yaa, yab]; omega
section
variable {w : World} {b : Nat}
theorem zsq (l : List Nat) {v : Value} (hv : RowI w v (iL l)) (hb : ∀ n ∈ l, n < 2 ^ 63) (hl : l.length ≤ 100000000) :
  Calls Tryz.prog 124 #[v, .func (.func 67) #[] #[]] w fun e w' => e = .returned (.string (str (numsE l))) ∧ Kp w w' n_ := by
 obtain ⟨a, cap, rfl, hr⟩ := hv
 rw [zbl]
 refine zaa (args := [.slice a l.length cap, .func (.func 67) #[] #[]]) Tryz.func124 rfl NL ?_; refine GW ?_
 have hb0 := zex w w.heap.size (yag _)
 have K0 : Kp w (w.alloc (.cells #[.pointer none, .slice none 0 0] 93)) n_ := (Yb _ _).alloc _
 generalize w.alloc (.cells #[.pointer none, .slice none 0 0] 93) = w0 at *
 refine GO ?_
 refine Ya (Tryz.call67 _ _) (zfU l.length OM) ?_
 rintro e w1 ⟨rfl, k1⟩
 refine RT ?_
 have hln := zap (show l.length < 2 ^ 63 by omega)
 have hsz : (str (numE l.length)).size = (numE l.length).length := rfl
 have hb1 := zbb hb0 k1
 have K1 := K0.trans0 k1
 refine Ya (Tryz.call66 _ _) (zaP (str (numE l.length)) w1 hb1 (by rw [hsz]; simp; omega) K1.size) ?_
 rintro e w2 ⟨rfl, hb2, hbe, _⟩
 refine RT ?_
 have K2 := K1.below' hbe (yag _)
 rw [yaT, show L (str (numE l.length)) = numE l.length from rfl] at hb2
 refine Yc (ι := Nat) (fun i => [(1, .func (.func 67) #[] #[]), (5, .pointer (some ⟨w.heap.size, 0, none⟩)), (6, .func (.func 66) #[.pointer (some ⟨w.heap.size, 0, none⟩)] #[]), (15, .slice a l.length cap), (16, .int .i64 (l.length : Nat)), (17, .int .i64 (i : Nat))])
  (fun i wr => Kp w wr n_ ∧ i ≤ l.length ∧ Bld wr w.heap.size w.heap.size (numE l.length ++ (l.take i).flatMap numE)) (fun i => l.length - i) 0 ⟨rfl, rfl, by simp [upd], rfl, rfl, rfl, trivial⟩ ⟨K2, OM, by simpa using hb2⟩ ?_
 rintro i g wr ⟨hK, hi, hbr⟩
 refine GW ?_
 by_cases hlt : i < l.length
 ·obtain ⟨gb, o, rfl, hgb, hat⟩ := hr (by rw [zbl]; omega)
  have hca := zaJ hat (by rw [zbl]; exact hlt)
  have hgi : (iL l)[i]'(by rw [zbl]; exact hlt) = ((l[i] : Nat) : Int) := by simp [iL]
  rw [hgi] at hca
  have hbi := hb l[i] (yak hlt)
  refine KGO ?_
  refine Ya (Tryz.call67 _ _) (zfU l[i] hbi) ?_
  rintro e w3 ⟨rfl, k3⟩
  refine RT ?_
  have hni := zap hbi
  have hbr3 := zbb hbr k3
  have K3 := hK.trans0 k3
  have hfl := ziu (l.take i) (fun n hn => hb n (ybo hn))
  rw [yar] at hfl
  refine Ya (Tryz.call66 _ _) (zaP (str (numE l[i])) w3 hbr3 (by rw [show (str (numE l[i])).size = (numE l[i]).length from rfl, yaa]; omega) K3.size) ?_
  rintro e w4 ⟨rfl, hb4, hbe4, _⟩
  refine RT ?_
  refine KGO ?_
  refine ⟨i + 1, FR, ⟨K3.below' hbe4 (yag _), OM, ?_⟩, DO⟩
  rw [yad hlt, yaC, ← yap]
  rw [show L (str (numE l[i])) = numE l[i] from rfl] at hb4
  simpa using hb4
 refine KGO ?_
 have hnn : i = l.length := OM
 rw [hnn, yaD] at hbr
 refine Ya (Tryz.call71 _ _) (zdo wr hbr hK.size) ?_
 rintro e w4 ⟨rfl, hb4, hbe4, _⟩
 refine RT ?_
 exact ⟨rfl, hK.below' hbe4 (yag _)⟩
theorem zoU (l : List Nat) {v : Value} (hv : RowI w v (iL l)) (hb : ∀ n ∈ l, n < 2 ^ 63) (hl : l.length ≤ 100000000) :
  Calls Tryz.prog 70 #[v] w fun e w' => e = .returned (.string (str (numsE l))) ∧ Kp w w' n_ := by
 have hv0 := hv
 obtain ⟨a, cap, rfl, hr⟩ := hv
 refine zaa (args := [.slice a (iL l).length cap]) Tryz.func70 rfl NL ?_; refine GW ?_
 refine Ya (Tryz.call124 _ _) (zsq l hv0 hb hl) ?_
 rintro e w1 ⟨rfl, k1⟩
 refine RT ?_
 exact ⟨rfl, k1⟩
theorem zqs (s : ByteArray) (w : World) : (Instr.build 139 [(0, .string s)].toArray).run Tryz.prog w = .ok (.agg #[.string s, .bool false]) w := by
 simp [Instr.build, go_sem, Tryz.runUnderlying139]
theorem zjG (s : ByteArray) : Calls Tryz.prog 50 #[.string s] w fun e w' => e = .returned (.pointer (some ⟨w.heap.size, 0, none⟩)) ∧ VarK w' w.heap.size 139 (rdC (some (L s))) ∧ Kp w w' n_ := by
 refine zaa (args := [.string s]) Tryz.func50 rfl NL ?_; refine GW ?_
 refine Ye (zqs s w) ?_
 refine GW ?_
 refine ⟨rfl, ?_, (Yb _ _).alloc _⟩
 exact Yk w 139 [.string s, .bool false]
theorem zhV (s : St) (h : VarK w b 139 (rdC s)) (hs : ∀ u, s = some u → u.length ≤ 140737488355328) : Calls Tryz.prog 56 #[.pointer (some ⟨b, 0, none⟩)] w fun e w' => e = .returned (.bool (decide (s = some []))) ∧ Kp w w' n_ := by
 cases s with
 | none =>
  have ha : At w b 0 [.string ⟨#[]⟩, .bool true] := h.at
  refine zaa (args := [.pointer (some ⟨b, 0, none⟩)]) Tryz.func56 rfl NL ?_; refine GW ?_
  refine KGO ?_
  exact ⟨rfl, Yb _ _⟩
 | some u =>
  have ha : At w b 0 [.string (str u), .bool false] := h.at
  have hsz : (str u).size = u.length := rfl
  refine zaa (args := [.pointer (some ⟨b, 0, none⟩)]) Tryz.func56 rfl NL ?_; refine GW ?_
  by_cases hu : u.length = 0
  ·refine KGO ?_
   refine ⟨ret_bool ?_, Yb _ _⟩
   rw [hsz, hu, yan hu]; rfl
  refine KGO ?_
  refine ⟨ret_bool ?_, Yb _ _⟩
  rw [hsz]
  have : u ≠ [] := fun e => hu (by rw [e]; rfl)
  simp [this, hu]
end
theorem zhi (s : St) : ∀ u r, s = some u → (numR s).2 = some r → r.length < u.length := by
 rintro u r rfl h
 unfold numR at h
 dsimp only at h
 split at h
 ·cases h
 rename_i n r' hd
 injection h with h; subst h
 exact (zeA 9 false u n r' hd).2
theorem zaW (s : St) : (numR s).1 < 2 ^ 63 := by
 unfold numR
 split
 ·decide
 split
 ·decide
 rename_i h; have := (zeA _ _ _ _ _ h).1; dsimp only; omega
theorem zip {s : St} (h : (numR s).2 = none) : (numR s).1 = 0 := by
 cases s with
 | none => rfl
 | some u =>
  unfold numR at h ⊢
  dsimp only at h ⊢
  cases hd : numD 9 false u with
  | none => rfl
  | some p => rw [hd] at h; cases h
def stLen : St → Nat
 | none => 0
 | some u => u.length
theorem zdn (s : St) : stLen (numR s).2 ≤ stLen s := by
 cases h : (numR s).2 with
 | none => simp [stLen]
 | some r =>
  cases s with
  | none => simp [numR] at h
  | some u => have := zhi (some u) u r rfl h; simp only [stLen]; omega
section
variable {w : World} {b : Nat}
theorem zsG (s : St) (h : VarK w b 139 (rdC s)) (hs : stLen s ≤ 140737488355328 / 16) :
  Calls Tryz.prog 118 #[.pointer (some ⟨b, 0, none⟩), .func (.func 51) #[.pointer (some ⟨b, 0, none⟩)] #[]] w fun e w' =>
   ∃ v, e = .returned v ∧ OwnI w' w.heap.size v (iL (numsR s).1) ∧ VarK w' b 139 (rdC (numsR s).2) ∧ Kp w w' (one_ b) := by
 have hs0 : ∀ u, s = some u → u.length ≤ 140737488355328 := by rintro u rfl; simp only [stLen] at hs; omega
 have hlt := h.lt
 refine zaa (args := [.pointer (some ⟨b, 0, none⟩), .func (.func 51) #[.pointer (some ⟨b, 0, none⟩)] #[]]) Tryz.func118 rfl NL ?_; refine GW ?_
 refine Ya (Tryz.call51 _ _) (zcx s h hs0) ?_
 rintro e w1 ⟨rfl, h1, k1⟩
 refine RT ?_
 have hle := zdn s
 have hn63 := zaW s
 have hnn := @zip s
 have hd : numsR s = match numR s with | (_, none) => ([], none) | (n, some r) => if r.length < n then ([], none) else (match numsG n (some r) with | (_, none) => ([], none) | p => p) := rfl
 obtain ⟨n, s1, hns⟩ : ∃ n s1, numR s = (n, s1) := ⟨_, _, rfl⟩
 rw [hns] at h1 hle hn63 hnn hd
 rw [hns]
 dsimp only at h1 hle hn63 hnn hd ⊢
 obtain ⟨r0, x0, hc0, hr0⟩ : ∃ r0 x0, rdC s1 = [.string (str r0), .bool x0] ∧ r0.length = stLen s1 ∧ (s1 = none → x0 = true) ∧ (∀ r, s1 = some r → r = r0 ∧ x0 = false) := by
  cases s1 with
  | none => exact ⟨[], true, rfl, rfl, fun _ => rfl, fun _ h => by cases h⟩
  | some r => exact ⟨r, false, rfl, rfl, (fun h => by cases h), fun _ h => by injection h with h; exact ⟨h.symm, rfl⟩⟩
 obtain ⟨hr0l, hx1, hx2⟩ := hr0
 have a1 : At w1 b 0 [.string (str r0), .bool x0] := by rw [← hc0]; exact h1.at
 have hsz : (str r0).size = r0.length := rfl
 by_cases hbig : r0.length < n
 ·refine KGO ?_
  refine Ya (Tryz.call115 _ _) (zbE s1 h1) ?_
  rintro e w2 ⟨rfl, h2, k2⟩
  refine RT ?_
  have a2 : At w2 b 0 [.string ⟨#[]⟩, .bool true] := h2.at
  have hnil : numsR s = ([], none) := by
   rw [hd]
   cases s1 with
   | none => rfl
   | some r => obtain ⟨rfl, _⟩ := hx2 r rfl; dsimp only; rw [if_pos hbig]
  refine Yc (ι := Unit) (fun i => [(0, .pointer (some ⟨b, 0, none⟩)), (5, .int .i64 (n : Nat)), (6, .slice none 0 0), (7, .int .i64 0)])
   (fun i wr => wr = w2) (fun i => 0) () FR rfl ?_
  rintro ⟨⟩ g wr rfl
  refine GW ?_
  have q2 := Yb wr n_
  by_cases hn0 : 0 < n
  ·refine KGO ?_
   rw [hnil]
   exact ⟨_, rfl, World.ownsRow_nil _ _ _ _, h2, k1.trans' k2⟩
  omega
 cases s1 with
 | none =>
  have hn0 := hnn rfl
  obtain rfl := hx1 rfl
  have hnil : numsR s = ([], none) := hd
  refine KGO ?_
  refine Yc (ι := Unit) (fun i => [(0, .pointer (some ⟨b, 0, none⟩)), (5, .int .i64 (n : Nat)), (6, .slice none 0 0), (7, .int .i64 0)])
   (fun i wr => wr = w1) (fun i => 0) () FR rfl ?_
  rintro ⟨⟩ g wr rfl
  refine GW ?_
  have q2 := Yb wr n_
  refine KGO ?_
  rw [hnil]
  exact ⟨_, rfl, World.ownsRow_nil _ _ _ _, h1, k1⟩
 | some r =>
  obtain ⟨rfl, rfl⟩ := hx2 r rfl
  have hle : r.length ≤ stLen s := hle
  have hb47 : n ≤ 8796093022208 := OM
  have hd : numsR s = (match numsG n (some r) with | (_, none) => ([], none) | p => p) := by rw [hd]; dsimp only; rw [if_neg hbig]
  refine KGO ?_
  refine Yc (ι := Nat × List Nat × St × Option Addr × Nat) (fun i => [(0, .pointer (some ⟨b, 0, none⟩)), (1, .func (.func 51) #[.pointer (some ⟨b, 0, none⟩)] #[]), (5, .int .i64 (n : Nat)), (6, .slice i.2.2.2.1 i.2.1.length i.2.2.2.2), (7, .int .i64 (i.1 : Nat))])
   (fun i wr => Kp w wr (one_ b) ∧ VarK wr b 139 (rdC i.2.2.1) ∧ OwnI wr w.heap.size (.slice i.2.2.2.1 i.2.1.length i.2.2.2.2) (iL i.2.1) ∧ i.1 ≤ n ∧ i.2.1.length = i.1 ∧ stLen i.2.2.1 ≤ stLen s ∧
    ((∃ q, i.2.2.1 = some q ∧ numsG n (some r) = (i.2.1 ++ (numsG (n - i.1) (some q)).1, (numsG (n - i.1) (some q)).2)) ∨ (i.2.2.1 = none ∧ (numsG n (some r)).2 = none))) (fun i => n - i.1) (0, [], some r, none, 0) FR
   ⟨k1, h1, World.ownsRow_nil _ _ _ _, OM, rfl, hle, .inl ⟨r, rfl, by simp⟩⟩ ?_
  rintro ⟨i, outs, t, a, c⟩ g wr ⟨hK, hv, ho, hi, hol, hst, hor⟩
  dsimp only at hv ho hi hol hst hor ⊢
  refine GW ?_
  have q2 := Yb wr n_
  rcases hor with ⟨q, rfl, hg⟩ | ⟨rfl, hg⟩
  ·have at_ : At wr b 0 [.string (str q), .bool false] := hv.at
   by_cases hlt2 : i < n
   ·refine KGO ?_
    refine Ya (Tryz.call51 _ _) (zcx (some q) hv (fun u e => by injection e with e; subst e; have hst : q.length ≤ stLen s := hst; omega)) ?_
    rintro e w3 ⟨rfl, h3, k3⟩
    refine RT ?_
    have o3 : OwnI w3 w.heap.size (.slice a outs.length c) (iL outs) := own_keep ho k3 (fun g hg e => by
     rcases ho.2 with ⟨hn, _⟩ | ⟨g', cap, cur, he, hB, _⟩
     ·rw [hn] at hg; cases hg
     rw [he] at hg; have e1 : g' = g := by simpa [Value.ownBlock] using hg
     have e : g = b := e
     omega)
    have K3 := hK.trans' k3
    have hqlt := zaW (some q)
    have hstq := zdn (some q)
    have hgq : numsG (n - i) (some q) = match numR (some q) with | (_, none) => ([], none) | (m, some r) => (match numsG (n - (i + 1)) (some r) with | (l, s) => (m :: l, s)) := by
     obtain ⟨k, hk⟩ : ∃ k, n - i = k + 1 := ⟨n - i - 1, OM⟩
     rw [hk, show n - (i + 1) = k by omega]; rfl
    obtain ⟨m, t2, hm⟩ : ∃ m t2, numR (some q) = (m, t2) := ⟨_, _, rfl⟩
    rw [hm] at hgq hqlt h3 hstq
    rw [hm]
    dsimp only at hgq hqlt h3 hstq ⊢
    refine Ye (bs1I _ _) ?_
    have k4 : Kp w3 (w3.alloc (.cells (List.toArray (inC (m : Int))) 3)) n_ := (Yb _ _).alloc _
    have h4 := zdr w3 3 (inC (m : Int))
    have o4 := own_keep0 o3 k4
    have v4 := h3.keep0 k4
    generalize w3.alloc (.cells (List.toArray (inC (m : Int))) 3) = w4 at *
    generalize w3.heap.size = g4 at *
    refine KGO ?_
    have K4 := K3.trans0 k4
    have hol2 := zbl outs
    rw [← hol2]
    rw [← hol2] at o4
    refine tyI.app1 (m : Int) o4 K4.size h4 OM OM fun v5 w5 o5 k5 => ?_
    have hap : iL outs ++ [(m : Int)] = iL (outs ++ [m]) := by simp [iL]
    rw [hap] at o5
    obtain ⟨a5, c5, rfl⟩ := zab o5
    have K5 := zav o4 k5 K4 (yag _)
    have v5 : VarK w5 b 139 (rdC t2) := v4.keep k5 (fun e => by
     rcases o4.2 with ⟨hn, _⟩ | ⟨g', cap, cur, he, hB, _⟩
     ·have e : Value.ownBlock (.slice a (iL outs).length c) = some b := e
      rw [hn] at e; cases e
     have e : Value.ownBlock (.slice a (iL outs).length c) = some b := e
     rw [he] at e; have e1 : g' = b := by simpa [Value.ownBlock] using e
     omega)
    refine KGO ?_
    refine ⟨(i + 1, outs ++ [m], t2, a5, c5), ⟨rfl, rfl, rfl, congrArg (fun n => Value.slice a5 n c5) (zbl _), VS, trivial⟩, ⟨K5, v5, ?_, OM, by simp [hol], ?_, ?_⟩, DO⟩
    ·rw [zbl] at o5; exact o5
    ·exact yaw hstq hst
    dsimp only
    cases t2 with
    | none => exact .inr ⟨rfl, by rw [hg, hgq]⟩
    | some q2 => exact .inl ⟨q2, rfl, by rw [hg, hgq]; simp⟩
   refine KGO ?_
   have hin : i = n := OM
   subst hin
   rw [ycb] at hg
   have hg : numsG i (some r) = (outs, some q) := by rw [hg]; simp [numsG]
   rw [hd, hg]
   exact ⟨_, rfl, ho, hv, hK⟩
  have at_ : At wr b 0 [.string ⟨#[]⟩, .bool true] := hv.at
  have hnil : numsR s = ([], none) := by
   rw [hd]
   cases hq : numsG n (some r) with
   | mk l st => rw [hq] at hg; dsimp only at hg; subst hg; rfl
  by_cases hlt2 : i < n
  ·refine KGO ?_
   rw [hnil]
   exact ⟨_, rfl, World.ownsRow_nil _ _ _ _, hv, hK⟩
  refine KGO ?_
  rw [hnil]
  exact ⟨_, rfl, World.ownsRow_nil _ _ _ _, hv, hK⟩
theorem zkt (s : St) (h : VarK w b 139 (rdC s)) (hs : stLen s ≤ 140737488355328 / 16) :
  Calls Tryz.prog 55 #[.pointer (some ⟨b, 0, none⟩)] w fun e w' =>
   ∃ v, e = .returned v ∧ OwnI w' w.heap.size v (iL (numsR s).1) ∧ VarK w' b 139 (rdC (numsR s).2) ∧ Kp w w' (one_ b) := by
 refine zaa (args := [.pointer (some ⟨b, 0, none⟩)]) Tryz.func55 rfl NL ?_; refine GW ?_
 refine Ya (Tryz.call118 _ _) (zsG s h hs) ?_
 rintro e w1 ⟨v, rfl, h1, h2, h3⟩
 obtain ⟨a, c, rfl⟩ := zab h1
 refine RT ?_
 exact ⟨_, rfl, h1, h2, h3⟩
end
end Go.Proofs.YtennokckmjcefaaGreatDoor
