/- Helper text of this claim: Ch1: lemmas and contracts that the proved statement rests on; no conditions of its own. -/
import Derived.Test.YtmipmlcolaaonaaDoorGws
import Derived.Test.YtmipmlcolaaonaaDoorProg
import Derived.Test.YtmipmlcolaaonaaDoorWcz
-- alias Tryd
namespace Go.Proofs.YtmipmlcolaaonaaDoor
open Go.RowKit Go.Pw Go.Vc Go.Cs Go.Lib
set_option linter.unusedVariables false
set_option maxRecDepth 100000
theorem hmix : Tryd.prog.follows .mixedOrders = true := by kernel_rfl
theorem build_b1 (x : Int) (w : World) : (Instr.buildSlice 43 1 [(0, .int .u8 x)].toArray).run Tryd.prog w = .ok (.slice (some ⟨w.heap.size, 0, none⟩) 1 1) (w.alloc (.cells #[.int .u8 x] 5)) := by
  simp [Instr.buildSlice, go_sem, Tryd.runUnderlying43]
theorem build_b2 (x y : Int) (w : World) : (Instr.buildSlice 43 2 [(0, .int .u8 x), (1, .int .u8 y)].toArray).run Tryd.prog w = .ok (.slice (some ⟨w.heap.size, 0, none⟩) 2 2) (w.alloc (.cells #[.int .u8 x, .int .u8 y] 5)) := by
  simp [Instr.buildSlice, go_sem, Tryd.runUnderlying43]
theorem build_b3 (x y z : Int) (w : World) : (Instr.buildSlice 43 3 [(0, .int .u8 x), (1, .int .u8 y), (2, .int .u8 z)].toArray).run Tryd.prog w = .ok (.slice (some ⟨w.heap.size, 0, none⟩) 3 3) (w.alloc (.cells #[.int .u8 x, .int .u8 y, .int .u8 z] 5)) := by
  simp [Instr.buildSlice, go_sem, Tryd.runUnderlying43]
theorem build_b4 (x y z u : Int) (w : World) : (Instr.buildSlice 43 4 [(0, .int .u8 x), (1, .int .u8 y), (2, .int .u8 z), (3, .int .u8 u)].toArray).run Tryd.prog w = .ok (.slice (some ⟨w.heap.size, 0, none⟩) 4 4) (w.alloc (.cells #[.int .u8 x, .int .u8 y, .int .u8 z, .int .u8 u] 5)) := by
  simp [Instr.buildSlice, go_sem, Tryd.runUnderlying43]
theorem build_i1 (x : Int) (w : World) : (Instr.buildSlice 26 1 [(0, .int .i64 x)].toArray).run Tryd.prog w = .ok (.slice (some ⟨w.heap.size, 0, none⟩) 1 1) (w.alloc (.cells #[.int .i64 x] 3)) := by
  simp [Instr.buildSlice, go_sem, Tryd.runUnderlying26]
section
variable {w : World}
theorem ref_sign (n : Int) : Calls Tryd.prog 63 #[.int .i64 n] w fun e w' => e = .returned (.bool (isSign n)) ∧ w = w' := by
  unfold isSign
  refine calls_of_vc (args := [.int .i64 n]) Tryd.func63 rfl (Nat.le_of_ble_eq_true rfl) ?_; refine Sat.go hmix ?_; conv => whnf
  by_cases h0 : 0 ≤ n
  · by_cases h1 : n ≤ 1114111
    · by_cases h2 : n < 55296
      · refine GO ?_
        exact ⟨by simp [h0, h1, h2], rfl⟩
      · refine GO ?_
        exact ⟨by simp [h0, h1, h2], rfl⟩
    · refine GO ?_
      exact ⟨by simp [h0, h1], rfl⟩
  · refine GO ?_
    exact ⟨by simp [h0], rfl⟩
theorem own_lit1 (w : World) (cs : Array Value) (e : TypeId) (n : Nat) (hn : cs.size = n) (hm : n ≤ 9223372036854775807) : (w.alloc (.cells cs e)).ownsRow w.heap.size e 1 (.slice (some ⟨w.heap.size, 0, none⟩) n n) n cs.toList :=
  World.ownsRow_lit w cs n (Nat.le_refl _) (by have : maxLen = 9223372036854775807 := by rfl
                                               omega) (by omega)
/-- A row of bytes, the call's own. -/
def Bytes (w : World) (B : Nat) (v : Value) (l : List UInt8) : Prop := w.ownsRow B 5 1 v l.length (byteCells l)
def Intsr (w : World) (B : Nat) (v : Value) (l : List Int) : Prop := w.ownsRow B 3 1 v l.length (l.map (Value.int .i64))
theorem enc_cells (n : Int) : byteCells (encodeRune n) = runeCells n := byteCells_encodeRune n
theorem laid_out {n : Int} {k : Nat} {cs : Array Value} (hk : cs.size = k) (h4 : k ≤ 4) (he : runeCells n = cs.toList) :
    ∃ v, Value.slice (some ⟨w.heap.size, 0, none⟩) k k = v ∧ Bytes (w.alloc (.cells cs 5)) w.heap.size v (encodeRune n) ∧ Keeps w (w.alloc (.cells cs 5)) none_ := by
  refine ⟨_, rfl, ?_, (Keeps.refl _ _).alloc _⟩
  unfold Bytes
  rw [enc_cells, ← runeCells_length, he]
  have := own_lit1 w cs 5 k hk (by omega)
  rw [show cs.toList.length = k by simpa using hk]
  exact this
theorem ref_laid (n : Int) (hs : isSign n = true) : Calls Tryd.prog 59 #[.int .i64 n] w fun e w' => ∃ v, e = .returned v ∧ Bytes w' w.heap.size v (encodeRune n) ∧ Keeps w w' none_ := by
  rw [isSign_iff] at hs
  obtain ⟨h0, h1, h2⟩ := hs
  refine calls_of_vc (args := [.int .i64 n]) Tryd.func59 rfl (Nat.le_of_ble_eq_true rfl) ?_; refine Sat.go hmix ?_; conv => whnf
  by_cases c1 : n < 128
  · refine GO ?_
    refine RunV.of (build_b1 _ _) ?_
    (first | refine Then.go hmix ?_ | refine Sat.go hmix ?_ | refine ResK.go ?_ | skip); conv => whnf
    rw [wrap_u8 n (by omega)]
    obtain ⟨v, e, h⟩ := laid_out (w := w) (n := n) (k := 1) (cs := #[.int .u8 n]) rfl (by omega) (by unfold runeCells; rw [encodeRuneZ_one (by omega) (by omega)]; rfl)
    exact ⟨v, by rw [← e], h⟩
  have q (d m : Int) (hd : d = 64 ∨ d = 4096 ∨ d = 262144) (hm0 : 0 ≤ m) (hm : m ≤ 1114111) : IntKind.i64.wrap (m.tdiv d) = m / d := by
    rw [Int.tdiv_eq_ediv_of_nonneg hm0]
    rcases hd with rfl | rfl | rfl <;> exact wrap_i64 _ (by omega)
  have r (m : Int) (hm0 : 0 ≤ m) (hm : m ≤ 1114111) : m.tmod 64 = m % 64 := Int.tmod_eq_emod_of_nonneg hm0
  by_cases c2 : n < 2048
  · refine GO ?_
    rw [q 64 n (by omega) (by omega) (by omega)]
    refine GO ?_
    rw [r n (by omega) (by omega)]
    refine GO ?_
    refine RunV.of (build_b2 _ _ _) ?_
    (first | refine Then.go hmix ?_ | refine Sat.go hmix ?_ | refine ResK.go ?_ | skip); conv => whnf
    rw [wrap_u8 (192 + n / 64) (by omega), wrap_u8 (128 + n % 64) (by omega)]
    obtain ⟨v, e, h⟩ := laid_out (w := w) (n := n) (k := 2) (cs := #[.int .u8 (192 + n / 64), .int .u8 (128 + n % 64)]) rfl (by omega) (by unfold runeCells; rw [encodeRuneZ_two (by omega) (by omega)]; rfl)
    exact ⟨v, by rw [← e], h⟩
  by_cases c3 : n < 65536
  · refine GO ?_
    rw [q 4096 n (by omega) (by omega) (by omega)]
    refine GO ?_
    rw [q 64 n (by omega) (by omega) (by omega), r (n / 64) (by omega) (by omega)]
    refine GO ?_
    rw [r n (by omega) (by omega)]
    refine GO ?_
    refine RunV.of (build_b3 _ _ _ _) ?_
    (first | refine Then.go hmix ?_ | refine Sat.go hmix ?_ | refine ResK.go ?_ | skip); conv => whnf
    rw [wrap_u8 (224 + n / 4096) (by omega), wrap_u8 (128 + n / 64 % 64) (by omega), wrap_u8 (128 + n % 64) (by omega)]
    obtain ⟨v, e, h⟩ := laid_out (w := w) (n := n) (k := 3) (cs := #[.int .u8 (224 + n / 4096), .int .u8 (128 + n / 64 % 64), .int .u8 (128 + n % 64)]) rfl (by omega) (by unfold runeCells; rw [encodeRuneZ_three (by omega)]; rfl)
    exact ⟨v, by rw [← e], h⟩
  · refine GO ?_
    rw [q 262144 n (by omega) (by omega) (by omega)]
    refine GO ?_
    rw [q 4096 n (by omega) (by omega) (by omega), r (n / 4096) (by omega) (by omega)]
    refine GO ?_
    rw [q 64 n (by omega) (by omega) (by omega), r (n / 64) (by omega) (by omega)]
    refine GO ?_
    rw [r n (by omega) (by omega)]
    refine GO ?_
    refine RunV.of (build_b4 _ _ _ _ _) ?_
    (first | refine Then.go hmix ?_ | refine Sat.go hmix ?_ | refine ResK.go ?_ | skip); conv => whnf
    rw [wrap_u8 (240 + n / 262144) (by omega), wrap_u8 (128 + n / 4096 % 64) (by omega), wrap_u8 (128 + n / 64 % 64) (by omega), wrap_u8 (128 + n % 64) (by omega)]
    obtain ⟨v, e, h⟩ := laid_out (w := w) (n := n) (k := 4) (cs := #[.int .u8 (240 + n / 262144), .int .u8 (128 + n / 4096 % 64), .int .u8 (128 + n / 64 % 64), .int .u8 (128 + n % 64)]) rfl (by omega) (by unfold runeCells; rw [encodeRuneZ_four (by omega) (by omega)]; rfl)
    exact ⟨v, by rw [← e], h⟩
theorem ref_str {B : Nat} {v : Value} {l : List UInt8} (h : Bytes w B v l) : ∃ a cap, v = .slice a l.length cap := own_shape h
theorem enc_bad : encodeRune 65533 = [239, 191, 189] := by decide
/-- Every number: the bytes of its form, or of U+FFFD. -/
theorem enc_off (n : Int) (h : isSign n = false) : encodeRune n = [239, 191, 189] := by
  have : n < 0 ∨ (55296 ≤ n ∧ n ≤ 57343) ∨ 1114111 < n := by
    have h' : ¬ (isSign n = true) := by rw [h]; decide
    rw [isSign_iff] at h'; omega
  unfold encodeRune; rw [encodeRuneZ_bad this]; rfl
theorem ref_Rune (n : Int) : Calls Tryd.prog 27 #[.int .i64 n] w fun e w' => e = .returned (.string (str (encodeRune n))) ∧ Keeps w w' none_ := by
  refine calls_of_vc (args := [.int .i64 n]) Tryd.func27 rfl (Nat.le_of_ble_eq_true rfl) ?_; refine Sat.go hmix ?_; conv => whnf
  refine CallS.of (Tryd.call63 _ _) (ref_sign n) ?_
  rintro e w1 ⟨rfl, rfl⟩
  refine ⟨_, rfl, ?_⟩; (first | refine Then.go hmix ?_ | refine Sat.go hmix ?_ | refine ResK.go ?_ | skip); conv => whnf
  cases hs : isSign n
  · refine GO ?_
    refine CallS.of (Tryd.call59 _ _) (ref_laid 65533 (by decide)) ?_
    rintro e w1 ⟨v, rfl, h1, k1⟩
    obtain ⟨a, cap, rfl⟩ := ref_str h1
    refine ⟨_, rfl, ?_⟩; (first | refine Then.go hmix ?_ | refine Sat.go hmix ?_ | refine ResK.go ?_ | skip); conv => whnf
    refine RunV.str (l := encodeRune 65533) Tryd.underlying43 Tryd.underlying5 Tryd.underlying9 h1 ?_
    (first | refine Then.go hmix ?_ | refine Sat.go hmix ?_ | refine ResK.go ?_ | skip); conv => whnf
    refine ⟨?_, k1⟩
    rw [enc_off n hs, enc_bad]; rfl
  · refine GO ?_
    refine CallS.of (Tryd.call59 _ _) (ref_laid n hs) ?_
    rintro e w1 ⟨v, rfl, h1, k1⟩
    obtain ⟨a, cap, rfl⟩ := ref_str h1
    refine ⟨_, rfl, ?_⟩; (first | refine Then.go hmix ?_ | refine Sat.go hmix ?_ | refine ResK.go ?_ | skip); conv => whnf
    refine RunV.str (l := encodeRune n) Tryd.underlying43 Tryd.underlying5 Tryd.underlying9 h1 ?_
    (first | refine Then.go hmix ?_ | refine Sat.go hmix ?_ | refine ResK.go ?_ | skip); conv => whnf
    exact ⟨rfl, k1⟩
end
end Go.Proofs.YtmipmlcolaaonaaDoor
