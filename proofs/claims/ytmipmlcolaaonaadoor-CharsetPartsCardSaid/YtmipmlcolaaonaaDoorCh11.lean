/- Helper text of this claim: Ch11: lemmas and contracts that the proved statement rests on; no conditions of its own. -/
-- alias Tryd
import Derived.Test.YtmipmlcolaaonaaDoorCh10
namespace Go.Proofs.YtmipmlcolaaonaaDoor
open Go.RowKit Go.Pw Go.Vc Go.Cs Go.Lib
set_option linter.unusedVariables false
set_option maxRecDepth 100000
section
variable {w : World}
theorem dec0 (w : World) (hT : Tabs w) : Calls Tryd.prog 20 #[.string ⟨#[87, 105, 110, 100, 111, 119, 115, 45, 49, 50, 53, 50]⟩, .string ⟨#[97, 128, 129, 228]⟩] w fun e w' => e = .returned (.tuple #[.string ⟨#[97, 226, 130, 172, 194, 129, 195, 164]⟩, .bool true]) ∧ Keeps w w' none_ := by
  have h := cs_Decode (w := w) ⟨#[87, 105, 110, 100, 111, 119, 115, 45, 49, 50, 53, 50]⟩ ⟨#[97, 128, 129, 228]⟩ hT (by decide) (by decide)
  rw [show decodeS (L ⟨#[87, 105, 110, 100, 111, 119, 115, 45, 49, 50, 53, 50]⟩) (L ⟨#[97, 128, 129, 228]⟩) = [97, 226, 130, 172, 194, 129, 195, 164] by decide +kernel, show decide (0 < Cs.kind (L ⟨#[87, 105, 110, 100, 111, 119, 115, 45, 49, 50, 53, 50]⟩)) = true by decide +kernel] at h
  exact h
theorem dec1 (w : World) (hT : Tabs w) : Calls Tryd.prog 20 #[.string ⟨#[120]⟩, .string ⟨#[128]⟩] w fun e w' => e = .returned (.tuple #[.string ⟨#[226, 130, 172]⟩, .bool false]) ∧ Keeps w w' none_ := by
  have h := cs_Decode (w := w) ⟨#[120]⟩ ⟨#[128]⟩ hT (by decide) (by decide)
  rw [show decodeS (L ⟨#[120]⟩) (L ⟨#[128]⟩) = [226, 130, 172] by decide +kernel, show decide (0 < Cs.kind (L ⟨#[120]⟩)) = false by decide +kernel] at h
  exact h
theorem dec2 (w : World) (hT : Tabs w) : Calls Tryd.prog 20 #[.string ⟨#[117, 115, 45, 97, 115, 99, 105, 105]⟩, .string ⟨#[97, 128]⟩] w fun e w' => e = .returned (.tuple #[.string ⟨#[97, 239, 191, 189]⟩, .bool true]) ∧ Keeps w w' none_ := by
  have h := cs_Decode (w := w) ⟨#[117, 115, 45, 97, 115, 99, 105, 105]⟩ ⟨#[97, 128]⟩ hT (by decide) (by decide)
  rw [show decodeS (L ⟨#[117, 115, 45, 97, 115, 99, 105, 105]⟩) (L ⟨#[97, 128]⟩) = [97, 239, 191, 189] by decide +kernel, show decide (0 < Cs.kind (L ⟨#[117, 115, 45, 97, 115, 99, 105, 105]⟩)) = true by decide +kernel] at h
  exact h
theorem dec3 (w : World) (hT : Tabs w) : Calls Tryd.prog 20 #[.string ⟨#[76, 65, 84, 73, 78, 49]⟩, .string ⟨#[128, 228]⟩] w fun e w' => e = .returned (.tuple #[.string ⟨#[194, 128, 195, 164]⟩, .bool true]) ∧ Keeps w w' none_ := by
  have h := cs_Decode (w := w) ⟨#[76, 65, 84, 73, 78, 49]⟩ ⟨#[128, 228]⟩ hT (by decide) (by decide)
  rw [show decodeS (L ⟨#[76, 65, 84, 73, 78, 49]⟩) (L ⟨#[128, 228]⟩) = [194, 128, 195, 164] by decide +kernel, show decide (0 < Cs.kind (L ⟨#[76, 65, 84, 73, 78, 49]⟩)) = true by decide +kernel] at h
  exact h
theorem dec4 (w : World) (hT : Tabs w) : Calls Tryd.prog 20 #[.string ⟨#[117, 116, 102, 45, 56]⟩, .string ⟨#[195, 164, 255]⟩] w fun e w' => e = .returned (.tuple #[.string ⟨#[195, 164, 239, 191, 189]⟩, .bool true]) ∧ Keeps w w' none_ := by
  have h := cs_Decode (w := w) ⟨#[117, 116, 102, 45, 56]⟩ ⟨#[195, 164, 255]⟩ hT (by decide) (by decide)
  rw [show decodeS (L ⟨#[117, 116, 102, 45, 56]⟩) (L ⟨#[195, 164, 255]⟩) = [195, 164, 239, 191, 189] by decide +kernel, show decide (0 < Cs.kind (L ⟨#[117, 116, 102, 45, 56]⟩)) = true by decide +kernel] at h
  exact h
theorem runs0 (w : World) (hT : Tabs w) : Calls Tryd.prog 22 #[.string ⟨#[97, 195, 164, 226, 130, 172, 240, 159, 152, 128, 237, 160, 128]⟩] w fun e w' => ∃ v, e = .returned v ∧ Rns w' w.heap.size v [97, 228, 8364, 128512, 65533, 65533, 65533] ∧ Keeps w w' none_ := by
  have h := cs_Runes (w := w) ⟨#[97, 195, 164, 226, 130, 172, 240, 159, 152, 128, 237, 160, 128]⟩ hT (by decide)
  rw [show runes (L ⟨#[97, 195, 164, 226, 130, 172, 240, 159, 152, 128, 237, 160, 128]⟩) = [97, 228, 8364, 128512, 65533, 65533, 65533] by decide +kernel] at h
  exact h
theorem val0 (w : World) (hT : Tabs w) : Calls Tryd.prog 24 #[.string ⟨#[195, 164]⟩] w fun e w' => e = .returned (.bool true) ∧ Keeps w w' none_ := by
  have h := cs_Valid (w := w) ⟨#[195, 164]⟩ hT (by decide)
  rw [show validD (L ⟨#[195, 164]⟩) = true by decide +kernel] at h
  exact h
theorem val1 (w : World) (hT : Tabs w) : Calls Tryd.prog 24 #[.string ⟨#[192, 128]⟩] w fun e w' => e = .returned (.bool false) ∧ Keeps w w' none_ := by
  have h := cs_Valid (w := w) ⟨#[192, 128]⟩ hT (by decide)
  rw [show validD (L ⟨#[192, 128]⟩) = false by decide +kernel] at h
  exact h
theorem val2 (w : World) (hT : Tabs w) : Calls Tryd.prog 24 #[.string ⟨#[228]⟩] w fun e w' => e = .returned (.bool false) ∧ Keeps w w' none_ := by
  have h := cs_Valid (w := w) ⟨#[228]⟩ hT (by decide)
  rw [show validD (L ⟨#[228]⟩) = false by decide +kernel] at h
  exact h
theorem rn0 (w : World) : Calls Tryd.prog 26 #[.int .i64 8364] w fun e w' => e = .returned (.string ⟨#[226, 130, 172]⟩) ∧ w = w' := by
  have h := cs_Rune (w := w) 8364 (by omega)
  rw [show encodeRune 8364 = [226, 130, 172] by decide +kernel] at h
  exact h
theorem rn1 (w : World) : Calls Tryd.prog 26 #[.int .i64 55296] w fun e w' => e = .returned (.string ⟨#[239, 191, 189]⟩) ∧ w = w' := by
  have h := cs_Rune (w := w) 55296 (by omega)
  rw [show encodeRune 55296 = [239, 191, 189] by decide +kernel] at h
  exact h
theorem rn2 (w : World) : Calls Tryd.prog 26 #[.int .i64 (-1)] w fun e w' => e = .returned (.string ⟨#[239, 191, 189]⟩) ∧ w = w' := by
  have h := cs_Rune (w := w) (-1) (by omega)
  rw [show encodeRune (-1) = [239, 191, 189] by decide +kernel] at h
  exact h
theorem kn0 (w : World) : Calls Tryd.prog 30 #[.string ⟨#[65, 83, 67, 73, 73]⟩] w fun e w' => e = .returned (.bool true) ∧ Keeps w w' none_ := by
  have h := cs_Known (w := w) ⟨#[65, 83, 67, 73, 73]⟩ (by decide)
  rw [show decide (0 < Cs.kind (L ⟨#[65, 83, 67, 73, 73]⟩)) = true by decide +kernel] at h
  exact h
theorem kn1 (w : World) : Calls Tryd.prog 30 #[.string ⟨#[107, 111, 105, 56, 45, 114]⟩] w fun e w' => e = .returned (.bool false) ∧ Keeps w w' none_ := by
  have h := cs_Known (w := w) ⟨#[107, 111, 105, 56, 45, 114]⟩ (by decide)
  rw [show decide (0 < Cs.kind (L ⟨#[107, 111, 105, 56, 45, 114]⟩)) = false by decide +kernel] at h
  exact h
set_option maxHeartbeats 4000000 in
theorem law04_small (hT : Tabs w) : Calls Tryd.prog 18 #[] w fun e w' => e = .returned (.bool true) ∧ Keeps w w' none_ := by
  refine calls_of_vc (args := []) Tryd.func18 rfl (Nat.le_of_ble_eq_true rfl) ?_; refine Sat.go hmix ?_; conv => whnf
  refine CallS.of (Tryd.call20 _ _) (dec0 w hT) ?_
  rintro e w0 ⟨rfl, k0⟩
  refine ⟨_, rfl, ?_⟩; (first | refine Then.go hmix ?_ | refine Sat.go hmix ?_ | refine ResK.go ?_ | skip); conv => whnf
  refine CallS.of (Tryd.call20 _ _) (dec1 w0 (hT.keep k0)) ?_
  rintro e w1 ⟨rfl, k1⟩
  refine ⟨_, rfl, ?_⟩; (first | refine Then.go hmix ?_ | refine Sat.go hmix ?_ | refine ResK.go ?_ | skip); conv => whnf
  have K1 := k0.trans0 k1
  refine CallS.of (Tryd.call20 _ _) (dec2 w1 (hT.keep K1)) ?_
  rintro e w2 ⟨rfl, k2⟩
  refine ⟨_, rfl, ?_⟩; (first | refine Then.go hmix ?_ | refine Sat.go hmix ?_ | refine ResK.go ?_ | skip); conv => whnf
  have K2 := K1.trans0 k2
  refine CallS.of (Tryd.call20 _ _) (dec3 w2 (hT.keep K2)) ?_
  rintro e w3 ⟨rfl, k3⟩
  refine ⟨_, rfl, ?_⟩; (first | refine Then.go hmix ?_ | refine Sat.go hmix ?_ | refine ResK.go ?_ | skip); conv => whnf
  have K3 := K2.trans0 k3
  refine CallS.of (Tryd.call20 _ _) (dec4 w3 (hT.keep K3)) ?_
  rintro e w4 ⟨rfl, k4⟩
  refine ⟨_, rfl, ?_⟩; (first | refine Then.go hmix ?_ | refine Sat.go hmix ?_ | refine ResK.go ?_ | skip); conv => whnf
  have K4 := K3.trans0 k4
  refine CallS.of (Tryd.call22 _ _) (runs0 w4 (hT.keep K4)) ?_
  rintro e w5 ⟨v, rfl, h5, k5⟩
  have K5 := K4.trans0 k5
  obtain ⟨a, cap, rfl⟩ : ∃ a cap, v = .slice a 7 cap := h5.shape
  obtain ⟨g, rfl, _, hg, c0⟩ := rns_cell h5 (i := 0) (by decide)
  have cc (i : Nat) (hi : i < 7) : w5.cell? ⟨g, 0 + i, none⟩ = some (.int .i64 (([97, 228, 8364, 128512, 65533, 65533, 65533].getD i 0 : Nat) : Int)) := by
    obtain ⟨g', e, _, _, c⟩ := rns_cell h5 (i := i) hi
    injection e with e
    injection e with e
    subst e
    exact c
  refine ⟨_, rfl, ?_⟩; (first | refine Then.go hmix ?_ | refine Sat.go hmix ?_ | refine ResK.go ?_ | skip); conv => whnf
  have c1 := cc 1 (by omega)
  have c2 := cc 2 (by omega)
  have c3 := cc 3 (by omega)
  have c4 := cc 4 (by omega)
  have c6 := cc 6 (by omega)
  clear cc
  simp only [List.getD_cons_zero, List.getD_cons_succ] at c0 c1 c2 c3 c4 c6
  (repeat ((first | refine Br.dec_yes rfl ?_ | refine Num.i64 (by omega) (by omega) ?_ | refine Num.i32 (by omega) (by omega) ?_ | refine Num.u8 (by omega) (by omega) ?_ | refine Br.tt ?_ | refine Br.ff ?_ | refine Br.not_yes ?_ | refine Br.dec_yes (by omega) ?_ | refine Br.dec_no (by omega) ?_ | refine Br.beq_yes (by omega) ?_ | refine Br.beq_no (by omega) ?_ | refine Br.bne_yes (by omega) ?_ | refine Br.bne_no (by omega) ?_ | refine Draw.text (by decide +kernel) ?_ | refine Idx.lit (j := 0) rfl (by omega) ?_ | refine Idx.lit (j := 1) rfl (by omega) ?_ | refine Idx.lit (j := 2) rfl (by omega) ?_ | refine Idx.lit (j := 3) rfl (by omega) ?_ | refine Idx.lit (j := 4) rfl (by omega) ?_ | refine Idx.lit (j := 5) rfl (by omega) ?_ | refine Idx.lit (j := 6) rfl (by omega) ?_ | refine Idx.lit (j := 7) rfl (by omega) ?_ | refine Idx.nat (by omega) ?_ | refine Idx.int (by omega) (by omega) ?_ | refine Cut.to (by omega) ?_ | refine Cut.from (by omega) (by omega) ?_ | refine Cut.both (by omega) (by omega) ?_ | refine Br.dec_yes (by with_reducible assumption) ?_ | refine Br.dec_no (by with_reducible assumption) ?_ | refine Br.yes (by with_reducible assumption) ?_ | refine Br.no (by with_reducible assumption) ?_ | refine Load.one (by rfl) (by with_reducible assumption) ?_ | refine (?_ : Sat _ _ _ _ _ _ _) | refine (?_ : Then _ _ _ _ _ _ _ _)); (first | refine Then.go hmix ?_ | refine Sat.go hmix ?_ | skip); conv => whnf))
  refine CallS.of (Tryd.call24 _ _) (val0 w5 (hT.keep K5)) ?_
  rintro e w6 ⟨rfl, k6⟩
  refine ⟨_, rfl, ?_⟩; (first | refine Then.go hmix ?_ | refine Sat.go hmix ?_ | refine ResK.go ?_ | skip); conv => whnf
  have K6 := K5.trans0 k6
  (repeat ((first | refine Br.dec_yes rfl ?_ | refine Num.i64 (by omega) (by omega) ?_ | refine Num.i32 (by omega) (by omega) ?_ | refine Num.u8 (by omega) (by omega) ?_ | refine Br.tt ?_ | refine Br.ff ?_ | refine Br.not_yes ?_ | refine Br.dec_yes (by omega) ?_ | refine Br.dec_no (by omega) ?_ | refine Br.beq_yes (by omega) ?_ | refine Br.beq_no (by omega) ?_ | refine Br.bne_yes (by omega) ?_ | refine Br.bne_no (by omega) ?_ | refine Draw.text (by decide +kernel) ?_ | refine Idx.lit (j := 0) rfl (by omega) ?_ | refine Idx.lit (j := 1) rfl (by omega) ?_ | refine Idx.lit (j := 2) rfl (by omega) ?_ | refine Idx.lit (j := 3) rfl (by omega) ?_ | refine Idx.lit (j := 4) rfl (by omega) ?_ | refine Idx.lit (j := 5) rfl (by omega) ?_ | refine Idx.lit (j := 6) rfl (by omega) ?_ | refine Idx.lit (j := 7) rfl (by omega) ?_ | refine Idx.nat (by omega) ?_ | refine Idx.int (by omega) (by omega) ?_ | refine Cut.to (by omega) ?_ | refine Cut.from (by omega) (by omega) ?_ | refine Cut.both (by omega) (by omega) ?_ | refine Br.dec_yes (by with_reducible assumption) ?_ | refine Br.dec_no (by with_reducible assumption) ?_ | refine Br.yes (by with_reducible assumption) ?_ | refine Br.no (by with_reducible assumption) ?_ | refine Load.one (by rfl) (by with_reducible assumption) ?_ | refine (?_ : Sat _ _ _ _ _ _ _) | refine (?_ : Then _ _ _ _ _ _ _ _)); (first | refine Then.go hmix ?_ | refine Sat.go hmix ?_ | skip); conv => whnf))
  refine CallS.of (Tryd.call24 _ _) (val1 w6 (hT.keep K6)) ?_
  rintro e w7 ⟨rfl, k7⟩
  refine ⟨_, rfl, ?_⟩; (first | refine Then.go hmix ?_ | refine Sat.go hmix ?_ | refine ResK.go ?_ | skip); conv => whnf
  have K7 := K6.trans0 k7
  (repeat ((first | refine Br.dec_yes rfl ?_ | refine Num.i64 (by omega) (by omega) ?_ | refine Num.i32 (by omega) (by omega) ?_ | refine Num.u8 (by omega) (by omega) ?_ | refine Br.tt ?_ | refine Br.ff ?_ | refine Br.not_yes ?_ | refine Br.dec_yes (by omega) ?_ | refine Br.dec_no (by omega) ?_ | refine Br.beq_yes (by omega) ?_ | refine Br.beq_no (by omega) ?_ | refine Br.bne_yes (by omega) ?_ | refine Br.bne_no (by omega) ?_ | refine Draw.text (by decide +kernel) ?_ | refine Idx.lit (j := 0) rfl (by omega) ?_ | refine Idx.lit (j := 1) rfl (by omega) ?_ | refine Idx.lit (j := 2) rfl (by omega) ?_ | refine Idx.lit (j := 3) rfl (by omega) ?_ | refine Idx.lit (j := 4) rfl (by omega) ?_ | refine Idx.lit (j := 5) rfl (by omega) ?_ | refine Idx.lit (j := 6) rfl (by omega) ?_ | refine Idx.lit (j := 7) rfl (by omega) ?_ | refine Idx.nat (by omega) ?_ | refine Idx.int (by omega) (by omega) ?_ | refine Cut.to (by omega) ?_ | refine Cut.from (by omega) (by omega) ?_ | refine Cut.both (by omega) (by omega) ?_ | refine Br.dec_yes (by with_reducible assumption) ?_ | refine Br.dec_no (by with_reducible assumption) ?_ | refine Br.yes (by with_reducible assumption) ?_ | refine Br.no (by with_reducible assumption) ?_ | refine Load.one (by rfl) (by with_reducible assumption) ?_ | refine (?_ : Sat _ _ _ _ _ _ _) | refine (?_ : Then _ _ _ _ _ _ _ _)); (first | refine Then.go hmix ?_ | refine Sat.go hmix ?_ | skip); conv => whnf))
  refine CallS.of (Tryd.call24 _ _) (val2 w7 (hT.keep K7)) ?_
  rintro e w8 ⟨rfl, k8⟩
  refine ⟨_, rfl, ?_⟩; (first | refine Then.go hmix ?_ | refine Sat.go hmix ?_ | refine ResK.go ?_ | skip); conv => whnf
  have K8 := K7.trans0 k8
  (repeat ((first | refine Br.dec_yes rfl ?_ | refine Num.i64 (by omega) (by omega) ?_ | refine Num.i32 (by omega) (by omega) ?_ | refine Num.u8 (by omega) (by omega) ?_ | refine Br.tt ?_ | refine Br.ff ?_ | refine Br.not_yes ?_ | refine Br.dec_yes (by omega) ?_ | refine Br.dec_no (by omega) ?_ | refine Br.beq_yes (by omega) ?_ | refine Br.beq_no (by omega) ?_ | refine Br.bne_yes (by omega) ?_ | refine Br.bne_no (by omega) ?_ | refine Draw.text (by decide +kernel) ?_ | refine Idx.lit (j := 0) rfl (by omega) ?_ | refine Idx.lit (j := 1) rfl (by omega) ?_ | refine Idx.lit (j := 2) rfl (by omega) ?_ | refine Idx.lit (j := 3) rfl (by omega) ?_ | refine Idx.lit (j := 4) rfl (by omega) ?_ | refine Idx.lit (j := 5) rfl (by omega) ?_ | refine Idx.lit (j := 6) rfl (by omega) ?_ | refine Idx.lit (j := 7) rfl (by omega) ?_ | refine Idx.nat (by omega) ?_ | refine Idx.int (by omega) (by omega) ?_ | refine Cut.to (by omega) ?_ | refine Cut.from (by omega) (by omega) ?_ | refine Cut.both (by omega) (by omega) ?_ | refine Br.dec_yes (by with_reducible assumption) ?_ | refine Br.dec_no (by with_reducible assumption) ?_ | refine Br.yes (by with_reducible assumption) ?_ | refine Br.no (by with_reducible assumption) ?_ | refine Load.one (by rfl) (by with_reducible assumption) ?_ | refine (?_ : Sat _ _ _ _ _ _ _) | refine (?_ : Then _ _ _ _ _ _ _ _)); (first | refine Then.go hmix ?_ | refine Sat.go hmix ?_ | skip); conv => whnf))
  refine CallS.of (Tryd.call26 _ _) (rn0 w8) ?_
  rintro e w9 ⟨rfl, rfl⟩
  refine ⟨_, rfl, ?_⟩; (first | refine Then.go hmix ?_ | refine Sat.go hmix ?_ | refine ResK.go ?_ | skip); conv => whnf
  (repeat ((first | refine Br.dec_yes rfl ?_ | refine Num.i64 (by omega) (by omega) ?_ | refine Num.i32 (by omega) (by omega) ?_ | refine Num.u8 (by omega) (by omega) ?_ | refine Br.tt ?_ | refine Br.ff ?_ | refine Br.not_yes ?_ | refine Br.dec_yes (by omega) ?_ | refine Br.dec_no (by omega) ?_ | refine Br.beq_yes (by omega) ?_ | refine Br.beq_no (by omega) ?_ | refine Br.bne_yes (by omega) ?_ | refine Br.bne_no (by omega) ?_ | refine Draw.text (by decide +kernel) ?_ | refine Idx.lit (j := 0) rfl (by omega) ?_ | refine Idx.lit (j := 1) rfl (by omega) ?_ | refine Idx.lit (j := 2) rfl (by omega) ?_ | refine Idx.lit (j := 3) rfl (by omega) ?_ | refine Idx.lit (j := 4) rfl (by omega) ?_ | refine Idx.lit (j := 5) rfl (by omega) ?_ | refine Idx.lit (j := 6) rfl (by omega) ?_ | refine Idx.lit (j := 7) rfl (by omega) ?_ | refine Idx.nat (by omega) ?_ | refine Idx.int (by omega) (by omega) ?_ | refine Cut.to (by omega) ?_ | refine Cut.from (by omega) (by omega) ?_ | refine Cut.both (by omega) (by omega) ?_ | refine Br.dec_yes (by with_reducible assumption) ?_ | refine Br.dec_no (by with_reducible assumption) ?_ | refine Br.yes (by with_reducible assumption) ?_ | refine Br.no (by with_reducible assumption) ?_ | refine Load.one (by rfl) (by with_reducible assumption) ?_ | refine (?_ : Sat _ _ _ _ _ _ _) | refine (?_ : Then _ _ _ _ _ _ _ _)); (first | refine Then.go hmix ?_ | refine Sat.go hmix ?_ | skip); conv => whnf))
  refine CallS.of (Tryd.call26 _ _) (rn1 w8) ?_
  rintro e w9 ⟨rfl, rfl⟩
  refine ⟨_, rfl, ?_⟩; (first | refine Then.go hmix ?_ | refine Sat.go hmix ?_ | refine ResK.go ?_ | skip); conv => whnf
  (repeat ((first | refine Br.dec_yes rfl ?_ | refine Num.i64 (by omega) (by omega) ?_ | refine Num.i32 (by omega) (by omega) ?_ | refine Num.u8 (by omega) (by omega) ?_ | refine Br.tt ?_ | refine Br.ff ?_ | refine Br.not_yes ?_ | refine Br.dec_yes (by omega) ?_ | refine Br.dec_no (by omega) ?_ | refine Br.beq_yes (by omega) ?_ | refine Br.beq_no (by omega) ?_ | refine Br.bne_yes (by omega) ?_ | refine Br.bne_no (by omega) ?_ | refine Draw.text (by decide +kernel) ?_ | refine Idx.lit (j := 0) rfl (by omega) ?_ | refine Idx.lit (j := 1) rfl (by omega) ?_ | refine Idx.lit (j := 2) rfl (by omega) ?_ | refine Idx.lit (j := 3) rfl (by omega) ?_ | refine Idx.lit (j := 4) rfl (by omega) ?_ | refine Idx.lit (j := 5) rfl (by omega) ?_ | refine Idx.lit (j := 6) rfl (by omega) ?_ | refine Idx.lit (j := 7) rfl (by omega) ?_ | refine Idx.nat (by omega) ?_ | refine Idx.int (by omega) (by omega) ?_ | refine Cut.to (by omega) ?_ | refine Cut.from (by omega) (by omega) ?_ | refine Cut.both (by omega) (by omega) ?_ | refine Br.dec_yes (by with_reducible assumption) ?_ | refine Br.dec_no (by with_reducible assumption) ?_ | refine Br.yes (by with_reducible assumption) ?_ | refine Br.no (by with_reducible assumption) ?_ | refine Load.one (by rfl) (by with_reducible assumption) ?_ | refine (?_ : Sat _ _ _ _ _ _ _) | refine (?_ : Then _ _ _ _ _ _ _ _)); (first | refine Then.go hmix ?_ | refine Sat.go hmix ?_ | skip); conv => whnf))
  refine CallS.of (Tryd.call26 _ _) (rn2 w8) ?_
  rintro e w9 ⟨rfl, rfl⟩
  refine ⟨_, rfl, ?_⟩; (first | refine Then.go hmix ?_ | refine Sat.go hmix ?_ | refine ResK.go ?_ | skip); conv => whnf
  (repeat ((first | refine Br.dec_yes rfl ?_ | refine Num.i64 (by omega) (by omega) ?_ | refine Num.i32 (by omega) (by omega) ?_ | refine Num.u8 (by omega) (by omega) ?_ | refine Br.tt ?_ | refine Br.ff ?_ | refine Br.not_yes ?_ | refine Br.dec_yes (by omega) ?_ | refine Br.dec_no (by omega) ?_ | refine Br.beq_yes (by omega) ?_ | refine Br.beq_no (by omega) ?_ | refine Br.bne_yes (by omega) ?_ | refine Br.bne_no (by omega) ?_ | refine Draw.text (by decide +kernel) ?_ | refine Idx.lit (j := 0) rfl (by omega) ?_ | refine Idx.lit (j := 1) rfl (by omega) ?_ | refine Idx.lit (j := 2) rfl (by omega) ?_ | refine Idx.lit (j := 3) rfl (by omega) ?_ | refine Idx.lit (j := 4) rfl (by omega) ?_ | refine Idx.lit (j := 5) rfl (by omega) ?_ | refine Idx.lit (j := 6) rfl (by omega) ?_ | refine Idx.lit (j := 7) rfl (by omega) ?_ | refine Idx.nat (by omega) ?_ | refine Idx.int (by omega) (by omega) ?_ | refine Cut.to (by omega) ?_ | refine Cut.from (by omega) (by omega) ?_ | refine Cut.both (by omega) (by omega) ?_ | refine Br.dec_yes (by with_reducible assumption) ?_ | refine Br.dec_no (by with_reducible assumption) ?_ | refine Br.yes (by with_reducible assumption) ?_ | refine Br.no (by with_reducible assumption) ?_ | refine Load.one (by rfl) (by with_reducible assumption) ?_ | refine (?_ : Sat _ _ _ _ _ _ _) | refine (?_ : Then _ _ _ _ _ _ _ _)); (first | refine Then.go hmix ?_ | refine Sat.go hmix ?_ | skip); conv => whnf))
  refine CallS.of (Tryd.call30 _ _) (kn0 w8) ?_
  rintro e w9 ⟨rfl, k9⟩
  refine ⟨_, rfl, ?_⟩; (first | refine Then.go hmix ?_ | refine Sat.go hmix ?_ | refine ResK.go ?_ | skip); conv => whnf
  have K9 := K8.trans0 k9
  (repeat ((first | refine Br.dec_yes rfl ?_ | refine Num.i64 (by omega) (by omega) ?_ | refine Num.i32 (by omega) (by omega) ?_ | refine Num.u8 (by omega) (by omega) ?_ | refine Br.tt ?_ | refine Br.ff ?_ | refine Br.not_yes ?_ | refine Br.dec_yes (by omega) ?_ | refine Br.dec_no (by omega) ?_ | refine Br.beq_yes (by omega) ?_ | refine Br.beq_no (by omega) ?_ | refine Br.bne_yes (by omega) ?_ | refine Br.bne_no (by omega) ?_ | refine Draw.text (by decide +kernel) ?_ | refine Idx.lit (j := 0) rfl (by omega) ?_ | refine Idx.lit (j := 1) rfl (by omega) ?_ | refine Idx.lit (j := 2) rfl (by omega) ?_ | refine Idx.lit (j := 3) rfl (by omega) ?_ | refine Idx.lit (j := 4) rfl (by omega) ?_ | refine Idx.lit (j := 5) rfl (by omega) ?_ | refine Idx.lit (j := 6) rfl (by omega) ?_ | refine Idx.lit (j := 7) rfl (by omega) ?_ | refine Idx.nat (by omega) ?_ | refine Idx.int (by omega) (by omega) ?_ | refine Cut.to (by omega) ?_ | refine Cut.from (by omega) (by omega) ?_ | refine Cut.both (by omega) (by omega) ?_ | refine Br.dec_yes (by with_reducible assumption) ?_ | refine Br.dec_no (by with_reducible assumption) ?_ | refine Br.yes (by with_reducible assumption) ?_ | refine Br.no (by with_reducible assumption) ?_ | refine Load.one (by rfl) (by with_reducible assumption) ?_ | refine (?_ : Sat _ _ _ _ _ _ _) | refine (?_ : Then _ _ _ _ _ _ _ _)); (first | refine Then.go hmix ?_ | refine Sat.go hmix ?_ | skip); conv => whnf))
  refine CallS.of (Tryd.call30 _ _) (kn1 w9) ?_
  rintro e w10 ⟨rfl, k10⟩
  refine ⟨_, rfl, ?_⟩; (first | refine Then.go hmix ?_ | refine Sat.go hmix ?_ | refine ResK.go ?_ | skip); conv => whnf
  (repeat ((first | refine Br.dec_yes rfl ?_ | refine Num.i64 (by omega) (by omega) ?_ | refine Num.i32 (by omega) (by omega) ?_ | refine Num.u8 (by omega) (by omega) ?_ | refine Br.tt ?_ | refine Br.ff ?_ | refine Br.not_yes ?_ | refine Br.dec_yes (by omega) ?_ | refine Br.dec_no (by omega) ?_ | refine Br.beq_yes (by omega) ?_ | refine Br.beq_no (by omega) ?_ | refine Br.bne_yes (by omega) ?_ | refine Br.bne_no (by omega) ?_ | refine Draw.text (by decide +kernel) ?_ | refine Idx.lit (j := 0) rfl (by omega) ?_ | refine Idx.lit (j := 1) rfl (by omega) ?_ | refine Idx.lit (j := 2) rfl (by omega) ?_ | refine Idx.lit (j := 3) rfl (by omega) ?_ | refine Idx.lit (j := 4) rfl (by omega) ?_ | refine Idx.lit (j := 5) rfl (by omega) ?_ | refine Idx.lit (j := 6) rfl (by omega) ?_ | refine Idx.lit (j := 7) rfl (by omega) ?_ | refine Idx.nat (by omega) ?_ | refine Idx.int (by omega) (by omega) ?_ | refine Cut.to (by omega) ?_ | refine Cut.from (by omega) (by omega) ?_ | refine Cut.both (by omega) (by omega) ?_ | refine Br.dec_yes (by with_reducible assumption) ?_ | refine Br.dec_no (by with_reducible assumption) ?_ | refine Br.yes (by with_reducible assumption) ?_ | refine Br.no (by with_reducible assumption) ?_ | refine Load.one (by rfl) (by with_reducible assumption) ?_ | refine (?_ : Sat _ _ _ _ _ _ _) | refine (?_ : Then _ _ _ _ _ _ _ _)); (first | refine Then.go hmix ?_ | refine Sat.go hmix ?_ | skip); conv => whnf))
  exact ⟨rfl, K9.trans0 k10⟩
theorem law04_few (s : ByteArray) : Calls Tryd.prog 19 #[.string s] w fun e w' => e = .returned (.bool (decide (s.size ≤ 500))) ∧ w = w' := by
  refine calls_of_vc (args := [.string s]) Tryd.func19 rfl (Nat.le_of_ble_eq_true rfl) ?_; refine Sat.go hmix ?_; conv => whnf
  exact ⟨ret_bool (by by_cases h : s.size ≤ 500 <;> simp [h] <;> omega), rfl⟩
end
end Go.Proofs.YtmipmlcolaaonaaDoor
