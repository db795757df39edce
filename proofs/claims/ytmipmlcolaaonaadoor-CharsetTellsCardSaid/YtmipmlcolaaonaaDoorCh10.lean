/- Helper text of this claim: Ch10: lemmas and contracts that the proved statement rests on; no conditions of its own. -/
-- alias Tryd
import Derived.Test.YtmipmlcolaaonaaDoorCh9
namespace Go.Proofs.YtmipmlcolaaonaaDoor
open Go.RowKit Go.Pw Go.Vc Go.Cs Go.Lib
set_option linter.unusedVariables false
set_option maxRecDepth 100000
section
variable {w : World}
theorem sgn_40 : sgn 4 = sgn 0 := by
  funext b
  unfold sgn
  simp
theorem kind_cases (l : List UInt8) : Cs.kind l = 1 ∨ Cs.kind l = 2 ∨ Cs.kind l = 3 ∨ Cs.kind l = 4 ∨ Cs.kind l = 0 := by
  have := kind_le l
  omega
theorem zero_fn (w : World) : (zeroValue 29).run Tryd.prog w = .ok .nilFunc w := Tryd.zeroValue29 w
set_option maxHeartbeats 1000000 in
theorem cs_Known (s : ByteArray) (hs : s.size ≤ 100000000) : Calls Tryd.prog 30 #[.string s] w fun e w' => e = .returned (.bool (decide (0 < Cs.kind (L s)))) ∧ Keeps w w' none_ := by
  refine calls_of_vc (args := [.string s]) Tryd.func30 rfl (Nat.le_of_ble_eq_true rfl) ?_; refine Sat.go hmix ?_; conv => whnf
  refine CallS.of (Tryd.call54 _ _) cs_readers ?_
  rintro e w1 ⟨b, b1, b2, b3, rfl, hm, c1, c2, c3, k1⟩
  refine ⟨_, rfl, ?_⟩; (first | refine Then.go hmix ?_ | refine Sat.go hmix ?_ | refine ResK.go ?_ | skip); conv => whnf
  refine CallS.of (Tryd.call55 _ _) (cs_small s hs) ?_
  rintro e w2 ⟨rfl, k2⟩
  refine ⟨_, rfl, ?_⟩; (first | refine Then.go hmix ?_ | refine Sat.go hmix ?_ | refine ResK.go ?_ | skip); conv => whnf
  have hb : b < w1.heap.size := by
    obtain ⟨es, cl, h, _⟩ := hm
    rcases Nat.lt_or_ge b w1.heap.size with h' | h'
    · exact h'
    · rw [Array.getElem?_eq_none h'] at h; cases h
  have hm2 : SMap w2 b (tbl b1 b2 b3) := by
    obtain ⟨es, cl, h, h'⟩ := hm
    exact ⟨es, cl, (k2.block b hb id).trans h, h'⟩
  refine RunV.look Tryd.underlying58 Tryd.underlying9 (zero_fn _) hm2 _ ?_
  rw [tbl_get]
  show Then _ _ _ _ _ _ _ _
  rcases kind_cases (L s) with h | h | h | h | h
  · rw [show kindL ((L s).map lowerB) = 1 from h]
    (first | refine Then.go hmix ?_ | refine Sat.go hmix ?_ | refine ResK.go ?_ | skip); conv => whnf
    exact ⟨ret_bool (by rw [h]; rfl), k1.trans0 k2⟩
  · rw [show kindL ((L s).map lowerB) = 2 from h]
    (first | refine Then.go hmix ?_ | refine Sat.go hmix ?_ | refine ResK.go ?_ | skip); conv => whnf
    exact ⟨ret_bool (by rw [h]; rfl), k1.trans0 k2⟩
  · rw [show kindL ((L s).map lowerB) = 3 from h]
    (first | refine Then.go hmix ?_ | refine Sat.go hmix ?_ | refine ResK.go ?_ | skip); conv => whnf
    exact ⟨ret_bool (by rw [h]; rfl), k1.trans0 k2⟩
  · rw [show kindL ((L s).map lowerB) = 4 from h]
    (first | refine Then.go hmix ?_ | refine Sat.go hmix ?_ | refine ResK.go ?_ | skip); conv => whnf
    exact ⟨ret_bool (by rw [h]; rfl), k1.trans0 k2⟩
  · rw [show kindL ((L s).map lowerB) = 0 from h]
    (first | refine Then.go hmix ?_ | refine Sat.go hmix ?_ | refine ResK.go ?_ | skip); conv => whnf
    exact ⟨ret_bool (by rw [h]; rfl), k1.trans0 k2⟩
set_option maxHeartbeats 1000000 in
theorem cs_Decode (nm s : ByteArray) (hT : Tabs w) (hn : nm.size ≤ 100000000) (hs : s.size ≤ 100000000) : Calls Tryd.prog 20 #[.string nm, .string s] w fun e w' =>
    e = .returned (.tuple #[.string (str (decodeS (L nm) (L s))), .bool (decide (0 < Cs.kind (L nm)))]) ∧ Keeps w w' none_ := by
  refine calls_of_vc (args := [.string nm, .string s]) Tryd.func20 rfl (Nat.le_of_ble_eq_true rfl) ?_; refine Sat.go hmix ?_; conv => whnf
  refine CallS.of (Tryd.call54 _ _) cs_readers ?_
  rintro e w1 ⟨b, b1, b2, b3, rfl, hm, c1, c2, c3, k1⟩
  refine ⟨_, rfl, ?_⟩; (first | refine Then.go hmix ?_ | refine Sat.go hmix ?_ | refine ResK.go ?_ | skip); conv => whnf
  refine CallS.of (Tryd.call55 _ _) (cs_small nm hn) ?_
  rintro e w2 ⟨rfl, k2⟩
  refine ⟨_, rfl, ?_⟩; (first | refine Then.go hmix ?_ | refine Sat.go hmix ?_ | refine ResK.go ?_ | skip); conv => whnf
  have hb : b < w1.heap.size := by
    obtain ⟨es, cl, h, _⟩ := hm
    rcases Nat.lt_or_ge b w1.heap.size with h' | h'
    · exact h'
    · rw [Array.getElem?_eq_none h'] at h; cases h
  have hm2 : SMap w2 b (tbl b1 b2 b3) := by
    obtain ⟨es, cl, h, h'⟩ := hm
    exact ⟨es, cl, (k2.block b hb id).trans h, h'⟩
  have c1 := (k2.cell (p := ⟨b1, 0, none⟩) (cell_lt c1) id).trans c1
  have c2 := (k2.cell (p := ⟨b2, 0, none⟩) (cell_lt c2) id).trans c2
  have c3 := (k2.cell (p := ⟨b3, 0, none⟩) (cell_lt c3) id).trans c3
  have K2 := k1.trans0 k2
  have kk : kindL ((L nm).map lowerB) = Cs.kind (L nm) := rfl
  refine RunV.look Tryd.underlying58 Tryd.underlying9 (zero_fn _) hm2 _ ?_
  rw [tbl_get, kk]
  unfold decodeS
  show Then _ _ _ _ _ _ _ _
  rcases kind_cases (L nm) with h | h | h | h | h
  · rw [h]
    (repeat ((first | refine Num.i64 (by omega) (by omega) ?_ | refine Num.i32 (by omega) (by omega) ?_ | refine Num.u8 (by omega) (by omega) ?_ | refine Br.tt ?_ | refine Br.ff ?_ | refine Br.not_yes ?_ | refine Br.dec_yes (by omega) ?_ | refine Br.dec_no (by omega) ?_ | refine Br.beq_yes (by omega) ?_ | refine Br.beq_no (by omega) ?_ | refine Br.bne_yes (by omega) ?_ | refine Br.bne_no (by omega) ?_ | refine Draw.text (by decide +kernel) ?_ | refine Idx.lit (j := 0) rfl (by omega) ?_ | refine Idx.lit (j := 1) rfl (by omega) ?_ | refine Idx.lit (j := 2) rfl (by omega) ?_ | refine Idx.lit (j := 3) rfl (by omega) ?_ | refine Idx.lit (j := 4) rfl (by omega) ?_ | refine Idx.lit (j := 5) rfl (by omega) ?_ | refine Idx.lit (j := 6) rfl (by omega) ?_ | refine Idx.lit (j := 7) rfl (by omega) ?_ | refine Idx.nat (by omega) ?_ | refine Idx.int (by omega) (by omega) ?_ | refine Cut.to (by omega) ?_ | refine Cut.from (by omega) (by omega) ?_ | refine Cut.both (by omega) (by omega) ?_ | refine Br.dec_yes (by with_reducible assumption) ?_ | refine Br.dec_no (by with_reducible assumption) ?_ | refine Br.yes (by with_reducible assumption) ?_ | refine Br.no (by with_reducible assumption) ?_ | refine Load.one (by rfl) (by with_reducible assumption) ?_ | refine (?_ : Sat _ _ _ _ _ _ _) | refine (?_ : Then _ _ _ _ _ _ _ _)); (first | refine Then.go hmix ?_ | refine Sat.go hmix ?_ | skip); conv => whnf))
    refine CallS.of (Tryd.call85 _ _) (cs_bytewise1 83 1 b1 s signs_ascii c1 hs) ?_
    rintro e w3 ⟨rfl, k3⟩
    refine ⟨_, rfl, ?_⟩; (first | refine Then.go hmix ?_ | refine Sat.go hmix ?_ | refine ResK.go ?_ | skip); conv => whnf
    exact ⟨rfl, K2.trans0 k3⟩
  · rw [h]
    (repeat ((first | refine Num.i64 (by omega) (by omega) ?_ | refine Num.i32 (by omega) (by omega) ?_ | refine Num.u8 (by omega) (by omega) ?_ | refine Br.tt ?_ | refine Br.ff ?_ | refine Br.not_yes ?_ | refine Br.dec_yes (by omega) ?_ | refine Br.dec_no (by omega) ?_ | refine Br.beq_yes (by omega) ?_ | refine Br.beq_no (by omega) ?_ | refine Br.bne_yes (by omega) ?_ | refine Br.bne_no (by omega) ?_ | refine Draw.text (by decide +kernel) ?_ | refine Idx.lit (j := 0) rfl (by omega) ?_ | refine Idx.lit (j := 1) rfl (by omega) ?_ | refine Idx.lit (j := 2) rfl (by omega) ?_ | refine Idx.lit (j := 3) rfl (by omega) ?_ | refine Idx.lit (j := 4) rfl (by omega) ?_ | refine Idx.lit (j := 5) rfl (by omega) ?_ | refine Idx.lit (j := 6) rfl (by omega) ?_ | refine Idx.lit (j := 7) rfl (by omega) ?_ | refine Idx.nat (by omega) ?_ | refine Idx.int (by omega) (by omega) ?_ | refine Cut.to (by omega) ?_ | refine Cut.from (by omega) (by omega) ?_ | refine Cut.both (by omega) (by omega) ?_ | refine Br.dec_yes (by with_reducible assumption) ?_ | refine Br.dec_no (by with_reducible assumption) ?_ | refine Br.yes (by with_reducible assumption) ?_ | refine Br.no (by with_reducible assumption) ?_ | refine Load.one (by rfl) (by with_reducible assumption) ?_ | refine (?_ : Sat _ _ _ _ _ _ _) | refine (?_ : Then _ _ _ _ _ _ _ _)); (first | refine Then.go hmix ?_ | refine Sat.go hmix ?_ | skip); conv => whnf))
    refine CallS.of (Tryd.call28 _ _) (cs_Repair s (hT.keep K2) hs) ?_
    rintro e w3 ⟨rfl, k3⟩
    refine ⟨_, rfl, ?_⟩; (first | refine Then.go hmix ?_ | refine Sat.go hmix ?_ | refine ResK.go ?_ | skip); conv => whnf
    exact ⟨rfl, K2.trans0 k3⟩
  · rw [h]
    (repeat ((first | refine Num.i64 (by omega) (by omega) ?_ | refine Num.i32 (by omega) (by omega) ?_ | refine Num.u8 (by omega) (by omega) ?_ | refine Br.tt ?_ | refine Br.ff ?_ | refine Br.not_yes ?_ | refine Br.dec_yes (by omega) ?_ | refine Br.dec_no (by omega) ?_ | refine Br.beq_yes (by omega) ?_ | refine Br.beq_no (by omega) ?_ | refine Br.bne_yes (by omega) ?_ | refine Br.bne_no (by omega) ?_ | refine Draw.text (by decide +kernel) ?_ | refine Idx.lit (j := 0) rfl (by omega) ?_ | refine Idx.lit (j := 1) rfl (by omega) ?_ | refine Idx.lit (j := 2) rfl (by omega) ?_ | refine Idx.lit (j := 3) rfl (by omega) ?_ | refine Idx.lit (j := 4) rfl (by omega) ?_ | refine Idx.lit (j := 5) rfl (by omega) ?_ | refine Idx.lit (j := 6) rfl (by omega) ?_ | refine Idx.lit (j := 7) rfl (by omega) ?_ | refine Idx.nat (by omega) ?_ | refine Idx.int (by omega) (by omega) ?_ | refine Cut.to (by omega) ?_ | refine Cut.from (by omega) (by omega) ?_ | refine Cut.both (by omega) (by omega) ?_ | refine Br.dec_yes (by with_reducible assumption) ?_ | refine Br.dec_no (by with_reducible assumption) ?_ | refine Br.yes (by with_reducible assumption) ?_ | refine Br.no (by with_reducible assumption) ?_ | refine Load.one (by rfl) (by with_reducible assumption) ?_ | refine (?_ : Sat _ _ _ _ _ _ _) | refine (?_ : Then _ _ _ _ _ _ _ _)); (first | refine Then.go hmix ?_ | refine Sat.go hmix ?_ | skip); conv => whnf))
    refine CallS.of (Tryd.call85 _ _) (cs_bytewise1 84 3 b2 s signs_latin c2 hs) ?_
    rintro e w3 ⟨rfl, k3⟩
    refine ⟨_, rfl, ?_⟩; (first | refine Then.go hmix ?_ | refine Sat.go hmix ?_ | refine ResK.go ?_ | skip); conv => whnf
    exact ⟨rfl, K2.trans0 k3⟩
  · rw [h, sgn_40]
    (repeat ((first | refine Num.i64 (by omega) (by omega) ?_ | refine Num.i32 (by omega) (by omega) ?_ | refine Num.u8 (by omega) (by omega) ?_ | refine Br.tt ?_ | refine Br.ff ?_ | refine Br.not_yes ?_ | refine Br.dec_yes (by omega) ?_ | refine Br.dec_no (by omega) ?_ | refine Br.beq_yes (by omega) ?_ | refine Br.beq_no (by omega) ?_ | refine Br.bne_yes (by omega) ?_ | refine Br.bne_no (by omega) ?_ | refine Draw.text (by decide +kernel) ?_ | refine Idx.lit (j := 0) rfl (by omega) ?_ | refine Idx.lit (j := 1) rfl (by omega) ?_ | refine Idx.lit (j := 2) rfl (by omega) ?_ | refine Idx.lit (j := 3) rfl (by omega) ?_ | refine Idx.lit (j := 4) rfl (by omega) ?_ | refine Idx.lit (j := 5) rfl (by omega) ?_ | refine Idx.lit (j := 6) rfl (by omega) ?_ | refine Idx.lit (j := 7) rfl (by omega) ?_ | refine Idx.nat (by omega) ?_ | refine Idx.int (by omega) (by omega) ?_ | refine Cut.to (by omega) ?_ | refine Cut.from (by omega) (by omega) ?_ | refine Cut.both (by omega) (by omega) ?_ | refine Br.dec_yes (by with_reducible assumption) ?_ | refine Br.dec_no (by with_reducible assumption) ?_ | refine Br.yes (by with_reducible assumption) ?_ | refine Br.no (by with_reducible assumption) ?_ | refine Load.one (by rfl) (by with_reducible assumption) ?_ | refine (?_ : Sat _ _ _ _ _ _ _) | refine (?_ : Then _ _ _ _ _ _ _ _)); (first | refine Then.go hmix ?_ | refine Sat.go hmix ?_ | skip); conv => whnf))
    refine CallS.of (Tryd.call85 _ _) (cs_bytewise1 57 0 b3 s signs_windows c3 hs) ?_
    rintro e w3 ⟨rfl, k3⟩
    refine ⟨_, rfl, ?_⟩; (first | refine Then.go hmix ?_ | refine Sat.go hmix ?_ | refine ResK.go ?_ | skip); conv => whnf
    exact ⟨rfl, K2.trans0 k3⟩
  · rw [h]
    (repeat ((first | refine Num.i64 (by omega) (by omega) ?_ | refine Num.i32 (by omega) (by omega) ?_ | refine Num.u8 (by omega) (by omega) ?_ | refine Br.tt ?_ | refine Br.ff ?_ | refine Br.not_yes ?_ | refine Br.dec_yes (by omega) ?_ | refine Br.dec_no (by omega) ?_ | refine Br.beq_yes (by omega) ?_ | refine Br.beq_no (by omega) ?_ | refine Br.bne_yes (by omega) ?_ | refine Br.bne_no (by omega) ?_ | refine Draw.text (by decide +kernel) ?_ | refine Idx.lit (j := 0) rfl (by omega) ?_ | refine Idx.lit (j := 1) rfl (by omega) ?_ | refine Idx.lit (j := 2) rfl (by omega) ?_ | refine Idx.lit (j := 3) rfl (by omega) ?_ | refine Idx.lit (j := 4) rfl (by omega) ?_ | refine Idx.lit (j := 5) rfl (by omega) ?_ | refine Idx.lit (j := 6) rfl (by omega) ?_ | refine Idx.lit (j := 7) rfl (by omega) ?_ | refine Idx.nat (by omega) ?_ | refine Idx.int (by omega) (by omega) ?_ | refine Cut.to (by omega) ?_ | refine Cut.from (by omega) (by omega) ?_ | refine Cut.both (by omega) (by omega) ?_ | refine Br.dec_yes (by with_reducible assumption) ?_ | refine Br.dec_no (by with_reducible assumption) ?_ | refine Br.yes (by with_reducible assumption) ?_ | refine Br.no (by with_reducible assumption) ?_ | refine Load.one (by rfl) (by with_reducible assumption) ?_ | refine (?_ : Sat _ _ _ _ _ _ _) | refine (?_ : Then _ _ _ _ _ _ _ _)); (first | refine Then.go hmix ?_ | refine Sat.go hmix ?_ | skip); conv => whnf))
    refine CallS.of (Tryd.call56 _ _) (cs_bytewise 57) ?_
    rintro e w3 ⟨b4, rfl, c4, k3⟩
    refine ⟨_, rfl, ?_⟩; (first | refine Then.go hmix ?_ | refine Sat.go hmix ?_ | refine ResK.go ?_ | skip); conv => whnf
    refine CallS.of (Tryd.call85 _ _) (cs_bytewise1 57 0 b4 s signs_windows c4 hs) ?_
    rintro e w4 ⟨rfl, k4⟩
    refine ⟨_, rfl, ?_⟩; (first | refine Then.go hmix ?_ | refine Sat.go hmix ?_ | refine ResK.go ?_ | skip); conv => whnf
    exact ⟨rfl, (K2.trans0 k3).trans0 k4⟩
end
end Go.Proofs.YtmipmlcolaaonaaDoor
