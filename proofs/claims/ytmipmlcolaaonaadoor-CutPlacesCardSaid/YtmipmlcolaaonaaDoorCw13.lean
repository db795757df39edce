/- Helper text of this claim: Cw13: lemmas and contracts that the proved statement rests on; no conditions of its own. -/
-- alias Tryd
import Derived.Test.YtmipmlcolaaonaaDoorCw9
import Derived.Test.YtmipmlcolaaonaaDoorCt9
import Derived.Test.YtmipmlcolaaonaaDoorCh6
namespace Go.Proofs.YtmipmlcolaaonaaDoor
open Go.RowKit Go.Pw Go.Vc Go.Cs Go.Lib
set_option linter.unusedVariables false
set_option maxRecDepth 100000
section
variable {w : World}
theorem kindI_nat (c : Nat) : kindI (c : Int) = kindN c := by unfold kindI; rw [if_neg (by omega)]; rfl
theorem all_take {α : Type} {P : α → Bool} {l : List α} {i : Nat} (hi : i < l.length) (h : (l.take i).all P = true) (hp : P l[i] = true) : (l.take (i + 1)).all P = true := by
  rw [List.take_succ_eq_append_getElem hi, List.all_append, h]; simp [hp]
set_option maxHeartbeats 2000000 in
theorem law_none (s : ByteArray) (hC : CutTab w) (hT : Tabs w) (hs : s.size ≤ 10000000) : Calls Tryd.prog 44 #[.string s] w fun e w' => e = .returned (.bool (noneB (L s))) ∧ Keeps w w' none_ := by
  refine calls_of_vc (args := [.string s]) Tryd.func44 rfl (Nat.le_of_ble_eq_true rfl) ?_; refine Sat.go hmix ?_; conv => whnf
  refine CallS.of (Tryd.call22 _ _) (cs_Runes s hT (by omega)) ?_
  rintro e w1 ⟨v, rfl, hR, k1⟩
  have hrl := (runes_len (L s)).1
  have hLs := L_len s
  unfold noneB
  generalize runes (L s) = R at *
  obtain ⟨a, cap, rfl⟩ : ∃ x c, v = .slice x R.length c := hR.shape
  refine ⟨_, rfl, ?_⟩; (first | refine Then.go hmix ?_ | refine Sat.go hmix ?_ | refine ResK.go ?_ | skip); conv => whnf
  (repeat ((first | refine Num.i64 (by omega) (by omega) ?_ | refine Num.i32 (by omega) (by omega) ?_ | refine Num.u8 (by omega) (by omega) ?_ | refine Br.tt ?_ | refine Br.ff ?_ | refine Br.not_yes ?_ | refine Br.dec_yes (by omega) ?_ | refine Br.dec_no (by omega) ?_ | refine Br.beq_yes (by omega) ?_ | refine Br.beq_no (by omega) ?_ | refine Br.bne_yes (by omega) ?_ | refine Br.bne_no (by omega) ?_ | refine Draw.text (by decide +kernel) ?_ | refine Idx.lit (j := 0) rfl (by omega) ?_ | refine Idx.lit (j := 1) rfl (by omega) ?_ | refine Idx.lit (j := 2) rfl (by omega) ?_ | refine Idx.lit (j := 3) rfl (by omega) ?_ | refine Idx.lit (j := 4) rfl (by omega) ?_ | refine Idx.lit (j := 5) rfl (by omega) ?_ | refine Idx.lit (j := 6) rfl (by omega) ?_ | refine Idx.lit (j := 7) rfl (by omega) ?_ | refine Idx.nat (by omega) ?_ | refine Idx.int (by omega) (by omega) ?_ | refine Cut.to (by omega) ?_ | refine Cut.from (by omega) (by omega) ?_ | refine Cut.both (by omega) (by omega) ?_ | refine Br.dec_yes (by with_reducible assumption) ?_ | refine Br.dec_no (by with_reducible assumption) ?_ | refine Br.yes (by with_reducible assumption) ?_ | refine Br.no (by with_reducible assumption) ?_ | refine Load.one (by rfl) (by with_reducible assumption) ?_ | refine (?_ : Sat _ _ _ _ _ _ _) | refine (?_ : Then _ _ _ _ _ _ _ _)); (first | refine Then.go hmix ?_ | refine Sat.go hmix ?_ | skip); conv => whnf))
  refine Loop.intro (ι := Nat) (fun i => [(3, .slice a R.length cap), (4, .int .i64 (i : Nat))]) (fun i wr => Keeps w1 wr none_ ∧ i ≤ R.length ∧ (R.take i).all (fun c => decide (kindN c = 0)) = true) (fun i => R.length - i) 0 ⟨rfl, rfl, trivial⟩
    ⟨Keeps.refl _ _, Nat.zero_le _, rfl⟩ ?_
  rintro i gg wr ⟨hK, hi, hall⟩
  (first | refine Then.go hmix ?_ | refine Sat.go hmix ?_ | refine ResK.go ?_ | skip); conv => whnf
  have K2 := k1.trans0 hK
  by_cases hlt : i < R.length
  · obtain ⟨g, rfl, _, _, c1⟩ := rns_cell (hR.keep hK) hlt
    (repeat ((first | refine Num.i64 (by omega) (by omega) ?_ | refine Num.i32 (by omega) (by omega) ?_ | refine Num.u8 (by omega) (by omega) ?_ | refine Br.tt ?_ | refine Br.ff ?_ | refine Br.not_yes ?_ | refine Br.dec_yes (by omega) ?_ | refine Br.dec_no (by omega) ?_ | refine Br.beq_yes (by omega) ?_ | refine Br.beq_no (by omega) ?_ | refine Br.bne_yes (by omega) ?_ | refine Br.bne_no (by omega) ?_ | refine Draw.text (by decide +kernel) ?_ | refine Idx.lit (j := 0) rfl (by omega) ?_ | refine Idx.lit (j := 1) rfl (by omega) ?_ | refine Idx.lit (j := 2) rfl (by omega) ?_ | refine Idx.lit (j := 3) rfl (by omega) ?_ | refine Idx.lit (j := 4) rfl (by omega) ?_ | refine Idx.lit (j := 5) rfl (by omega) ?_ | refine Idx.lit (j := 6) rfl (by omega) ?_ | refine Idx.lit (j := 7) rfl (by omega) ?_ | refine Idx.nat (by omega) ?_ | refine Idx.int (by omega) (by omega) ?_ | refine Cut.to (by omega) ?_ | refine Cut.from (by omega) (by omega) ?_ | refine Cut.both (by omega) (by omega) ?_ | refine Br.dec_yes (by with_reducible assumption) ?_ | refine Br.dec_no (by with_reducible assumption) ?_ | refine Br.yes (by with_reducible assumption) ?_ | refine Br.no (by with_reducible assumption) ?_ | refine Load.one (by rfl) (by with_reducible assumption) ?_ | refine (?_ : Sat _ _ _ _ _ _ _) | refine (?_ : Then _ _ _ _ _ _ _ _)); (first | refine Then.go hmix ?_ | refine Sat.go hmix ?_ | skip); conv => whnf))
    refine CallS.of (Tryd.call33 _ _) (cut_Kind ((R.getD i 0 : Nat) : Int) (hC.keep K2)) ?_
    rintro e w3 ⟨rfl, k3⟩
    rw [kindI_nat]
    have hget : R.getD i 0 = R[i] := by simp [List.getD, hlt]
    rw [hget]
    refine ⟨_, rfl, ?_⟩; (first | refine Then.go hmix ?_ | refine Sat.go hmix ?_ | refine ResK.go ?_ | skip); conv => whnf
    by_cases hz : kindN R[i] = 0
    · (repeat ((first | refine Num.i64 (by omega) (by omega) ?_ | refine Num.i32 (by omega) (by omega) ?_ | refine Num.u8 (by omega) (by omega) ?_ | refine Br.tt ?_ | refine Br.ff ?_ | refine Br.not_yes ?_ | refine Br.dec_yes (by omega) ?_ | refine Br.dec_no (by omega) ?_ | refine Br.beq_yes (by omega) ?_ | refine Br.beq_no (by omega) ?_ | refine Br.bne_yes (by omega) ?_ | refine Br.bne_no (by omega) ?_ | refine Draw.text (by decide +kernel) ?_ | refine Idx.lit (j := 0) rfl (by omega) ?_ | refine Idx.lit (j := 1) rfl (by omega) ?_ | refine Idx.lit (j := 2) rfl (by omega) ?_ | refine Idx.lit (j := 3) rfl (by omega) ?_ | refine Idx.lit (j := 4) rfl (by omega) ?_ | refine Idx.lit (j := 5) rfl (by omega) ?_ | refine Idx.lit (j := 6) rfl (by omega) ?_ | refine Idx.lit (j := 7) rfl (by omega) ?_ | refine Idx.nat (by omega) ?_ | refine Idx.int (by omega) (by omega) ?_ | refine Cut.to (by omega) ?_ | refine Cut.from (by omega) (by omega) ?_ | refine Cut.both (by omega) (by omega) ?_ | refine Br.dec_yes (by with_reducible assumption) ?_ | refine Br.dec_no (by with_reducible assumption) ?_ | refine Br.yes (by with_reducible assumption) ?_ | refine Br.no (by with_reducible assumption) ?_ | refine Load.one (by rfl) (by with_reducible assumption) ?_ | refine (?_ : Sat _ _ _ _ _ _ _) | refine (?_ : Then _ _ _ _ _ _ _ _)); (first | refine Then.go hmix ?_ | refine Sat.go hmix ?_ | skip); conv => whnf))
      exact ⟨i + 1, ⟨rfl, v_int (by simp), trivial⟩, ⟨hK.trans0 k3, by omega, all_take hlt hall (by simp [hz])⟩, by dsimp only; omega⟩
    · (repeat ((first | refine Num.i64 (by omega) (by omega) ?_ | refine Num.i32 (by omega) (by omega) ?_ | refine Num.u8 (by omega) (by omega) ?_ | refine Br.tt ?_ | refine Br.ff ?_ | refine Br.not_yes ?_ | refine Br.dec_yes (by omega) ?_ | refine Br.dec_no (by omega) ?_ | refine Br.beq_yes (by omega) ?_ | refine Br.beq_no (by omega) ?_ | refine Br.bne_yes (by omega) ?_ | refine Br.bne_no (by omega) ?_ | refine Draw.text (by decide +kernel) ?_ | refine Idx.lit (j := 0) rfl (by omega) ?_ | refine Idx.lit (j := 1) rfl (by omega) ?_ | refine Idx.lit (j := 2) rfl (by omega) ?_ | refine Idx.lit (j := 3) rfl (by omega) ?_ | refine Idx.lit (j := 4) rfl (by omega) ?_ | refine Idx.lit (j := 5) rfl (by omega) ?_ | refine Idx.lit (j := 6) rfl (by omega) ?_ | refine Idx.lit (j := 7) rfl (by omega) ?_ | refine Idx.nat (by omega) ?_ | refine Idx.int (by omega) (by omega) ?_ | refine Cut.to (by omega) ?_ | refine Cut.from (by omega) (by omega) ?_ | refine Cut.both (by omega) (by omega) ?_ | refine Br.dec_yes (by with_reducible assumption) ?_ | refine Br.dec_no (by with_reducible assumption) ?_ | refine Br.yes (by with_reducible assumption) ?_ | refine Br.no (by with_reducible assumption) ?_ | refine Load.one (by rfl) (by with_reducible assumption) ?_ | refine (?_ : Sat _ _ _ _ _ _ _) | refine (?_ : Then _ _ _ _ _ _ _ _)); (first | refine Then.go hmix ?_ | refine Sat.go hmix ?_ | skip); conv => whnf))
      refine ⟨?_, K2.trans0 k3⟩
      have : R.all (fun c => decide (kindN c = 0)) = false := by
        apply Bool.eq_false_iff.2
        intro h
        have := List.all_eq_true.1 h R[i] (List.getElem_mem hlt)
        simp [hz] at this
      rw [this]
  · (repeat ((first | refine Num.i64 (by omega) (by omega) ?_ | refine Num.i32 (by omega) (by omega) ?_ | refine Num.u8 (by omega) (by omega) ?_ | refine Br.tt ?_ | refine Br.ff ?_ | refine Br.not_yes ?_ | refine Br.dec_yes (by omega) ?_ | refine Br.dec_no (by omega) ?_ | refine Br.beq_yes (by omega) ?_ | refine Br.beq_no (by omega) ?_ | refine Br.bne_yes (by omega) ?_ | refine Br.bne_no (by omega) ?_ | refine Draw.text (by decide +kernel) ?_ | refine Idx.lit (j := 0) rfl (by omega) ?_ | refine Idx.lit (j := 1) rfl (by omega) ?_ | refine Idx.lit (j := 2) rfl (by omega) ?_ | refine Idx.lit (j := 3) rfl (by omega) ?_ | refine Idx.lit (j := 4) rfl (by omega) ?_ | refine Idx.lit (j := 5) rfl (by omega) ?_ | refine Idx.lit (j := 6) rfl (by omega) ?_ | refine Idx.lit (j := 7) rfl (by omega) ?_ | refine Idx.nat (by omega) ?_ | refine Idx.int (by omega) (by omega) ?_ | refine Cut.to (by omega) ?_ | refine Cut.from (by omega) (by omega) ?_ | refine Cut.both (by omega) (by omega) ?_ | refine Br.dec_yes (by with_reducible assumption) ?_ | refine Br.dec_no (by with_reducible assumption) ?_ | refine Br.yes (by with_reducible assumption) ?_ | refine Br.no (by with_reducible assumption) ?_ | refine Load.one (by rfl) (by with_reducible assumption) ?_ | refine (?_ : Sat _ _ _ _ _ _ _) | refine (?_ : Then _ _ _ _ _ _ _ _)); (first | refine Then.go hmix ?_ | refine Sat.go hmix ?_ | skip); conv => whnf))
    have e : i = R.length := by omega
    rw [e, List.take_length] at hall
    exact ⟨by rw [hall], K2⟩
set_option maxHeartbeats 2000000 in
theorem law_letters (s : ByteArray) (hC : CutTab w) (hT : Tabs w) (hs : s.size ≤ 10000000) : Calls Tryd.prog 43 #[.string s] w fun e w' => e = .returned (.bool (lettersB (L s))) ∧ Keeps w w' none_ := by
  refine calls_of_vc (args := [.string s]) Tryd.func43 rfl (Nat.le_of_ble_eq_true rfl) ?_; refine Sat.go hmix ?_; conv => whnf
  refine CallS.of (Tryd.call22 _ _) (cs_Runes s hT (by omega)) ?_
  rintro e w1 ⟨v, rfl, hR, k1⟩
  have hrl := (runes_len (L s)).1
  have hLs := L_len s
  unfold lettersB
  generalize runes (L s) = R at *
  obtain ⟨a, cap, rfl⟩ : ∃ x c, v = .slice x R.length c := hR.shape
  refine ⟨_, rfl, ?_⟩; (first | refine Then.go hmix ?_ | refine Sat.go hmix ?_ | refine ResK.go ?_ | skip); conv => whnf
  (repeat ((first | refine Num.i64 (by omega) (by omega) ?_ | refine Num.i32 (by omega) (by omega) ?_ | refine Num.u8 (by omega) (by omega) ?_ | refine Br.tt ?_ | refine Br.ff ?_ | refine Br.not_yes ?_ | refine Br.dec_yes (by omega) ?_ | refine Br.dec_no (by omega) ?_ | refine Br.beq_yes (by omega) ?_ | refine Br.beq_no (by omega) ?_ | refine Br.bne_yes (by omega) ?_ | refine Br.bne_no (by omega) ?_ | refine Draw.text (by decide +kernel) ?_ | refine Idx.lit (j := 0) rfl (by omega) ?_ | refine Idx.lit (j := 1) rfl (by omega) ?_ | refine Idx.lit (j := 2) rfl (by omega) ?_ | refine Idx.lit (j := 3) rfl (by omega) ?_ | refine Idx.lit (j := 4) rfl (by omega) ?_ | refine Idx.lit (j := 5) rfl (by omega) ?_ | refine Idx.lit (j := 6) rfl (by omega) ?_ | refine Idx.lit (j := 7) rfl (by omega) ?_ | refine Idx.nat (by omega) ?_ | refine Idx.int (by omega) (by omega) ?_ | refine Cut.to (by omega) ?_ | refine Cut.from (by omega) (by omega) ?_ | refine Cut.both (by omega) (by omega) ?_ | refine Br.dec_yes (by with_reducible assumption) ?_ | refine Br.dec_no (by with_reducible assumption) ?_ | refine Br.yes (by with_reducible assumption) ?_ | refine Br.no (by with_reducible assumption) ?_ | refine Load.one (by rfl) (by with_reducible assumption) ?_ | refine (?_ : Sat _ _ _ _ _ _ _) | refine (?_ : Then _ _ _ _ _ _ _ _)); (first | refine Then.go hmix ?_ | refine Sat.go hmix ?_ | skip); conv => whnf))
  refine Loop.intro (ι := Nat) (fun i => [(3, .slice a R.length cap), (4, .int .i64 (i : Nat))]) (fun i wr => Keeps w1 wr none_ ∧ i ≤ R.length ∧ (R.take i).all (fun c => decide (kindN c ≠ 0)) = true) (fun i => R.length - i) 0 ⟨rfl, rfl, trivial⟩
    ⟨Keeps.refl _ _, Nat.zero_le _, rfl⟩ ?_
  rintro i gg wr ⟨hK, hi, hall⟩
  (first | refine Then.go hmix ?_ | refine Sat.go hmix ?_ | refine ResK.go ?_ | skip); conv => whnf
  have K2 := k1.trans0 hK
  by_cases hlt : i < R.length
  · obtain ⟨g, rfl, _, _, c1⟩ := rns_cell (hR.keep hK) hlt
    (repeat ((first | refine Num.i64 (by omega) (by omega) ?_ | refine Num.i32 (by omega) (by omega) ?_ | refine Num.u8 (by omega) (by omega) ?_ | refine Br.tt ?_ | refine Br.ff ?_ | refine Br.not_yes ?_ | refine Br.dec_yes (by omega) ?_ | refine Br.dec_no (by omega) ?_ | refine Br.beq_yes (by omega) ?_ | refine Br.beq_no (by omega) ?_ | refine Br.bne_yes (by omega) ?_ | refine Br.bne_no (by omega) ?_ | refine Draw.text (by decide +kernel) ?_ | refine Idx.lit (j := 0) rfl (by omega) ?_ | refine Idx.lit (j := 1) rfl (by omega) ?_ | refine Idx.lit (j := 2) rfl (by omega) ?_ | refine Idx.lit (j := 3) rfl (by omega) ?_ | refine Idx.lit (j := 4) rfl (by omega) ?_ | refine Idx.lit (j := 5) rfl (by omega) ?_ | refine Idx.lit (j := 6) rfl (by omega) ?_ | refine Idx.lit (j := 7) rfl (by omega) ?_ | refine Idx.nat (by omega) ?_ | refine Idx.int (by omega) (by omega) ?_ | refine Cut.to (by omega) ?_ | refine Cut.from (by omega) (by omega) ?_ | refine Cut.both (by omega) (by omega) ?_ | refine Br.dec_yes (by with_reducible assumption) ?_ | refine Br.dec_no (by with_reducible assumption) ?_ | refine Br.yes (by with_reducible assumption) ?_ | refine Br.no (by with_reducible assumption) ?_ | refine Load.one (by rfl) (by with_reducible assumption) ?_ | refine (?_ : Sat _ _ _ _ _ _ _) | refine (?_ : Then _ _ _ _ _ _ _ _)); (first | refine Then.go hmix ?_ | refine Sat.go hmix ?_ | skip); conv => whnf))
    refine CallS.of (Tryd.call33 _ _) (cut_Kind ((R.getD i 0 : Nat) : Int) (hC.keep K2)) ?_
    rintro e w3 ⟨rfl, k3⟩
    rw [kindI_nat]
    have hget : R.getD i 0 = R[i] := by simp [List.getD, hlt]
    rw [hget]
    refine ⟨_, rfl, ?_⟩; (first | refine Then.go hmix ?_ | refine Sat.go hmix ?_ | refine ResK.go ?_ | skip); conv => whnf
    by_cases hz : kindN R[i] = 0
    · (repeat ((first | refine Num.i64 (by omega) (by omega) ?_ | refine Num.i32 (by omega) (by omega) ?_ | refine Num.u8 (by omega) (by omega) ?_ | refine Br.tt ?_ | refine Br.ff ?_ | refine Br.not_yes ?_ | refine Br.dec_yes (by omega) ?_ | refine Br.dec_no (by omega) ?_ | refine Br.beq_yes (by omega) ?_ | refine Br.beq_no (by omega) ?_ | refine Br.bne_yes (by omega) ?_ | refine Br.bne_no (by omega) ?_ | refine Draw.text (by decide +kernel) ?_ | refine Idx.lit (j := 0) rfl (by omega) ?_ | refine Idx.lit (j := 1) rfl (by omega) ?_ | refine Idx.lit (j := 2) rfl (by omega) ?_ | refine Idx.lit (j := 3) rfl (by omega) ?_ | refine Idx.lit (j := 4) rfl (by omega) ?_ | refine Idx.lit (j := 5) rfl (by omega) ?_ | refine Idx.lit (j := 6) rfl (by omega) ?_ | refine Idx.lit (j := 7) rfl (by omega) ?_ | refine Idx.nat (by omega) ?_ | refine Idx.int (by omega) (by omega) ?_ | refine Cut.to (by omega) ?_ | refine Cut.from (by omega) (by omega) ?_ | refine Cut.both (by omega) (by omega) ?_ | refine Br.dec_yes (by with_reducible assumption) ?_ | refine Br.dec_no (by with_reducible assumption) ?_ | refine Br.yes (by with_reducible assumption) ?_ | refine Br.no (by with_reducible assumption) ?_ | refine Load.one (by rfl) (by with_reducible assumption) ?_ | refine (?_ : Sat _ _ _ _ _ _ _) | refine (?_ : Then _ _ _ _ _ _ _ _)); (first | refine Then.go hmix ?_ | refine Sat.go hmix ?_ | skip); conv => whnf))
      refine ⟨?_, K2.trans0 k3⟩
      have : R.all (fun c => decide (kindN c ≠ 0)) = false := by
        apply Bool.eq_false_iff.2
        intro h
        have := List.all_eq_true.1 h R[i] (List.getElem_mem hlt)
        simp [hz] at this
      rw [this, Bool.and_false]
    · (repeat ((first | refine Num.i64 (by omega) (by omega) ?_ | refine Num.i32 (by omega) (by omega) ?_ | refine Num.u8 (by omega) (by omega) ?_ | refine Br.tt ?_ | refine Br.ff ?_ | refine Br.not_yes ?_ | refine Br.dec_yes (by omega) ?_ | refine Br.dec_no (by omega) ?_ | refine Br.beq_yes (by omega) ?_ | refine Br.beq_no (by omega) ?_ | refine Br.bne_yes (by omega) ?_ | refine Br.bne_no (by omega) ?_ | refine Draw.text (by decide +kernel) ?_ | refine Idx.lit (j := 0) rfl (by omega) ?_ | refine Idx.lit (j := 1) rfl (by omega) ?_ | refine Idx.lit (j := 2) rfl (by omega) ?_ | refine Idx.lit (j := 3) rfl (by omega) ?_ | refine Idx.lit (j := 4) rfl (by omega) ?_ | refine Idx.lit (j := 5) rfl (by omega) ?_ | refine Idx.lit (j := 6) rfl (by omega) ?_ | refine Idx.lit (j := 7) rfl (by omega) ?_ | refine Idx.nat (by omega) ?_ | refine Idx.int (by omega) (by omega) ?_ | refine Cut.to (by omega) ?_ | refine Cut.from (by omega) (by omega) ?_ | refine Cut.both (by omega) (by omega) ?_ | refine Br.dec_yes (by with_reducible assumption) ?_ | refine Br.dec_no (by with_reducible assumption) ?_ | refine Br.yes (by with_reducible assumption) ?_ | refine Br.no (by with_reducible assumption) ?_ | refine Load.one (by rfl) (by with_reducible assumption) ?_ | refine (?_ : Sat _ _ _ _ _ _ _) | refine (?_ : Then _ _ _ _ _ _ _ _)); (first | refine Then.go hmix ?_ | refine Sat.go hmix ?_ | skip); conv => whnf))
      exact ⟨i + 1, ⟨rfl, v_int (by simp), trivial⟩, ⟨hK.trans0 k3, by omega, all_take hlt hall (by simp [hz])⟩, by dsimp only; omega⟩
  · (repeat ((first | refine Num.i64 (by omega) (by omega) ?_ | refine Num.i32 (by omega) (by omega) ?_ | refine Num.u8 (by omega) (by omega) ?_ | refine Br.tt ?_ | refine Br.ff ?_ | refine Br.not_yes ?_ | refine Br.dec_yes (by omega) ?_ | refine Br.dec_no (by omega) ?_ | refine Br.beq_yes (by omega) ?_ | refine Br.beq_no (by omega) ?_ | refine Br.bne_yes (by omega) ?_ | refine Br.bne_no (by omega) ?_ | refine Draw.text (by decide +kernel) ?_ | refine Idx.lit (j := 0) rfl (by omega) ?_ | refine Idx.lit (j := 1) rfl (by omega) ?_ | refine Idx.lit (j := 2) rfl (by omega) ?_ | refine Idx.lit (j := 3) rfl (by omega) ?_ | refine Idx.lit (j := 4) rfl (by omega) ?_ | refine Idx.lit (j := 5) rfl (by omega) ?_ | refine Idx.lit (j := 6) rfl (by omega) ?_ | refine Idx.lit (j := 7) rfl (by omega) ?_ | refine Idx.nat (by omega) ?_ | refine Idx.int (by omega) (by omega) ?_ | refine Cut.to (by omega) ?_ | refine Cut.from (by omega) (by omega) ?_ | refine Cut.both (by omega) (by omega) ?_ | refine Br.dec_yes (by with_reducible assumption) ?_ | refine Br.dec_no (by with_reducible assumption) ?_ | refine Br.yes (by with_reducible assumption) ?_ | refine Br.no (by with_reducible assumption) ?_ | refine Load.one (by rfl) (by with_reducible assumption) ?_ | refine (?_ : Sat _ _ _ _ _ _ _) | refine (?_ : Then _ _ _ _ _ _ _ _)); (first | refine Then.go hmix ?_ | refine Sat.go hmix ?_ | skip); conv => whnf))
    have e : i = R.length := by omega
    rw [e, List.take_length] at hall
    refine ⟨?_, K2⟩
    rw [hall, Bool.and_true]
    cases R <;> simp
end
end Go.Proofs.YtmipmlcolaaonaaDoor
