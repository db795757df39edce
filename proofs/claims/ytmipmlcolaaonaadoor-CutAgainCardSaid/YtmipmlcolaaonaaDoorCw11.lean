/- Helper text of this claim: Cw11: lemmas and contracts that the proved statement rests on; no conditions of its own. -/
-- alias Tryd
import Derived.Test.YtmipmlcolaaonaaDoorCw9
import Derived.Test.YtmipmlcolaaonaaDoorCt6
namespace Go.Proofs.YtmipmlcolaaonaaDoor
open Go.RowKit Go.Pw Go.Vc Go.Cs Go.Lib
set_option linter.unusedVariables false
set_option maxRecDepth 100000
section
variable {w : World}
theorem str_len (l : List UInt8) : (str l).size = l.length := by
  have := L_len (str l)
  rw [L_str] at this
  omega
theorem join_len (xs : List (List UInt8)) (h : ∀ x ∈ xs, IsWord x) : (joinL xs).length ≤ 41 * xs.length := by
  induction xs with
  | nil => simp [joinL]
  | cons x r ih =>
    have := ih fun y hy => h y (by simp [hy])
    have := good_len (h x (by simp))
    have e : joinL (x :: r) = 32 :: (x ++ joinL r) := by simp [joinL]
    rw [e]
    simp only [List.length_cons, List.length_append]
    omega
theorem join_step (xs : List (List UInt8)) (i : Nat) (hi : i < xs.length) : joinL (xs.take (i + 1)) = joinL (xs.take i) ++ 32 :: xs[i] := by
  unfold joinL; rw [List.take_succ_eq_append_getElem hi, List.flatMap_append]; simp
/-- The words of a word, as a row. -/
theorem words_one (x : List UInt8) (hx : IsWord x) (w : World) (hC : CutTab w) (hF : FoldTab w) : Calls Tryd.prog 36 #[.string (str x)] w fun e w' => ∃ g c, e = .returned (.slice (some ⟨g, 0, none⟩) 1 c) ∧ w'.cell? ⟨g, 0, none⟩ = some (.string (str x)) ∧ w'.cell? ⟨g, 1, none⟩ = some (.int .i64 0) ∧ w'.cell? ⟨g, 2, none⟩ = some (.int .i64 (x.length : Nat)) ∧ Keeps w w' none_ := by
  refine (cut_Words (str x) hC hF (by have := good_len hx; rw [str_len]; omega)).mono fun e w' ⟨v, he, hW, k⟩ => ?_
  rw [L_str, good_words hx] at hW
  obtain ⟨a, c, rfl, hr⟩ := own_rd hW
  obtain ⟨g, rfl, _, h⟩ := hr Nat.zero_lt_one
  exact ⟨g, c, he, h 0 _ rfl, h 1 _ rfl, h 2 _ rfl, k⟩
set_option maxHeartbeats 4000000 in
theorem again_walk (s : ByteArray) (hC : CutTab w) (hF : FoldTab w) : Calls Tryd.prog 9 #[.string s] w fun e w' => e = .returned (.bool true) ∧ Keeps w w' none_ := by
  refine calls_of_vc (args := [.string s]) Tryd.func9 rfl (Nat.le_of_ble_eq_true rfl) ?_; refine Sat.go hmix ?_; conv => whnf
  refine CallS.of (Tryd.call32 _ _) (law32_small hC hF) ?_
  rintro e w1 ⟨rfl, k1⟩
  refine ⟨_, rfl, ?_⟩; (first | refine Then.go hmix ?_ | refine Sat.go hmix ?_ | refine ResK.go ?_ | skip); conv => whnf
  by_cases ha : 2000 < s.size
  · (repeat ((first | refine Num.i64 (by omega) (by omega) ?_ | refine Num.i32 (by omega) (by omega) ?_ | refine Num.u8 (by omega) (by omega) ?_ | refine Br.tt ?_ | refine Br.ff ?_ | refine Br.not_yes ?_ | refine Br.dec_yes (by omega) ?_ | refine Br.dec_no (by omega) ?_ | refine Br.beq_yes (by omega) ?_ | refine Br.beq_no (by omega) ?_ | refine Br.bne_yes (by omega) ?_ | refine Br.bne_no (by omega) ?_ | refine Draw.text (by decide +kernel) ?_ | refine Idx.lit (j := 0) rfl (by omega) ?_ | refine Idx.lit (j := 1) rfl (by omega) ?_ | refine Idx.lit (j := 2) rfl (by omega) ?_ | refine Idx.lit (j := 3) rfl (by omega) ?_ | refine Idx.lit (j := 4) rfl (by omega) ?_ | refine Idx.lit (j := 5) rfl (by omega) ?_ | refine Idx.lit (j := 6) rfl (by omega) ?_ | refine Idx.lit (j := 7) rfl (by omega) ?_ | refine Idx.nat (by omega) ?_ | refine Idx.int (by omega) (by omega) ?_ | refine Cut.to (by omega) ?_ | refine Cut.from (by omega) (by omega) ?_ | refine Cut.both (by omega) (by omega) ?_ | refine Br.dec_yes (by with_reducible assumption) ?_ | refine Br.dec_no (by with_reducible assumption) ?_ | refine Br.yes (by with_reducible assumption) ?_ | refine Br.no (by with_reducible assumption) ?_ | refine Load.one (by rfl) (by with_reducible assumption) ?_ | refine (?_ : Sat _ _ _ _ _ _ _) | refine (?_ : Then _ _ _ _ _ _ _ _)); (first | refine Then.go hmix ?_ | refine Sat.go hmix ?_ | skip); conv => whnf))
    exact ⟨rfl, k1⟩
  (repeat ((first | refine Num.i64 (by omega) (by omega) ?_ | refine Num.i32 (by omega) (by omega) ?_ | refine Num.u8 (by omega) (by omega) ?_ | refine Br.tt ?_ | refine Br.ff ?_ | refine Br.not_yes ?_ | refine Br.dec_yes (by omega) ?_ | refine Br.dec_no (by omega) ?_ | refine Br.beq_yes (by omega) ?_ | refine Br.beq_no (by omega) ?_ | refine Br.bne_yes (by omega) ?_ | refine Br.bne_no (by omega) ?_ | refine Draw.text (by decide +kernel) ?_ | refine Idx.lit (j := 0) rfl (by omega) ?_ | refine Idx.lit (j := 1) rfl (by omega) ?_ | refine Idx.lit (j := 2) rfl (by omega) ?_ | refine Idx.lit (j := 3) rfl (by omega) ?_ | refine Idx.lit (j := 4) rfl (by omega) ?_ | refine Idx.lit (j := 5) rfl (by omega) ?_ | refine Idx.lit (j := 6) rfl (by omega) ?_ | refine Idx.lit (j := 7) rfl (by omega) ?_ | refine Idx.nat (by omega) ?_ | refine Idx.int (by omega) (by omega) ?_ | refine Cut.to (by omega) ?_ | refine Cut.from (by omega) (by omega) ?_ | refine Cut.both (by omega) (by omega) ?_ | refine Br.dec_yes (by with_reducible assumption) ?_ | refine Br.dec_no (by with_reducible assumption) ?_ | refine Br.yes (by with_reducible assumption) ?_ | refine Br.no (by with_reducible assumption) ?_ | refine Load.one (by rfl) (by with_reducible assumption) ?_ | refine (?_ : Sat _ _ _ _ _ _ _) | refine (?_ : Then _ _ _ _ _ _ _ _)); (first | refine Then.go hmix ?_ | refine Sat.go hmix ?_ | skip); conv => whnf))
  refine CallS.of (Tryd.call39 _ _) (cut_List s (hC.keep k1) (hF.keep k1) (by omega)) ?_
  rintro e w2 ⟨v, rfl, hT, k2⟩
  have K2 := k1.trans0 k2
  have hG : ∀ x ∈ listL (L s), IsWord x := fun x hx => by
    obtain ⟨y, hy, rfl⟩ := List.mem_map.1 hx
    exact word_good _ y hy
  have hn : (listL (L s)).length ≤ 4001 := by
    have := wordsL_len (L s)
    have := L_len s
    unfold listL
    rw [List.length_map]
    omega
  generalize listL (L s) = xs at *
  obtain ⟨a, cap, rfl, hr⟩ := own_rd hT
  refine ⟨_, rfl, ?_⟩; (first | refine Then.go hmix ?_ | refine Sat.go hmix ?_ | refine ResK.go ?_ | skip); conv => whnf
  (repeat ((first | refine Num.i64 (by omega) (by omega) ?_ | refine Num.i32 (by omega) (by omega) ?_ | refine Num.u8 (by omega) (by omega) ?_ | refine Br.tt ?_ | refine Br.ff ?_ | refine Br.not_yes ?_ | refine Br.dec_yes (by omega) ?_ | refine Br.dec_no (by omega) ?_ | refine Br.beq_yes (by omega) ?_ | refine Br.beq_no (by omega) ?_ | refine Br.bne_yes (by omega) ?_ | refine Br.bne_no (by omega) ?_ | refine Draw.text (by decide +kernel) ?_ | refine Idx.lit (j := 0) rfl (by omega) ?_ | refine Idx.lit (j := 1) rfl (by omega) ?_ | refine Idx.lit (j := 2) rfl (by omega) ?_ | refine Idx.lit (j := 3) rfl (by omega) ?_ | refine Idx.lit (j := 4) rfl (by omega) ?_ | refine Idx.lit (j := 5) rfl (by omega) ?_ | refine Idx.lit (j := 6) rfl (by omega) ?_ | refine Idx.lit (j := 7) rfl (by omega) ?_ | refine Idx.nat (by omega) ?_ | refine Idx.int (by omega) (by omega) ?_ | refine Cut.to (by omega) ?_ | refine Cut.from (by omega) (by omega) ?_ | refine Cut.both (by omega) (by omega) ?_ | refine Br.dec_yes (by with_reducible assumption) ?_ | refine Br.dec_no (by with_reducible assumption) ?_ | refine Br.yes (by with_reducible assumption) ?_ | refine Br.no (by with_reducible assumption) ?_ | refine Load.one (by rfl) (by with_reducible assumption) ?_ | refine (?_ : Sat _ _ _ _ _ _ _) | refine (?_ : Then _ _ _ _ _ _ _ _)); (first | refine Then.go hmix ?_ | refine Sat.go hmix ?_ | skip); conv => whnf))
  refine Loop.intro (ι := Nat) (fun i => [(3, .bool true), (4, .slice a xs.length cap), (5, .string (str (joinL (xs.take i)))), (6, .int .i64 (i : Nat))]) (fun i wr => Keeps w2 wr none_ ∧ i ≤ xs.length) (fun i => xs.length - i) 0 ⟨rfl, rfl, rfl, rfl, trivial⟩
    ⟨Keeps.refl _ _, Nat.zero_le _⟩ ?_
  rintro i gg wr ⟨hK, hi⟩
  (first | refine Then.go hmix ?_ | refine Sat.go hmix ?_ | refine ResK.go ?_ | skip); conv => whnf
  have K3 := K2.trans0 hK
  by_cases hlt : i < xs.length
  · obtain ⟨g1, rfl, b1, h1⟩ := hr (by omega)
    have c1 := at_text (at_keep h1 hK) hlt
    have hx : IsWord xs[i] := hG _ (List.getElem_mem hlt)
    (repeat ((first | refine Num.i64 (by omega) (by omega) ?_ | refine Num.i32 (by omega) (by omega) ?_ | refine Num.u8 (by omega) (by omega) ?_ | refine Br.tt ?_ | refine Br.ff ?_ | refine Br.not_yes ?_ | refine Br.dec_yes (by omega) ?_ | refine Br.dec_no (by omega) ?_ | refine Br.beq_yes (by omega) ?_ | refine Br.beq_no (by omega) ?_ | refine Br.bne_yes (by omega) ?_ | refine Br.bne_no (by omega) ?_ | refine Draw.text (by decide +kernel) ?_ | refine Idx.lit (j := 0) rfl (by omega) ?_ | refine Idx.lit (j := 1) rfl (by omega) ?_ | refine Idx.lit (j := 2) rfl (by omega) ?_ | refine Idx.lit (j := 3) rfl (by omega) ?_ | refine Idx.lit (j := 4) rfl (by omega) ?_ | refine Idx.lit (j := 5) rfl (by omega) ?_ | refine Idx.lit (j := 6) rfl (by omega) ?_ | refine Idx.lit (j := 7) rfl (by omega) ?_ | refine Idx.nat (by omega) ?_ | refine Idx.int (by omega) (by omega) ?_ | refine Cut.to (by omega) ?_ | refine Cut.from (by omega) (by omega) ?_ | refine Cut.both (by omega) (by omega) ?_ | refine Br.dec_yes (by with_reducible assumption) ?_ | refine Br.dec_no (by with_reducible assumption) ?_ | refine Br.yes (by with_reducible assumption) ?_ | refine Br.no (by with_reducible assumption) ?_ | refine Load.one (by rfl) (by with_reducible assumption) ?_ | refine (?_ : Sat _ _ _ _ _ _ _) | refine (?_ : Then _ _ _ _ _ _ _ _)); (first | refine Then.go hmix ?_ | refine Sat.go hmix ?_ | skip); conv => whnf))
    refine CallS.of (Tryd.call36 _ _) (words_one xs[i] hx wr (hC.keep K3) (hF.keep K3)) ?_
    rintro e w3 ⟨g3, c3, rfl, d0, d1, d2, k3⟩
    have c1' := at_text (at_keep (at_keep h1 hK) k3) hlt
    have d0 : w3.drew.cell? ⟨g3, 0 + 0 * 3, none⟩ = _ := d0
    have d1 : w3.drew.cell? ⟨g3, 0 + 0 * 3 + 1, none⟩ = _ := d1
    have d2 : w3.drew.cell? ⟨g3, 0 + 0 * 3 + 2, none⟩ = _ := d2
    have c2 : w3.drew.cell? ⟨g1, 0 + i, none⟩ = _ := c1'
    have hself : decide (str xs[i] = str xs[i]) = true := by simp
    have hsz : ((str xs[i]).size : Int) = ((xs[i].length : Nat) : Int) := by rw [str_len]
    refine ⟨_, rfl, ?_⟩; (first | refine Then.go hmix ?_ | refine Sat.go hmix ?_ | refine ResK.go ?_ | skip); conv => whnf
    (repeat ((first | refine Num.i64 (by omega) (by omega) ?_ | refine Num.i32 (by omega) (by omega) ?_ | refine Num.u8 (by omega) (by omega) ?_ | refine Br.tt ?_ | refine Br.ff ?_ | refine Br.not_yes ?_ | refine Br.dec_yes (by omega) ?_ | refine Br.dec_no (by omega) ?_ | refine Br.beq_yes (by omega) ?_ | refine Br.beq_no (by omega) ?_ | refine Br.bne_yes (by omega) ?_ | refine Br.bne_no (by omega) ?_ | refine Draw.text (by decide +kernel) ?_ | refine Idx.lit (j := 0) rfl (by omega) ?_ | refine Idx.lit (j := 1) rfl (by omega) ?_ | refine Idx.lit (j := 2) rfl (by omega) ?_ | refine Idx.lit (j := 3) rfl (by omega) ?_ | refine Idx.lit (j := 4) rfl (by omega) ?_ | refine Idx.lit (j := 5) rfl (by omega) ?_ | refine Idx.lit (j := 6) rfl (by omega) ?_ | refine Idx.lit (j := 7) rfl (by omega) ?_ | refine Idx.nat (by omega) ?_ | refine Idx.int (by omega) (by omega) ?_ | refine Cut.to (by omega) ?_ | refine Cut.from (by omega) (by omega) ?_ | refine Cut.both (by omega) (by omega) ?_ | refine Br.dec_yes (by with_reducible assumption) ?_ | refine Br.dec_no (by with_reducible assumption) ?_ | refine Br.yes (by with_reducible assumption) ?_ | refine Br.no (by with_reducible assumption) ?_ | refine Load.one (by rfl) (by with_reducible assumption) ?_ | refine (?_ : Sat _ _ _ _ _ _ _) | refine (?_ : Then _ _ _ _ _ _ _ _)); (first | refine Then.go hmix ?_ | refine Sat.go hmix ?_ | skip); conv => whnf))
    have hjl := join_len (xs.take i) fun x hx => hG x (List.mem_of_mem_take hx)
    have htl : (xs.take i).length = i := by rw [List.length_take]; omega
    have hxl := good_len hx
    refine RunV.cat (by show (joinL (xs.take i)).length + 1 ≤ _; omega) ?_
    (repeat ((first | refine Num.i64 (by omega) (by omega) ?_ | refine Num.i32 (by omega) (by omega) ?_ | refine Num.u8 (by omega) (by omega) ?_ | refine Br.tt ?_ | refine Br.ff ?_ | refine Br.not_yes ?_ | refine Br.dec_yes (by omega) ?_ | refine Br.dec_no (by omega) ?_ | refine Br.beq_yes (by omega) ?_ | refine Br.beq_no (by omega) ?_ | refine Br.bne_yes (by omega) ?_ | refine Br.bne_no (by omega) ?_ | refine Draw.text (by decide +kernel) ?_ | refine Idx.lit (j := 0) rfl (by omega) ?_ | refine Idx.lit (j := 1) rfl (by omega) ?_ | refine Idx.lit (j := 2) rfl (by omega) ?_ | refine Idx.lit (j := 3) rfl (by omega) ?_ | refine Idx.lit (j := 4) rfl (by omega) ?_ | refine Idx.lit (j := 5) rfl (by omega) ?_ | refine Idx.lit (j := 6) rfl (by omega) ?_ | refine Idx.lit (j := 7) rfl (by omega) ?_ | refine Idx.nat (by omega) ?_ | refine Idx.int (by omega) (by omega) ?_ | refine Cut.to (by omega) ?_ | refine Cut.from (by omega) (by omega) ?_ | refine Cut.both (by omega) (by omega) ?_ | refine Br.dec_yes (by with_reducible assumption) ?_ | refine Br.dec_no (by with_reducible assumption) ?_ | refine Br.yes (by with_reducible assumption) ?_ | refine Br.no (by with_reducible assumption) ?_ | refine Load.one (by rfl) (by with_reducible assumption) ?_ | refine (?_ : Sat _ _ _ _ _ _ _) | refine (?_ : Then _ _ _ _ _ _ _ _)); (first | refine Then.go hmix ?_ | refine Sat.go hmix ?_ | skip); conv => whnf))
    refine RunV.cat (by show ((joinL (xs.take i)) ++ [32]).length + xs[i].length ≤ _; rw [List.length_append]; simp only [List.length_cons, List.length_nil]; omega) ?_
    (repeat ((first | refine Num.i64 (by omega) (by omega) ?_ | refine Num.i32 (by omega) (by omega) ?_ | refine Num.u8 (by omega) (by omega) ?_ | refine Br.tt ?_ | refine Br.ff ?_ | refine Br.not_yes ?_ | refine Br.dec_yes (by omega) ?_ | refine Br.dec_no (by omega) ?_ | refine Br.beq_yes (by omega) ?_ | refine Br.beq_no (by omega) ?_ | refine Br.bne_yes (by omega) ?_ | refine Br.bne_no (by omega) ?_ | refine Draw.text (by decide +kernel) ?_ | refine Idx.lit (j := 0) rfl (by omega) ?_ | refine Idx.lit (j := 1) rfl (by omega) ?_ | refine Idx.lit (j := 2) rfl (by omega) ?_ | refine Idx.lit (j := 3) rfl (by omega) ?_ | refine Idx.lit (j := 4) rfl (by omega) ?_ | refine Idx.lit (j := 5) rfl (by omega) ?_ | refine Idx.lit (j := 6) rfl (by omega) ?_ | refine Idx.lit (j := 7) rfl (by omega) ?_ | refine Idx.nat (by omega) ?_ | refine Idx.int (by omega) (by omega) ?_ | refine Cut.to (by omega) ?_ | refine Cut.from (by omega) (by omega) ?_ | refine Cut.both (by omega) (by omega) ?_ | refine Br.dec_yes (by with_reducible assumption) ?_ | refine Br.dec_no (by with_reducible assumption) ?_ | refine Br.yes (by with_reducible assumption) ?_ | refine Br.no (by with_reducible assumption) ?_ | refine Load.one (by rfl) (by with_reducible assumption) ?_ | refine (?_ : Sat _ _ _ _ _ _ _) | refine (?_ : Then _ _ _ _ _ _ _ _)); (first | refine Then.go hmix ?_ | refine Sat.go hmix ?_ | skip); conv => whnf))
    refine ⟨i + 1, ⟨rfl, rfl, ?_, v_int (by simp), trivial⟩, ⟨(hK.trans0 k3).drew, by omega⟩, by dsimp only; omega⟩
    show Value.string (str (joinL (xs.take i)) ++ str [32] ++ str xs[i]) = _
    rw [join_step xs i hlt, str_append, str_append]
    simp
  · (repeat ((first | refine Num.i64 (by omega) (by omega) ?_ | refine Num.i32 (by omega) (by omega) ?_ | refine Num.u8 (by omega) (by omega) ?_ | refine Br.tt ?_ | refine Br.ff ?_ | refine Br.not_yes ?_ | refine Br.dec_yes (by omega) ?_ | refine Br.dec_no (by omega) ?_ | refine Br.beq_yes (by omega) ?_ | refine Br.beq_no (by omega) ?_ | refine Br.bne_yes (by omega) ?_ | refine Br.bne_no (by omega) ?_ | refine Draw.text (by decide +kernel) ?_ | refine Idx.lit (j := 0) rfl (by omega) ?_ | refine Idx.lit (j := 1) rfl (by omega) ?_ | refine Idx.lit (j := 2) rfl (by omega) ?_ | refine Idx.lit (j := 3) rfl (by omega) ?_ | refine Idx.lit (j := 4) rfl (by omega) ?_ | refine Idx.lit (j := 5) rfl (by omega) ?_ | refine Idx.lit (j := 6) rfl (by omega) ?_ | refine Idx.lit (j := 7) rfl (by omega) ?_ | refine Idx.nat (by omega) ?_ | refine Idx.int (by omega) (by omega) ?_ | refine Cut.to (by omega) ?_ | refine Cut.from (by omega) (by omega) ?_ | refine Cut.both (by omega) (by omega) ?_ | refine Br.dec_yes (by with_reducible assumption) ?_ | refine Br.dec_no (by with_reducible assumption) ?_ | refine Br.yes (by with_reducible assumption) ?_ | refine Br.no (by with_reducible assumption) ?_ | refine Load.one (by rfl) (by with_reducible assumption) ?_ | refine (?_ : Sat _ _ _ _ _ _ _) | refine (?_ : Then _ _ _ _ _ _ _ _)); (first | refine Then.go hmix ?_ | refine Sat.go hmix ?_ | skip); conv => whnf))
    have e : i = xs.length := by omega
    subst e
    rw [List.take_length]
    have hjl := join_len xs hG
    refine CallS.of (Tryd.call39 _ _) (cut_List (str (joinL xs)) (hC.keep K3) (hF.keep K3) (by rw [str_len]; omega)) ?_
    rintro e w4 ⟨v4, rfl, hT4, k4⟩
    rw [L_str] at hT4
    have hll : listL (joinL xs) = xs := list_join xs hG
    rw [hll] at hT4
    have R4 := own_rd hT4
    have R0 := ((own_rd hT).keep hK).keep k4
    obtain ⟨a4, c4, rfl, _⟩ := own_rd hT4
    refine ⟨_, rfl, ?_⟩; (first | refine Then.go hmix ?_ | refine Sat.go hmix ?_ | refine ResK.go ?_ | skip); conv => whnf
    (repeat ((first | refine Num.i64 (by omega) (by omega) ?_ | refine Num.i32 (by omega) (by omega) ?_ | refine Num.u8 (by omega) (by omega) ?_ | refine Br.tt ?_ | refine Br.ff ?_ | refine Br.not_yes ?_ | refine Br.dec_yes (by omega) ?_ | refine Br.dec_no (by omega) ?_ | refine Br.beq_yes (by omega) ?_ | refine Br.beq_no (by omega) ?_ | refine Br.bne_yes (by omega) ?_ | refine Br.bne_no (by omega) ?_ | refine Draw.text (by decide +kernel) ?_ | refine Idx.lit (j := 0) rfl (by omega) ?_ | refine Idx.lit (j := 1) rfl (by omega) ?_ | refine Idx.lit (j := 2) rfl (by omega) ?_ | refine Idx.lit (j := 3) rfl (by omega) ?_ | refine Idx.lit (j := 4) rfl (by omega) ?_ | refine Idx.lit (j := 5) rfl (by omega) ?_ | refine Idx.lit (j := 6) rfl (by omega) ?_ | refine Idx.lit (j := 7) rfl (by omega) ?_ | refine Idx.nat (by omega) ?_ | refine Idx.int (by omega) (by omega) ?_ | refine Cut.to (by omega) ?_ | refine Cut.from (by omega) (by omega) ?_ | refine Cut.both (by omega) (by omega) ?_ | refine Br.dec_yes (by with_reducible assumption) ?_ | refine Br.dec_no (by with_reducible assumption) ?_ | refine Br.yes (by with_reducible assumption) ?_ | refine Br.no (by with_reducible assumption) ?_ | refine Load.one (by rfl) (by with_reducible assumption) ?_ | refine (?_ : Sat _ _ _ _ _ _ _) | refine (?_ : Then _ _ _ _ _ _ _ _)); (first | refine Then.go hmix ?_ | refine Sat.go hmix ?_ | skip); conv => whnf))
    refine CallS.of (Tryd.call38 _ _) (ref_SameTexts (w := w4) R4 R0 (by omega) (by omega)) ?_
    rintro e w5 ⟨rfl, k5⟩
    rw [show decide (xs = xs) = true by simp]
    refine ⟨_, rfl, ?_⟩; (first | refine Then.go hmix ?_ | refine Sat.go hmix ?_ | refine ResK.go ?_ | skip); conv => whnf
    (repeat ((first | refine Num.i64 (by omega) (by omega) ?_ | refine Num.i32 (by omega) (by omega) ?_ | refine Num.u8 (by omega) (by omega) ?_ | refine Br.tt ?_ | refine Br.ff ?_ | refine Br.not_yes ?_ | refine Br.dec_yes (by omega) ?_ | refine Br.dec_no (by omega) ?_ | refine Br.beq_yes (by omega) ?_ | refine Br.beq_no (by omega) ?_ | refine Br.bne_yes (by omega) ?_ | refine Br.bne_no (by omega) ?_ | refine Draw.text (by decide +kernel) ?_ | refine Idx.lit (j := 0) rfl (by omega) ?_ | refine Idx.lit (j := 1) rfl (by omega) ?_ | refine Idx.lit (j := 2) rfl (by omega) ?_ | refine Idx.lit (j := 3) rfl (by omega) ?_ | refine Idx.lit (j := 4) rfl (by omega) ?_ | refine Idx.lit (j := 5) rfl (by omega) ?_ | refine Idx.lit (j := 6) rfl (by omega) ?_ | refine Idx.lit (j := 7) rfl (by omega) ?_ | refine Idx.nat (by omega) ?_ | refine Idx.int (by omega) (by omega) ?_ | refine Cut.to (by omega) ?_ | refine Cut.from (by omega) (by omega) ?_ | refine Cut.both (by omega) (by omega) ?_ | refine Br.dec_yes (by with_reducible assumption) ?_ | refine Br.dec_no (by with_reducible assumption) ?_ | refine Br.yes (by with_reducible assumption) ?_ | refine Br.no (by with_reducible assumption) ?_ | refine Load.one (by rfl) (by with_reducible assumption) ?_ | refine (?_ : Sat _ _ _ _ _ _ _) | refine (?_ : Then _ _ _ _ _ _ _ _)); (first | refine Then.go hmix ?_ | refine Sat.go hmix ?_ | skip); conv => whnf))
    exact ⟨rfl, (K3.trans0 k4).trans0 k5⟩
end
end Go.Proofs.YtmipmlcolaaonaaDoor
