/- Helper text of this claim: Ch9: lemmas and contracts that the proved statement rests on; no conditions of its own. -/
-- alias Tryd
import Derived.Test.YtmipmlcolaaonaaDoorCh8
import Derived.Test.YtmipmlcolaaonaaDoorWsB
namespace Go.Proofs.YtmipmlcolaaonaaDoor
open Go.RowKit Go.Pw Go.Vc Go.Cs Go.Lib
set_option linter.unusedVariables false
set_option maxRecDepth 100000
section
variable {w : World}
theorem cs_small (s : ByteArray) (hs : s.size ≤ 100000000) : Calls Tryd.prog 55 #[.string s] w fun e w' => e = .returned (.string (str ((L s).map lowerB))) ∧ Keeps w w' none_ := by
  have hl := L_len s
  refine calls_of_vc (args := [.string s]) Tryd.func55 rfl (Nat.le_of_ble_eq_true rfl) ?_; refine Sat.go hmix ?_; conv => whnf
  refine RunV.of (Lib.run_convert_string_bytes w _ _ 5 s Tryd.underlying9 Tryd.underlying43 Tryd.underlying5) ?_
  (repeat ((first | refine Num.i64 (by omega) (by omega) ?_ | refine Num.i32 (by omega) (by omega) ?_ | refine Num.u8 (by omega) (by omega) ?_ | refine Br.tt ?_ | refine Br.ff ?_ | refine Br.not_yes ?_ | refine Br.dec_yes (by omega) ?_ | refine Br.dec_no (by omega) ?_ | refine Br.beq_yes (by omega) ?_ | refine Br.beq_no (by omega) ?_ | refine Br.bne_yes (by omega) ?_ | refine Br.bne_no (by omega) ?_ | refine Draw.text (by decide +kernel) ?_ | refine Idx.lit (j := 0) rfl (by omega) ?_ | refine Idx.lit (j := 1) rfl (by omega) ?_ | refine Idx.lit (j := 2) rfl (by omega) ?_ | refine Idx.lit (j := 3) rfl (by omega) ?_ | refine Idx.lit (j := 4) rfl (by omega) ?_ | refine Idx.lit (j := 5) rfl (by omega) ?_ | refine Idx.lit (j := 6) rfl (by omega) ?_ | refine Idx.lit (j := 7) rfl (by omega) ?_ | refine Idx.nat (by omega) ?_ | refine Idx.int (by omega) (by omega) ?_ | refine Cut.to (by omega) ?_ | refine Cut.from (by omega) (by omega) ?_ | refine Cut.both (by omega) (by omega) ?_ | refine Br.dec_yes (by with_reducible assumption) ?_ | refine Br.dec_no (by with_reducible assumption) ?_ | refine Br.yes (by with_reducible assumption) ?_ | refine Br.no (by with_reducible assumption) ?_ | refine Load.one (by rfl) (by with_reducible assumption) ?_ | refine (?_ : Sat _ _ _ _ _ _ _) | refine (?_ : Then _ _ _ _ _ _ _ _)); (first | refine Then.go hmix ?_ | refine Sat.go hmix ?_ | skip); conv => whnf))
  obtain ⟨h0, K0⟩ := bytes_made w 5 s
  generalize grownCap w s.size 0 5 = cap at *
  generalize Lib.bytesWorld w 5 s = w0 at *
  refine Loop.intro (ι := Nat) (fun i => [(3, .slice (some ⟨w.heap.size, 0, none⟩) s.size cap), (8, .slice (some ⟨w.heap.size, 0, none⟩) s.size cap), (9, .int .i64 s.size), (10, .int .i64 i)])
    (fun i wr => Keeps w wr none_ ∧ i ≤ s.size ∧ Bs wr w.heap.size (((L s).take i).map lowerB ++ (L s).drop i)) (fun i => s.size - i) 0 ⟨rfl, rfl, rfl, rfl, trivial⟩
    ⟨K0, Nat.zero_le _, h0⟩ ?_
  rintro n g wr ⟨hK, hn, hr⟩
  (first | refine Then.go hmix ?_ | refine Sat.go hmix ?_ | refine ResK.go ?_ | skip); conv => whnf
  by_cases hlt : n < s.size
  · obtain ⟨x, hx0, hx1, hx2, hx3⟩ := take_byte s n hlt
    have hlen : (((L s).take n).map lowerB).length = n := by rw [List.length_map, List.length_take]; omega
    have hlen2 : (((L s).take n).map lowerB ++ (L s).drop n).length = s.size := by rw [List.length_append, hlen, List.length_drop]; omega
    have hc := hr.cell (i := n) (by omega)
    have hget : (((L s).take n).map lowerB ++ (L s).drop n).getD n 0 = x := by
      rw [List.getD, List.getElem?_append_right (by omega), hlen, Nat.sub_self, hx3]; rfl
    rw [hget] at hc
    (repeat ((first | refine Num.i64 (by omega) (by omega) ?_ | refine Num.i32 (by omega) (by omega) ?_ | refine Num.u8 (by omega) (by omega) ?_ | refine Br.tt ?_ | refine Br.ff ?_ | refine Br.not_yes ?_ | refine Br.dec_yes (by omega) ?_ | refine Br.dec_no (by omega) ?_ | refine Br.beq_yes (by omega) ?_ | refine Br.beq_no (by omega) ?_ | refine Br.bne_yes (by omega) ?_ | refine Br.bne_no (by omega) ?_ | refine Draw.text (by decide +kernel) ?_ | refine Idx.lit (j := 0) rfl (by omega) ?_ | refine Idx.lit (j := 1) rfl (by omega) ?_ | refine Idx.lit (j := 2) rfl (by omega) ?_ | refine Idx.lit (j := 3) rfl (by omega) ?_ | refine Idx.lit (j := 4) rfl (by omega) ?_ | refine Idx.lit (j := 5) rfl (by omega) ?_ | refine Idx.lit (j := 6) rfl (by omega) ?_ | refine Idx.lit (j := 7) rfl (by omega) ?_ | refine Idx.nat (by omega) ?_ | refine Idx.int (by omega) (by omega) ?_ | refine Cut.to (by omega) ?_ | refine Cut.from (by omega) (by omega) ?_ | refine Cut.both (by omega) (by omega) ?_ | refine Br.dec_yes (by with_reducible assumption) ?_ | refine Br.dec_no (by with_reducible assumption) ?_ | refine Br.yes (by with_reducible assumption) ?_ | refine Br.no (by with_reducible assumption) ?_ | refine Load.one (by rfl) (by with_reducible assumption) ?_ | refine (?_ : Sat _ _ _ _ _ _ _) | refine (?_ : Then _ _ _ _ _ _ _ _)); (first | refine Then.go hmix ?_ | refine Sat.go hmix ?_ | skip); conv => whnf))
    have hxl := UInt8.toNat_lt x
    by_cases h1 : 65 ≤ x.toNat
    · by_cases h2 : x.toNat ≤ 90
      · (repeat ((first | refine Num.i64 (by omega) (by omega) ?_ | refine Num.i32 (by omega) (by omega) ?_ | refine Num.u8 (by omega) (by omega) ?_ | refine Br.tt ?_ | refine Br.ff ?_ | refine Br.not_yes ?_ | refine Br.dec_yes (by omega) ?_ | refine Br.dec_no (by omega) ?_ | refine Br.beq_yes (by omega) ?_ | refine Br.beq_no (by omega) ?_ | refine Br.bne_yes (by omega) ?_ | refine Br.bne_no (by omega) ?_ | refine Draw.text (by decide +kernel) ?_ | refine Idx.lit (j := 0) rfl (by omega) ?_ | refine Idx.lit (j := 1) rfl (by omega) ?_ | refine Idx.lit (j := 2) rfl (by omega) ?_ | refine Idx.lit (j := 3) rfl (by omega) ?_ | refine Idx.lit (j := 4) rfl (by omega) ?_ | refine Idx.lit (j := 5) rfl (by omega) ?_ | refine Idx.lit (j := 6) rfl (by omega) ?_ | refine Idx.lit (j := 7) rfl (by omega) ?_ | refine Idx.nat (by omega) ?_ | refine Idx.int (by omega) (by omega) ?_ | refine Cut.to (by omega) ?_ | refine Cut.from (by omega) (by omega) ?_ | refine Cut.both (by omega) (by omega) ?_ | refine Br.dec_yes (by with_reducible assumption) ?_ | refine Br.dec_no (by with_reducible assumption) ?_ | refine Br.yes (by with_reducible assumption) ?_ | refine Br.no (by with_reducible assumption) ?_ | refine Load.one (by rfl) (by with_reducible assumption) ?_ | refine (?_ : Sat _ _ _ _ _ _ _) | refine (?_ : Then _ _ _ _ _ _ _ _)); (first | refine Then.go hmix ?_ | refine Sat.go hmix ?_ | skip); conv => whnf))
        have e : ((x.toNat : Nat) : Int) + 97 - 65 = ((lowerB x).toNat : Int) := by
          unfold lowerB; rw [if_pos ⟨h1, h2⟩]; simp; omega
        rw [e]
        obtain ⟨⟨u, s1⟩, s2, s3⟩ := hr.store (i := n) (by omega) (lowerB x)
        refine Store.one (by rfl) ⟨rfl, by simp, by simp⟩ s1 s2 ?_
        have K1 := hK.setCell (p := ⟨w.heap.size, 0 + n, none⟩) (.inr (Nat.le_refl _)) (.int .u8 ((lowerB x).toNat : Int))
        generalize wr.setCell ⟨w.heap.size, 0 + n, none⟩ (.int .u8 ((lowerB x).toNat : Int)) = w2 at *
        (repeat ((first | refine Num.i64 (by omega) (by omega) ?_ | refine Num.i32 (by omega) (by omega) ?_ | refine Num.u8 (by omega) (by omega) ?_ | refine Br.tt ?_ | refine Br.ff ?_ | refine Br.not_yes ?_ | refine Br.dec_yes (by omega) ?_ | refine Br.dec_no (by omega) ?_ | refine Br.beq_yes (by omega) ?_ | refine Br.beq_no (by omega) ?_ | refine Br.bne_yes (by omega) ?_ | refine Br.bne_no (by omega) ?_ | refine Draw.text (by decide +kernel) ?_ | refine Idx.lit (j := 0) rfl (by omega) ?_ | refine Idx.lit (j := 1) rfl (by omega) ?_ | refine Idx.lit (j := 2) rfl (by omega) ?_ | refine Idx.lit (j := 3) rfl (by omega) ?_ | refine Idx.lit (j := 4) rfl (by omega) ?_ | refine Idx.lit (j := 5) rfl (by omega) ?_ | refine Idx.lit (j := 6) rfl (by omega) ?_ | refine Idx.lit (j := 7) rfl (by omega) ?_ | refine Idx.nat (by omega) ?_ | refine Idx.int (by omega) (by omega) ?_ | refine Cut.to (by omega) ?_ | refine Cut.from (by omega) (by omega) ?_ | refine Cut.both (by omega) (by omega) ?_ | refine Br.dec_yes (by with_reducible assumption) ?_ | refine Br.dec_no (by with_reducible assumption) ?_ | refine Br.yes (by with_reducible assumption) ?_ | refine Br.no (by with_reducible assumption) ?_ | refine Load.one (by rfl) (by with_reducible assumption) ?_ | refine (?_ : Sat _ _ _ _ _ _ _) | refine (?_ : Then _ _ _ _ _ _ _ _)); (first | refine Then.go hmix ?_ | refine Sat.go hmix ?_ | skip); conv => whnf))
        refine ⟨n + 1, ⟨rfl, rfl, rfl, v_int (by simp), trivial⟩, ⟨K1, by omega, ?_⟩, by dsimp only; omega⟩
        rw [List.set_append_right _ _ (by omega), hlen, Nat.sub_self, hx3, List.set_cons_zero] at s3
        rw [hx2, List.map_append, List.append_assoc]; exact s3
      · (repeat ((first | refine Num.i64 (by omega) (by omega) ?_ | refine Num.i32 (by omega) (by omega) ?_ | refine Num.u8 (by omega) (by omega) ?_ | refine Br.tt ?_ | refine Br.ff ?_ | refine Br.not_yes ?_ | refine Br.dec_yes (by omega) ?_ | refine Br.dec_no (by omega) ?_ | refine Br.beq_yes (by omega) ?_ | refine Br.beq_no (by omega) ?_ | refine Br.bne_yes (by omega) ?_ | refine Br.bne_no (by omega) ?_ | refine Draw.text (by decide +kernel) ?_ | refine Idx.lit (j := 0) rfl (by omega) ?_ | refine Idx.lit (j := 1) rfl (by omega) ?_ | refine Idx.lit (j := 2) rfl (by omega) ?_ | refine Idx.lit (j := 3) rfl (by omega) ?_ | refine Idx.lit (j := 4) rfl (by omega) ?_ | refine Idx.lit (j := 5) rfl (by omega) ?_ | refine Idx.lit (j := 6) rfl (by omega) ?_ | refine Idx.lit (j := 7) rfl (by omega) ?_ | refine Idx.nat (by omega) ?_ | refine Idx.int (by omega) (by omega) ?_ | refine Cut.to (by omega) ?_ | refine Cut.from (by omega) (by omega) ?_ | refine Cut.both (by omega) (by omega) ?_ | refine Br.dec_yes (by with_reducible assumption) ?_ | refine Br.dec_no (by with_reducible assumption) ?_ | refine Br.yes (by with_reducible assumption) ?_ | refine Br.no (by with_reducible assumption) ?_ | refine Load.one (by rfl) (by with_reducible assumption) ?_ | refine (?_ : Sat _ _ _ _ _ _ _) | refine (?_ : Then _ _ _ _ _ _ _ _)); (first | refine Then.go hmix ?_ | refine Sat.go hmix ?_ | skip); conv => whnf))
        have e : lowerB x = x := by unfold lowerB; rw [if_neg (by omega)]
        refine ⟨n + 1, ⟨rfl, rfl, rfl, v_int (by simp), trivial⟩, ⟨hK, by omega, ?_⟩, by dsimp only; omega⟩
        rw [hx3] at hr
        rw [hx2, List.map_append, List.append_assoc, List.map_cons, e]; exact hr
    · (repeat ((first | refine Num.i64 (by omega) (by omega) ?_ | refine Num.i32 (by omega) (by omega) ?_ | refine Num.u8 (by omega) (by omega) ?_ | refine Br.tt ?_ | refine Br.ff ?_ | refine Br.not_yes ?_ | refine Br.dec_yes (by omega) ?_ | refine Br.dec_no (by omega) ?_ | refine Br.beq_yes (by omega) ?_ | refine Br.beq_no (by omega) ?_ | refine Br.bne_yes (by omega) ?_ | refine Br.bne_no (by omega) ?_ | refine Draw.text (by decide +kernel) ?_ | refine Idx.lit (j := 0) rfl (by omega) ?_ | refine Idx.lit (j := 1) rfl (by omega) ?_ | refine Idx.lit (j := 2) rfl (by omega) ?_ | refine Idx.lit (j := 3) rfl (by omega) ?_ | refine Idx.lit (j := 4) rfl (by omega) ?_ | refine Idx.lit (j := 5) rfl (by omega) ?_ | refine Idx.lit (j := 6) rfl (by omega) ?_ | refine Idx.lit (j := 7) rfl (by omega) ?_ | refine Idx.nat (by omega) ?_ | refine Idx.int (by omega) (by omega) ?_ | refine Cut.to (by omega) ?_ | refine Cut.from (by omega) (by omega) ?_ | refine Cut.both (by omega) (by omega) ?_ | refine Br.dec_yes (by with_reducible assumption) ?_ | refine Br.dec_no (by with_reducible assumption) ?_ | refine Br.yes (by with_reducible assumption) ?_ | refine Br.no (by with_reducible assumption) ?_ | refine Load.one (by rfl) (by with_reducible assumption) ?_ | refine (?_ : Sat _ _ _ _ _ _ _) | refine (?_ : Then _ _ _ _ _ _ _ _)); (first | refine Then.go hmix ?_ | refine Sat.go hmix ?_ | skip); conv => whnf))
      have e : lowerB x = x := by unfold lowerB; rw [if_neg (by omega)]
      refine ⟨n + 1, ⟨rfl, rfl, rfl, v_int (by simp), trivial⟩, ⟨hK, by omega, ?_⟩, by dsimp only; omega⟩
      rw [hx3] at hr
      rw [hx2, List.map_append, List.append_assoc, List.map_cons, e]; exact hr
  · (repeat ((first | refine Num.i64 (by omega) (by omega) ?_ | refine Num.i32 (by omega) (by omega) ?_ | refine Num.u8 (by omega) (by omega) ?_ | refine Br.tt ?_ | refine Br.ff ?_ | refine Br.not_yes ?_ | refine Br.dec_yes (by omega) ?_ | refine Br.dec_no (by omega) ?_ | refine Br.beq_yes (by omega) ?_ | refine Br.beq_no (by omega) ?_ | refine Br.bne_yes (by omega) ?_ | refine Br.bne_no (by omega) ?_ | refine Draw.text (by decide +kernel) ?_ | refine Idx.lit (j := 0) rfl (by omega) ?_ | refine Idx.lit (j := 1) rfl (by omega) ?_ | refine Idx.lit (j := 2) rfl (by omega) ?_ | refine Idx.lit (j := 3) rfl (by omega) ?_ | refine Idx.lit (j := 4) rfl (by omega) ?_ | refine Idx.lit (j := 5) rfl (by omega) ?_ | refine Idx.lit (j := 6) rfl (by omega) ?_ | refine Idx.lit (j := 7) rfl (by omega) ?_ | refine Idx.nat (by omega) ?_ | refine Idx.int (by omega) (by omega) ?_ | refine Cut.to (by omega) ?_ | refine Cut.from (by omega) (by omega) ?_ | refine Cut.both (by omega) (by omega) ?_ | refine Br.dec_yes (by with_reducible assumption) ?_ | refine Br.dec_no (by with_reducible assumption) ?_ | refine Br.yes (by with_reducible assumption) ?_ | refine Br.no (by with_reducible assumption) ?_ | refine Load.one (by rfl) (by with_reducible assumption) ?_ | refine (?_ : Sat _ _ _ _ _ _ _) | refine (?_ : Then _ _ _ _ _ _ _ _)); (first | refine Then.go hmix ?_ | refine Sat.go hmix ?_ | skip); conv => whnf))
    have hnn : n = s.size := by omega
    rw [hnn, ← hl, List.take_length, List.drop_length, List.append_nil] at hr
    have hll : s.size = ((L s).map lowerB).length := by rw [List.length_map]; exact hl.symm
    rw [hll]
    refine RunV.back Tryd.underlying43 Tryd.underlying5 Tryd.underlying9 hr ?_
    (repeat ((first | refine Num.i64 (by omega) (by omega) ?_ | refine Num.i32 (by omega) (by omega) ?_ | refine Num.u8 (by omega) (by omega) ?_ | refine Br.tt ?_ | refine Br.ff ?_ | refine Br.not_yes ?_ | refine Br.dec_yes (by omega) ?_ | refine Br.dec_no (by omega) ?_ | refine Br.beq_yes (by omega) ?_ | refine Br.beq_no (by omega) ?_ | refine Br.bne_yes (by omega) ?_ | refine Br.bne_no (by omega) ?_ | refine Draw.text (by decide +kernel) ?_ | refine Idx.lit (j := 0) rfl (by omega) ?_ | refine Idx.lit (j := 1) rfl (by omega) ?_ | refine Idx.lit (j := 2) rfl (by omega) ?_ | refine Idx.lit (j := 3) rfl (by omega) ?_ | refine Idx.lit (j := 4) rfl (by omega) ?_ | refine Idx.lit (j := 5) rfl (by omega) ?_ | refine Idx.lit (j := 6) rfl (by omega) ?_ | refine Idx.lit (j := 7) rfl (by omega) ?_ | refine Idx.nat (by omega) ?_ | refine Idx.int (by omega) (by omega) ?_ | refine Cut.to (by omega) ?_ | refine Cut.from (by omega) (by omega) ?_ | refine Cut.both (by omega) (by omega) ?_ | refine Br.dec_yes (by with_reducible assumption) ?_ | refine Br.dec_no (by with_reducible assumption) ?_ | refine Br.yes (by with_reducible assumption) ?_ | refine Br.no (by with_reducible assumption) ?_ | refine Load.one (by rfl) (by with_reducible assumption) ?_ | refine (?_ : Sat _ _ _ _ _ _ _) | refine (?_ : Then _ _ _ _ _ _ _ _)); (first | refine Then.go hmix ?_ | refine Sat.go hmix ?_ | skip); conv => whnf))
    exact ⟨rfl, hK⟩
/-- The decoder of bytes whose sign function stands in block b. -/
def fb (b : Nat) : Value := .func (.func 85) #[] #[.pointer (some ⟨b, 0, none⟩)]
def fr : Value := .func (.func 28) #[] #[]
def tbl (b1 b2 b3 : Nat) : SM := [(str nmUsAscii, fb b1), (str nmAscii, fb b1), (str nmUtf_8, fr), (str nmUtf8, fr), (str nmIso, fb b2), (str nmLatin1, fb b2), (str nmWin, fb b3), (str nmCp, fb b3)]
theorem tbl_get (b1 b2 b3 : Nat) (m : List UInt8) : (tbl b1 b2 b3).get (str m) = if kindL m = 1 then some (fb b1) else if kindL m = 2 then some fr else if kindL m = 3 then some (fb b2) else if kindL m = 4 then some (fb b3) else none := by
  unfold tbl kindL
  simp only [SM.get, str_inj]
  by_cases h0 : m = nmUsAscii
  · simp only [if_pos h0]; rfl
  simp only [if_neg h0]
  by_cases h1 : m = nmAscii
  · simp only [if_pos h1]; rfl
  simp only [if_neg h1]
  by_cases h2 : m = nmUtf_8
  · simp only [if_pos h2]; rfl
  simp only [if_neg h2]
  by_cases h3 : m = nmUtf8
  · simp only [if_pos h3]; rfl
  simp only [if_neg h3]
  by_cases h4 : m = nmIso
  · simp only [if_pos h4]; rfl
  simp only [if_neg h4]
  by_cases h5 : m = nmLatin1
  · simp only [if_pos h5]; rfl
  simp only [if_neg h5]
  by_cases h6 : m = nmWin
  · simp only [if_pos h6]; rfl
  simp only [if_neg h6]
  by_cases h7 : m = nmCp
  · simp only [if_pos h7]; rfl
  simp only [if_neg h7]
  rfl
theorem keeps_o {w0 w w' : World} {b : Nat} (k : Keeps w0 w none_) (k' : Keeps w w' (one_ b)) (hb : w0.heap.size ≤ b) : Keeps w0 w' none_ := k.trans k' fun i hi h => by
  have h : i = b := h
  omega
set_option maxHeartbeats 1000000 in
theorem cs_readers : Calls Tryd.prog 54 #[] w fun e w' => ∃ b b1 b2 b3, e = .returned (.map (some b)) ∧ SMap w' b (tbl b1 b2 b3) ∧ w'.cell? ⟨b1, 0, none⟩ = some (.func (.func 83) #[] #[]) ∧ w'.cell? ⟨b2, 0, none⟩ = some (.func (.func 84) #[] #[]) ∧
    w'.cell? ⟨b3, 0, none⟩ = some (.func (.func 57) #[] #[]) ∧ Keeps w w' none_ := by
  refine calls_of_vc (args := []) Tryd.func54 rfl (Nat.le_of_ble_eq_true rfl) ?_; refine Sat.go hmix ?_; conv => whnf
  refine CallS.of (Tryd.call56 _ _) (cs_bytewise 83) ?_
  rintro e w1 ⟨b1, rfl, c1, k1⟩
  refine ⟨_, rfl, ?_⟩; (first | refine Then.go hmix ?_ | refine Sat.go hmix ?_ | refine ResK.go ?_ | skip); conv => whnf
  refine CallS.of (Tryd.call56 _ _) (cs_bytewise 84) ?_
  rintro e w2 ⟨b2, rfl, c2, k2⟩
  refine ⟨_, rfl, ?_⟩; (first | refine Then.go hmix ?_ | refine Sat.go hmix ?_ | refine ResK.go ?_ | skip); conv => whnf
  refine CallS.of (Tryd.call56 _ _) (cs_bytewise 57) ?_
  rintro e w3 ⟨b3, rfl, c3, k3⟩
  refine ⟨_, rfl, ?_⟩; (first | refine Then.go hmix ?_ | refine Sat.go hmix ?_ | refine ResK.go ?_ | skip); conv => whnf
  have K3 := (k1.trans0 k2).trans0 k3
  have c1 := (k3.cell (p := ⟨b1, 0, none⟩) (Nat.lt_of_lt_of_le (cell_lt c1) k2.size) id).trans ((k2.cell (p := ⟨b1, 0, none⟩) (cell_lt c1) id).trans c1)
  have c2 := (k3.cell (p := ⟨b2, 0, none⟩) (cell_lt c2) id).trans c2
  refine RunV.of (w' := w3.alloc (.map #[] 0)) (v := .map (some w3.heap.size)) (by simp [Instr.makeMap]) ?_
  (first | refine Then.go hmix ?_ | refine Sat.go hmix ?_ | refine ResK.go ?_ | skip); conv => whnf
  have m0 : SMap (w3.alloc (.map #[] 0)) w3.heap.size [] := ⟨_, _, heap_alloc_new _ _, rfl⟩
  have k4 : Keeps w3 (w3.alloc (.map #[] 0)) none_ := (Keeps.refl _ _).alloc _
  generalize w3.alloc (.map #[] 0) = w4 at *
  have K4 := K3.trans0 k4
  refine RunU.upd Tryd.underlying58 Tryd.underlying9 m0 (str nmUsAscii) (fb b1) fun w5 m1 k5 => ?_
  rw [SM.put_newL _ _ _ [] rfl (by decide +kernel)] at m1
  have K5 := keeps_o K4 k5 K3.size
  (first | refine Then.go hmix ?_ | refine Sat.go hmix ?_ | refine ResK.go ?_ | skip); conv => whnf
  refine RunU.upd Tryd.underlying58 Tryd.underlying9 m1 (str nmAscii) (fb b1) fun w6 m2 k6 => ?_
  rw [SM.put_newL _ _ _ [nmUsAscii] rfl (by decide +kernel)] at m2
  have K6 := keeps_o K5 k6 K3.size
  (first | refine Then.go hmix ?_ | refine Sat.go hmix ?_ | refine ResK.go ?_ | skip); conv => whnf
  refine RunU.upd Tryd.underlying58 Tryd.underlying9 m2 (str nmUtf_8) (fr) fun w7 m3 k7 => ?_
  rw [SM.put_newL _ _ _ [nmUsAscii, nmAscii] rfl (by decide +kernel)] at m3
  have K7 := keeps_o K6 k7 K3.size
  (first | refine Then.go hmix ?_ | refine Sat.go hmix ?_ | refine ResK.go ?_ | skip); conv => whnf
  refine RunU.upd Tryd.underlying58 Tryd.underlying9 m3 (str nmUtf8) (fr) fun w8 m4 k8 => ?_
  rw [SM.put_newL _ _ _ [nmUsAscii, nmAscii, nmUtf_8] rfl (by decide +kernel)] at m4
  have K8 := keeps_o K7 k8 K3.size
  (first | refine Then.go hmix ?_ | refine Sat.go hmix ?_ | refine ResK.go ?_ | skip); conv => whnf
  refine RunU.upd Tryd.underlying58 Tryd.underlying9 m4 (str nmIso) (fb b2) fun w9 m5 k9 => ?_
  rw [SM.put_newL _ _ _ [nmUsAscii, nmAscii, nmUtf_8, nmUtf8] rfl (by decide +kernel)] at m5
  have K9 := keeps_o K8 k9 K3.size
  (first | refine Then.go hmix ?_ | refine Sat.go hmix ?_ | refine ResK.go ?_ | skip); conv => whnf
  refine RunU.upd Tryd.underlying58 Tryd.underlying9 m5 (str nmLatin1) (fb b2) fun w10 m6 k10 => ?_
  rw [SM.put_newL _ _ _ [nmUsAscii, nmAscii, nmUtf_8, nmUtf8, nmIso] rfl (by decide +kernel)] at m6
  have K10 := keeps_o K9 k10 K3.size
  (first | refine Then.go hmix ?_ | refine Sat.go hmix ?_ | refine ResK.go ?_ | skip); conv => whnf
  refine RunU.upd Tryd.underlying58 Tryd.underlying9 m6 (str nmWin) (fb b3) fun w11 m7 k11 => ?_
  rw [SM.put_newL _ _ _ [nmUsAscii, nmAscii, nmUtf_8, nmUtf8, nmIso, nmLatin1] rfl (by decide +kernel)] at m7
  have K11 := keeps_o K10 k11 K3.size
  (first | refine Then.go hmix ?_ | refine Sat.go hmix ?_ | refine ResK.go ?_ | skip); conv => whnf
  refine RunU.upd Tryd.underlying58 Tryd.underlying9 m7 (str nmCp) (fb b3) fun w12 m8 k12 => ?_
  rw [SM.put_newL _ _ _ [nmUsAscii, nmAscii, nmUtf_8, nmUtf8, nmIso, nmLatin1, nmWin] rfl (by decide +kernel)] at m8
  have K12 := keeps_o K11 k12 K3.size
  (first | refine Then.go hmix ?_ | refine Sat.go hmix ?_ | refine ResK.go ?_ | skip); conv => whnf
  have hb {b : Nat} {v : Value} (c : w3.cell? ⟨b, 0, none⟩ = some v) : w12.cell? ⟨b, 0, none⟩ = some v := by
    have hlt : b < w3.heap.size := cell_lt c
    have kk : Keeps w3 w12 (one_ w3.heap.size) := (((((((k4.of_none.trans' k5).trans' k6).trans' k7).trans' k8).trans' k9).trans' k10).trans' k11).trans' k12
    rw [kk.cell (p := ⟨b, 0, none⟩) hlt (fun e => by have e : b = w3.heap.size := e; omega)]
    exact c
  exact ⟨w3.heap.size, b1, b2, b3, rfl, m8, hb c1, hb c2, hb c3, K12⟩
end
end Go.Proofs.YtmipmlcolaaonaaDoor
