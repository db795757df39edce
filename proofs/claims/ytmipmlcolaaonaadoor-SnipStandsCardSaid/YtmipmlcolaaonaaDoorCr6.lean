/- Helper text of this claim: Cr6: lemmas and contracts that the proved statement rests on; no conditions of its own. -/
import Derived.Test.YtmipmlcolaaonaaDoorCr5
import Derived.Test.YtmipmlcolaaonaaDoorGct
import Derived.Lib.AppendStr
import Derived.Test.YtmipmlcolaaonaaDoorCh4
import Derived.Test.YtmipmlcolaaonaaDoorCw14
import Derived.Test.YtmipmlcolaaonaaDoorWcz
-- alias Tryd
namespace Go.Proofs.YtmipmlcolaaonaaDoor
open Go.RowKit Go.Pw Go.Vc Go.Cs Go.Lib
set_option linter.unusedVariables false
set_option maxRecDepth 100000
theorem app_str {w : World} {K : Value → World → Prop} {B : Nat} {v : Value} {l : List UInt8} {cs : Array Bool} (h : Bytes w B v l) (hB : B ≤ w.heap.size) (s : List UInt8) (hl : l.length + s.length ≤ 1000000000000)
    (k : ∀ v' w', Bytes w' B v' (l ++ s) → w.grownBy w' v.ownBlock → K v' w') :
    RunN Tryd.prog (builtin .append #[43, 9] 43 cs [v, .string (str s)].toArray) w K := by
  obtain ⟨i, hi, hi2⟩ := Option.map_eq_some_iff.1 byteInfo
  simp only [Prod.mk.injEq] at hi2
  obtain ⟨z1, z2, z3⟩ := hi2
  obtain ⟨v', w', h1, h2, h3, _⟩ := run_append_own_string (P := Tryd.prog) w B 43 9 43 5 i Tryd.underlying43 Tryd.underlying9 hi z1 z2 z3 v l.length _ h (str s) (by rw [show maxLen = 9223372036854775807 from rfl, str_size]; omega) (by rw [str_size]; omega) hB
  refine ⟨v', w', ?_, k v' w' ?_ h3⟩
  · show (do pure (Next.value (← Builtin.append_ #[43, 9] 43 #[v, .string (str s)])) : Sem Next).run Tryd.prog _ = _
    simp [h1]
  · unfold Bytes
    rw [List.length_append, byteCells_append]
    exact h2
section
variable {w : World}
set_option maxHeartbeats 2000000 in
theorem ref_Fold05 (s : ByteArray) (hs : s.size ≤ 100000000) : Calls Tryd.prog 73 #[.string s] w fun e w' => e = .returned (.string (str (foldL (L s)))) ∧ Keeps w w' none_ := by
  have hl := L_len s
  have hul := units_len (L s)
  have hun := units_unit (L s)
  rw [units_fold]
  refine calls_of_vc (args := [.string s]) Tryd.func73 rfl (Nat.le_of_ble_eq_true rfl) ?_; refine Sat.go hmix ?_; conv => whnf
  refine CallS.of (Tryd.call71 _ _) (ref_Units05 (w := w) s hs) ?_
  rintro e w1 ⟨v1, rfl, hU, k1⟩
  generalize units (L s) = U at *
  obtain ⟨au, cu, rfl, hrd⟩ := own_rd hU
  refine ⟨_, rfl, ?_⟩; (first | refine Then.go hmix ?_ | refine Sat.go hmix ?_ | refine ResK.go ?_ | skip); conv => whnf
  refine GO ?_
  refine Loop.intro (ι := Nat × Option Addr × Nat × List UInt8) (fun i => [(3, .slice au U.length cu), (4, .slice i.2.1 i.2.2.2.length i.2.2.1), (5, .int .i64 (i.1 : Nat))])
    (fun i wr => Keeps w1 wr none_ ∧ i.1 ≤ U.length ∧ Bytes wr w1.heap.size (.slice i.2.1 i.2.2.2.length i.2.2.1) i.2.2.2 ∧ i.2.2.2 = (U.take i.1).flatMap head1 ∧ i.2.2.2.length ≤ 4 * i.1) (fun i => U.length - i.1) (0, none, 0, []) ⟨rfl, rfl, rfl, trivial⟩
    ⟨Keeps.refl _ _, Nat.zero_le _, World.ownsRow_nil _ _ _ _, rfl, Nat.le_refl _⟩ ?_
  rintro ⟨n, b, bc, d⟩ g wr ⟨hK, hn, hv, he, hd⟩
  dsimp only at hn hv he hd ⊢
  (first | refine Then.go hmix ?_ | refine Sat.go hmix ?_ | refine ResK.go ?_ | skip); conv => whnf
  by_cases hlt : n < U.length
  · obtain ⟨gu, rfl, hg, hat⟩ := hrd (by omega)
    have c0 : wr.cell? ⟨gu, 0 + n, none⟩ = some (.string (str U[n])) := at_text (at_keep hat hK) hlt
    have hu := hun U[n] (List.getElem_mem hlt)
    have hstep : (U.take (n + 1)).flatMap head1 = (U.take n).flatMap head1 ++ head1 U[n] := by
      rw [List.take_succ_eq_append_getElem hlt, List.flatMap_append]; simp
    have hul1 := unit_le4 _ hu
    have hul0 : 0 < U[n].length := List.length_pos_iff.2 hu.1
    have hu1 := unit1 U[n] hu
    have hu2 := unit2 U[n] hu
    have hu3 := unit3 U[n] hu
    generalize U[n] = u at *
    have hsz : (str u).size = u.length := str_size u
    by_cases q1 : u.length = 1
    · obtain ⟨x, rfl, hx⟩ := hu1 q1
      have hb : byteAt (str [x]) 0 = x := rfl
      have hx0 := UInt8.toNat_lt x
      refine GO ?_
      rw [hb, wrap_i64 _ (by omega)]
      rcases hx with ⟨h128, hh⟩ | ⟨h128, hlow, hh⟩
      · refine GO ?_
        rw [wrap_u8 _ (by omega)]
        refine RunV.of (build_b1 _ _) ?_
        refine GO ?_
        refine app_byte hv hK.size x (by omega) fun v' w' h3 hg3 => ?_
        obtain ⟨a3, c3, rfl⟩ := h3.shape
        have K3 := (hK.alloc (.cells #[.int .u8 (x.toNat : Int)] 5)).own (hv.keep ((Keeps.refl _ _).alloc _)) (Nat.le_refl _) hg3
        refine GO ?_
        exact ⟨(n + 1, a3, c3, d ++ [x]), ⟨rfl, rfl, v_int (by simp), trivial⟩, ⟨K3, by dsimp only; omega, h3, by dsimp only; rw [he, hstep, hh], by simp; omega⟩, by dsimp only; omega⟩
      · refine GO ?_
        refine CallS.of (Tryd.call93 _ _) (ref_lower05 (w := wr) x.toNat (by omega)) ?_
        rintro e w2 ⟨rfl, rfl⟩
        refine ⟨_, rfl, ?_⟩; (first | refine Then.go hmix ?_ | refine Sat.go hmix ?_ | refine ResK.go ?_ | skip); conv => whnf
        refine GO ?_
        have e8 : ((lowC x.toNat : Nat) : Int) = (((UInt8.ofNat (lowC x.toNat)).toNat : Nat) : Int) := by
          rw [UInt8.toNat_ofNat']; omega
        rw [wrap_u8 _ (by omega), e8]
        refine RunV.of (build_b1 _ _) ?_
        refine GO ?_
        refine app_byte hv hK.size (UInt8.ofNat (lowC x.toNat)) (by omega) fun v' w' h3 hg3 => ?_
        obtain ⟨a3, c3, rfl⟩ := h3.shape
        have K3 := (hK.alloc (.cells #[.int .u8 ((UInt8.ofNat (lowC x.toNat)).toNat : Int)] 5)).own (hv.keep ((Keeps.refl _ _).alloc _)) (Nat.le_refl _) hg3
        refine GO ?_
        exact ⟨(n + 1, a3, c3, d ++ [UInt8.ofNat (lowC x.toNat)]), ⟨rfl, rfl, v_int (by simp), trivial⟩, ⟨K3, by dsimp only; omega, h3, by dsimp only; rw [he, hstep, hh], by simp; omega⟩, by dsimp only; omega⟩
    by_cases q2 : u.length = 2
    · obtain ⟨hl1, hl2, hr2, hh⟩ := hu2 q2
      refine GO ?_
      refine CallS.of (Tryd.call92 _ _) (ref_Rune05 (w := wr) (str u) (by omega) (by omega)) ?_
      rintro e w2 ⟨rfl, rfl⟩
      rw [L_str]
      refine ⟨_, rfl, ?_⟩; (first | refine Then.go hmix ?_ | refine Sat.go hmix ?_ | refine ResK.go ?_ | skip); conv => whnf
      refine CallS.of (Tryd.call93 _ _) (ref_lower05 (w := wr) (runeU u) (by omega)) ?_
      rintro e w2 ⟨rfl, rfl⟩
      refine ⟨_, rfl, ?_⟩; (first | refine Then.go hmix ?_ | refine Sat.go hmix ?_ | refine ResK.go ?_ | skip); conv => whnf
      generalize lowC (runeU u) = r at *
      have e1 : (r : Int).tdiv 64 = ((r / 64 : Nat) : Int) := by rw [Int.tdiv_eq_ediv_of_nonneg (by omega)]; rfl
      have e2 : (r : Int).tmod 64 = ((r % 64 : Nat) : Int) := by rw [Int.tmod_eq_emod_of_nonneg (by omega)]; rfl
      have e3 : (192 : Int) + ((r / 64 : Nat) : Int) = (((UInt8.ofNat (192 + r / 64)).toNat : Nat) : Int) := by
        rw [UInt8.toNat_ofNat']; omega
      have e4 : (128 : Int) + ((r % 64 : Nat) : Int) = (((UInt8.ofNat (128 + r % 64)).toNat : Nat) : Int) := by
        rw [UInt8.toNat_ofNat']; omega
      rw [e1, wrap_i64 _ (by omega)]
      refine GO ?_
      rw [wrap_u8 _ (by omega), e2, e3, e4]
      refine GO ?_
      rw [wrap_u8 _ (by have := UInt8.toNat_lt (UInt8.ofNat (128 + r % 64)); omega)]
      refine RunV.of (build_b2 _ _ _) ?_
      refine GO ?_
      refine app_bytes (hv.keep ((Keeps.refl _ _).alloc _)) (Nat.le_trans hK.size ((Keeps.refl wr none_).alloc _).size) (l' := [UInt8.ofNat (192 + r / 64), UInt8.ofNat (128 + r % 64)]) (own_lit1 wr #[.int .u8 ((UInt8.ofNat (192 + r / 64)).toNat : Int), .int .u8 ((UInt8.ofNat (128 + r % 64)).toNat : Int)] 5 2 rfl (by omega)) (by simp) (by simp; omega) fun v' w' h3 hg3 => ?_
      obtain ⟨a3, c3, rfl⟩ := h3.shape
      have K3 := (hK.alloc _).own (hv.keep ((Keeps.refl _ _).alloc _)) (Nat.le_refl _) hg3
      refine GO ?_
      exact ⟨(n + 1, a3, c3, d ++ [UInt8.ofNat (192 + r / 64), UInt8.ofNat (128 + r % 64)]), ⟨rfl, rfl, v_int (by simp), trivial⟩, ⟨K3, by dsimp only; omega, h3, by dsimp only; rw [he, hstep, hh], by simp; omega⟩, by dsimp only; omega⟩
    · rw [hu3 (by omega)] at hstep
      refine GO ?_
      refine app_str hv hK.size u (by omega) fun v' w' h3 hg3 => ?_
      obtain ⟨a3, c3, rfl⟩ := h3.shape
      have K3 := hK.own hv (Nat.le_refl _) hg3
      refine GO ?_
      exact ⟨(n + 1, a3, c3, d ++ u), ⟨rfl, rfl, v_int (by simp), trivial⟩, ⟨K3, by dsimp only; omega, h3, by dsimp only; rw [he, hstep], by simp; omega⟩, by dsimp only; omega⟩
  · refine GO ?_
    have hnn : n = U.length := by omega
    subst hnn
    rw [List.take_length] at he
    refine RunV.str (l := d) Tryd.underlying43 Tryd.underlying5 Tryd.underlying9 hv ?_
    (first | refine Then.go hmix ?_ | refine Sat.go hmix ?_ | refine ResK.go ?_ | skip); conv => whnf
    refine ⟨ret_str ?_, k1.trans0 hK⟩
    rw [he]; rfl
end
end Go.Proofs.YtmipmlcolaaonaaDoor
