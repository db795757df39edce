/- Helper text of this claim: Ch6: lemmas and contracts that the proved statement rests on; no conditions of its own. -/
import Derived.Test.YtmipmlcolaaonaaDoorCh5
import Derived.Test.YtmipmlcolaaonaaDoorShf
import Derived.Test.YtmipmlcolaaonaaDoorGcs
import Derived.Test.YtmipmlcolaaonaaDoorGws
import Derived.Test.YtmipmlcolaaonaaDoorWcz
-- alias Tryd
namespace Go.Proofs.YtmipmlcolaaonaaDoor
open Go.RowKit Go.Pw Go.Vc Go.Cs Go.Lib
set_option linter.unusedVariables false
set_option maxRecDepth 100000
section
variable {w : World}
theorem cs_next (s : ByteArray) (hT : Tabs w) (h0 : 0 < s.size) (hs : s.size ≤ 100000000) : Calls Tryd.prog 60 #[.string s] w fun e w' =>
    e = .returned (.tuple #[.int .i64 (decodeL (L s)).1, .string (s.extract (decodeL (L s)).2 s.size), .bool (good (L s))]) ∧ Keeps w w' none_ := by
  have hl := L_len s
  have hne := L_ne h0
  have hw := decodeL_width (L s)
  have hle := decodeL_le _ hne
  have hr := decodeL_rune (L s)
  refine calls_of_vc (args := [.string s]) Tryd.func60 rfl (Nat.le_of_ble_eq_true rfl) ?_; refine Sat.go hmix ?_; conv => whnf
  refine CallS.of (Tryd.call87 _ _) (s_decode s w hT h0) ?_
  rintro e w1 ⟨rfl, k1⟩
  unfold good
  generalize (decodeL (L s)).1 = c at *
  generalize (decodeL (L s)).2 = k at *
  refine ⟨_, rfl, ?_⟩; (first | refine Then.go hmix ?_ | refine Sat.go hmix ?_ | refine ResK.go ?_ | skip); conv => whnf
  refine GO ?_
  by_cases hc : c = 65533
  · refine GO ?_
    refine ⟨?_, k1.drew⟩
    rw [wrap_i64 _ (by omega)]
    by_cases hk : k = 1
    · simp [hc, hk]
    · simp [hc, hk]; omega
  · refine GO ?_
    refine ⟨?_, k1.drew⟩
    rw [wrap_i64 _ (by omega)]
    simp [hc]
theorem cs_Valid (s : ByteArray) (hT : Tabs w) (hs : s.size ≤ 100000000) : Calls Tryd.prog 24 #[.string s] w fun e w' => e = .returned (.bool (validD (L s))) ∧ Keeps w w' none_ := by
  refine calls_of_vc (args := [.string s]) Tryd.func24 rfl (Nat.le_of_ble_eq_true rfl) ?_; refine Sat.go hmix ?_; conv => whnf
  refine CallS.of (Tryd.call62 _ _) (s_valid s w hT (by omega)) ?_
  rintro e w1 ⟨rfl, k1⟩
  refine ⟨_, rfl, ?_⟩; (first | refine Then.go hmix ?_ | refine Sat.go hmix ?_ | refine ResK.go ?_ | skip); conv => whnf
  exact ⟨rfl, k1⟩
theorem cs_Runes (s : ByteArray) (hT : Tabs w) (hs : s.size ≤ 100000000) : Calls Tryd.prog 22 #[.string s] w fun e w' => ∃ v, e = .returned v ∧ Rns w' w.heap.size v (runes (L s)) ∧ Keeps w w' none_ := by
  have hrl := (runes_len (L s)).1
  rw [L_len] at hrl
  refine calls_of_vc (args := [.string s]) Tryd.func22 rfl (Nat.le_of_ble_eq_true rfl) ?_; refine Sat.go hmix ?_; conv => whnf
  refine Loop.intro (ι := ByteArray × Option Addr × Nat × List Nat) (fun i => [(0, .string i.1), (2, .slice i.2.1 i.2.2.2.length i.2.2.1)])
    (fun i wr => Keeps w wr none_ ∧ i.1.size ≤ s.size ∧ Rns wr w.heap.size (.slice i.2.1 i.2.2.2.length i.2.2.1) i.2.2.2 ∧ runes (L s) = i.2.2.2 ++ runes (L i.1)) (fun i => i.1.size) (s, none, 0, []) ⟨rfl, rfl, trivial⟩
    ⟨Keeps.refl _ _, Nat.le_refl _, World.ownsRow_nil _ _ _ _, rfl⟩ ?_
  rintro ⟨t, a, cap, d⟩ g wr ⟨hK, hn, hv, he⟩
  dsimp only at hn hv he ⊢
  (first | refine Then.go hmix ?_ | refine Sat.go hmix ?_ | refine ResK.go ?_ | skip); conv => whnf
  by_cases h0 : t.size = 0
  · have e := (empty_iff t).2 h0
    refine Br.not_yes (Br.dec_yes e ?_)
    refine GO ?_
    rw [e] at he
    rw [show runes (L ⟨#[]⟩) = [] from rfl, List.append_nil] at he
    exact ⟨_, rfl, by rw [he]; exact hv, hK⟩
  · have e : ¬ t = ⟨#[]⟩ := fun e => h0 ((empty_iff t).1 e)
    refine Br.not_yes (Br.dec_no e ?_)
    refine GO ?_
    refine CallS.of (Tryd.call60 _ _) (cs_next t (hT.keep hK) (by omega) (by omega)) ?_
    rintro e w1 ⟨rfl, k1⟩
    refine ⟨_, rfl, ?_⟩; (first | refine Then.go hmix ?_ | refine Sat.go hmix ?_ | refine ResK.go ?_ | skip); conv => whnf
    have hne := L_ne (s := t) (by omega)
    have h1 := hv.keep k1
    have K1 := hK.trans0 k1
    have hw := decodeL_width (L t)
    have hd := decodeL_le _ hne
    rw [L_len] at hd
    have hdl : d.length ≤ s.size := by
      rw [he, List.length_append] at hrl
      omega
    refine RunV.of (build_i1 _ _) ?_
    refine GO ?_
    refine app_rune h1 K1.size _ (by omega) fun v' w' h2 hg => ?_
    obtain ⟨a', cap', rfl⟩ := h2.shape
    have K2 := (K1.alloc (.cells #[.int .i64 ((decodeL (L t)).1 : Int)] 3)).own (own_keep0 h1 ((Keeps.refl _ _).alloc _)) (Nat.le_refl _) hg
    refine GO ?_
    have hx : (t.extract (decodeL (L t)).2 t.size).size = t.size - (decodeL (L t)).2 := by simp
    refine ⟨(t.extract (decodeL (L t)).2 t.size, a', cap', d ++ [(decodeL (L t)).1]), ⟨rfl, v_sl (by simp), trivial⟩, ⟨K2, by dsimp only; omega, h2, ?_⟩, by dsimp only; omega⟩
    dsimp only
    rw [he, runes_step _ hne, L_from, List.append_assoc]; rfl
theorem cs_Rune (n : Int) (h64 : -9223372036854775808 ≤ n ∧ n ≤ 9223372036854775807) : Calls Tryd.prog 26 #[.int .i64 n] w fun e w' => e = .returned (.string (str (encodeRune n))) ∧ w = w' := by
  refine calls_of_vc (args := [.int .i64 n]) Tryd.func26 rfl (Nat.le_of_ble_eq_true rfl) ?_; refine Sat.go hmix ?_; conv => whnf
  by_cases h0 : n < 0
  · refine GO ?_
    have : isSign n = false := by
      have h : ¬ (isSign n = true) := by rw [isSign_iff]; omega
      simpa using h
    rw [enc_off n this]
    exact ⟨rfl, rfl⟩
  · by_cases h1 : 1114111 < n
    · refine GO ?_
      have : isSign n = false := by
        have h : ¬ (isSign n = true) := by rw [isSign_iff]; omega
        simpa using h
      rw [enc_off n this]
      exact ⟨rfl, rfl⟩
    · refine GO ?_
      exact ⟨ret_str (by rw [wrap_i32 _ (by omega), encode_str]), rfl⟩
end
end Go.Proofs.YtmipmlcolaaonaaDoor
