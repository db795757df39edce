/- Helper text of this claim: Ch3: lemmas and contracts that the proved statement rests on; no conditions of its own. -/
import Derived.Test.YtmipmlcolaaonaaDoorCh2
import Derived.Test.YtmipmlcolaaonaaDoorWcz
-- alias Tryd
namespace Go.Proofs.YtmipmlcolaaonaaDoor
open Go.RowKit Go.Pw Go.Vc Go.Cs Go.Lib
set_option linter.unusedVariables false
set_option maxRecDepth 100000
/-- A row of code points, the call's own. -/
def Rns (w : World) (B : Nat) (v : Value) (l : List Nat) : Prop := w.ownsRow B 3 1 v l.length (l.map fun (c : Nat) => Value.int .i64 (c : Int))
theorem intInfo : (Tryd.prog.info? 3).map (fun i => (i.zero, i.size, i.bytes)) = some (some (.int .i64 0), 1, 8) := by kernel_rfl
theorem byteInfo : (Tryd.prog.info? 5).map (fun i => (i.zero, i.size, i.bytes)) = some (some (.int .u8 0), 1, 1) := by kernel_rfl
theorem Rns.shape {w : World} {B : Nat} {v : Value} {l : List Nat} (h : Rns w B v l) : ∃ a cap, v = .slice a l.length cap := own_shape h
theorem app_rune {w : World} {K : Value → World → Prop} {B : Nat} {v : Value} {l : List Nat} {cs : Array Bool} (h : Rns w B v l) (hB : B ≤ w.heap.size) (c : Nat) (hl : l.length ≤ 1000000000000)
    (k : ∀ v' w', Rns w' B v' (l ++ [c]) → (w.alloc (.cells #[.int .i64 (c : Int)] 3)).grownBy w' v.ownBlock → K v' w') :
    RunN Tryd.prog (builtin .append #[26, 26] 26 cs [v, .slice (some ⟨w.heap.size, 0, none⟩) 1 1].toArray) (w.alloc (.cells #[.int .i64 (c : Int)] 3)) K := by
  refine RunN.app Tryd.underlying26 intInfo rfl (by decide) (own_keep0 h ((Keeps.refl _ _).alloc _)) (by simp; omega) ⟨w.heap.size, 0, none⟩ 1 1 [.int .i64 (c : Int)] rfl (new_cells _ _ _) (by simp [Value.oneCell']) (by omega) (by omega) fun v' w' h2 h3 => k v' w' ?_ h3
  unfold Rns
  rw [List.length_append, List.map_append]
  exact h2
theorem runes_take (l : List UInt8) (hne : l ≠ []) (d : List Nat) (h : runes l = d ++ runes l) : d = [] := by
  have := congrArg List.length h
  rw [List.length_append] at this
  exact List.eq_nil_of_length_eq_zero (by omega)
section
variable {w : World}
theorem ref_Runes (s : ByteArray) (hs : s.size ≤ 100000000) : Calls Tryd.prog 23 #[.string s] w fun e w' => ∃ v, e = .returned v ∧ Rns w' w.heap.size v (runes (L s)) ∧ Keeps w w' none_ := by
  have hl := L_len s
  refine calls_of_vc (args := [.string s]) Tryd.func23 rfl (Nat.le_of_ble_eq_true rfl) ?_; refine Sat.go hmix ?_; conv => whnf
  refine Loop.intro (ι := Nat × Option Addr × Nat × List Nat) (fun i => [(0, .string s), (3, .slice i.2.1 i.2.2.2.length i.2.2.1), (4, .int .i64 i.1)])
    (fun i wr => Keeps w wr none_ ∧ i.1 ≤ s.size ∧ Rns wr w.heap.size (.slice i.2.1 i.2.2.2.length i.2.2.1) i.2.2.2 ∧ runes (L s) = i.2.2.2 ++ runes ((L s).drop i.1)) (fun i => s.size - i.1) (0, none, 0, []) ⟨rfl, rfl, rfl, trivial⟩
    ⟨Keeps.refl _ _, Nat.zero_le _, World.ownsRow_nil _ _ _ _, rfl⟩ ?_
  rintro ⟨n, a, cap, d⟩ g wr ⟨hK, hn, hv, he⟩
  dsimp only at hn hv he ⊢
  (first | refine Then.go hmix ?_ | refine Sat.go hmix ?_ | refine ResK.go ?_ | skip); conv => whnf
  by_cases hlt : n < s.size
  · refine GO ?_
    have hx : (s.extract n s.size).size = s.size - n := by simp
    have hLx : L (s.extract n s.size) = (L s).drop n := L_from s n
    refine CallS.of (Tryd.call61 _ _) (ref_first (s.extract n s.size) (by omega) (by omega)) ?_
    rintro e w1 ⟨rfl, k1⟩
    rw [hLx]
    refine ⟨_, rfl, ?_⟩; (first | refine Then.go hmix ?_ | refine Sat.go hmix ?_ | refine ResK.go ?_ | skip); conv => whnf
    have hne : (L s).drop n ≠ [] := by rw [← hLx]; exact L_ne (by omega)
    have h1 := own_keep0 hv k1
    have K1 := hK.trans0 k1
    have hw := decodeL_width ((L s).drop n)
    have hd := decodeL_le _ hne
    have hdl : d.length ≤ s.size := by
      have := (runes_len (L s)).1
      rw [he, List.length_append] at this
      omega
    rw [List.length_drop] at hd
    refine RunV.of (build_i1 _ _) ?_
    refine GO ?_
    refine app_rune h1 K1.size _ (by omega) fun v' w' h2 hg => ?_
    obtain ⟨a', cap', rfl⟩ := h2.shape
    have K2 := (K1.alloc (.cells #[.int .i64 ((decodeL ((L s).drop n)).1 : Int)] 3)).own (own_keep0 h1 ((Keeps.refl _ _).alloc _)) (Nat.le_refl _) hg
    refine GO ?_
    refine ⟨(n + (decodeL ((L s).drop n)).2, a', cap', d ++ [(decodeL ((L s).drop n)).1]), ⟨rfl, rfl, v_int (by simp), trivial⟩, ⟨K2, by dsimp only; omega, h2, ?_⟩, by dsimp only; omega⟩
    dsimp only
    rw [he, runes_step _ hne, List.drop_drop, List.append_assoc]; rfl
  · refine GO ?_
    have : (L s).drop n = [] := List.drop_eq_nil_of_le (by omega)
    rw [this, runes_nil, List.append_nil] at he
    exact ⟨_, rfl, by rw [he]; exact hv, hK⟩
theorem ref_Valid (s : ByteArray) (hs : s.size ≤ 100000000) : Calls Tryd.prog 25 #[.string s] w fun e w' => e = .returned (.bool (validD (L s))) ∧ Keeps w w' none_ := by
  have hl := L_len s
  refine calls_of_vc (args := [.string s]) Tryd.func25 rfl (Nat.le_of_ble_eq_true rfl) ?_; refine Sat.go hmix ?_; conv => whnf
  refine Loop.intro (ι := Nat) (fun i => [(0, .string s), (3, .int .i64 i)])
    (fun i wr => Keeps w wr none_ ∧ i ≤ s.size ∧ validD (L s) = validD ((L s).drop i)) (fun i => s.size - i) 0 ⟨rfl, rfl, trivial⟩
    ⟨Keeps.refl _ _, Nat.zero_le _, rfl⟩ ?_
  rintro n g wr ⟨hK, hn, he⟩
  (first | refine Then.go hmix ?_ | refine Sat.go hmix ?_ | refine ResK.go ?_ | skip); conv => whnf
  by_cases hlt : n < s.size
  · refine GO ?_
    have hx : (s.extract n s.size).size = s.size - n := by simp
    have hLx : L (s.extract n s.size) = (L s).drop n := L_from s n
    refine CallS.of (Tryd.call61 _ _) (ref_first (s.extract n s.size) (by omega) (by omega)) ?_
    rintro e w1 ⟨rfl, k1⟩
    rw [hLx]
    have hne : (L s).drop n ≠ [] := by rw [← hLx]; exact L_ne (by omega)
    have hw := decodeL_width ((L s).drop n)
    have hd := decodeL_le _ hne
    rw [List.length_drop] at hd
    rw [validD_step _ hne, List.drop_drop] at he
    cases hg : good ((L s).drop n)
    · refine ⟨_, rfl, ?_⟩; (first | refine Then.go hmix ?_ | refine Sat.go hmix ?_ | refine ResK.go ?_ | skip); conv => whnf
      refine GO ?_
      unfold good at hg
      rw [Bool.not_eq_false', decide_eq_true_eq] at hg
      rw [if_pos hg] at he
      exact ⟨ret_bool he.symm, hK.trans0 k1⟩
    · refine ⟨_, rfl, ?_⟩; (first | refine Then.go hmix ?_ | refine Sat.go hmix ?_ | refine ResK.go ?_ | skip); conv => whnf
      refine GO ?_
      unfold good at hg
      rw [Bool.not_eq_true', decide_eq_false_iff_not] at hg
      rw [if_neg hg] at he
      exact ⟨n + (decodeL ((L s).drop n)).2, ⟨rfl, v_int (by simp), trivial⟩, ⟨hK.trans0 k1, by omega, he⟩, by dsimp only; omega⟩
  · refine GO ?_
    have : (L s).drop n = [] := List.drop_eq_nil_of_le (by omega)
    rw [this, validD_nil] at he
    exact ⟨ret_bool he.symm, hK⟩
end
end Go.Proofs.YtmipmlcolaaonaaDoor
