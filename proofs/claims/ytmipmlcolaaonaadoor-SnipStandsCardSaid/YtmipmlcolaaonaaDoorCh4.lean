/- Helper text of this claim: Ch4: lemmas and contracts that the proved statement rests on; no conditions of its own. -/
import Derived.Test.YtmipmlcolaaonaaDoorCh3
import Derived.Test.YtmipmlcolaaonaaDoorGcs
import Derived.Test.YtmipmlcolaaonaaDoorWcz
-- alias Tryd
namespace Go.Proofs.YtmipmlcolaaonaaDoor
open Go.RowKit Go.Pw Go.Vc Go.Cs Go.Lib
set_option linter.unusedVariables false
set_option maxRecDepth 100000
theorem Bytes.shape {w : World} {B : Nat} {v : Value} {l : List UInt8} (h : Bytes w B v l) : ∃ a cap, v = .slice a l.length cap := own_shape h
theorem Bytes.keep {w w' : World} {B : Nat} {v : Value} {l : List UInt8} (h : Bytes w B v l) (k : Keeps w w' none_) : Bytes w' B v l := own_keep0 h k
theorem Rns.keep {w w' : World} {B : Nat} {v : Value} {l : List Nat} (h : Rns w B v l) (k : Keeps w w' none_) : Rns w' B v l := own_keep0 h k
theorem byteCells_one (l : List UInt8) : ∀ u ∈ byteCells l, u.oneCell' = true := by
  intro u hu
  obtain ⟨b, _, rfl⟩ := List.mem_map.1 hu
  rfl
/-- 'append(v, x...)' of two rows of the call's own. -/
theorem app_bytes {w : World} {K : Value → World → Prop} {B B' : Nat} {v : Value} {a : Option Addr} {c : Nat} {l l' : List UInt8} {cs : Array Bool} (h : Bytes w B v l) (hB : B ≤ w.heap.size) (h' : Bytes w B' (.slice a l'.length c) l') (h0 : 0 < l'.length)
    (hl : l.length + l'.length ≤ 1000000000000) (k : ∀ v' w', Bytes w' B v' (l ++ l') → w.grownBy w' v.ownBlock → K v' w') :
    RunN Tryd.prog (builtin .append #[43, 43] 43 cs [v, .slice a l'.length c].toArray) w K := by
  obtain ⟨g, rfl, _, _, hat⟩ := own_at h' h0
  refine RunN.app Tryd.underlying43 byteInfo rfl (by decide) h hB ⟨g, 0, none⟩ l'.length c (byteCells l') (by rw [byteCells_length]; omega) (fun j u hj => by rw [add_none]; exact hat j u hj) (byteCells_one _) (by omega) (by omega) fun v' w' h2 h3 => k v' w' ?_ h3
  unfold Bytes
  rw [List.length_append, byteCells_append]
  exact h2
/-- 'append(v, b)'. -/
theorem app_byte {w : World} {K : Value → World → Prop} {B : Nat} {v : Value} {l : List UInt8} {cs : Array Bool} (h : Bytes w B v l) (hB : B ≤ w.heap.size) (b : UInt8) (hl : l.length < 1000000000000)
    (k : ∀ v' w', Bytes w' B v' (l ++ [b]) → (w.alloc (.cells #[.int .u8 (b.toNat : Int)] 5)).grownBy w' v.ownBlock → K v' w') :
    RunN Tryd.prog (builtin .append #[43, 43] 43 cs [v, .slice (some ⟨w.heap.size, 0, none⟩) 1 1].toArray) (w.alloc (.cells #[.int .u8 (b.toNat : Int)] 5)) K := by
  have h1 := Bytes.keep h ((Keeps.refl w none_).alloc (.cells #[.int .u8 (b.toNat : Int)] 5))
  have h2 : Bytes (w.alloc (.cells #[.int .u8 (b.toNat : Int)] 5)) w.heap.size (.slice (some ⟨w.heap.size, 0, none⟩) 1 1) [b] := own_lit1 w #[.int .u8 (b.toNat : Int)] 5 1 rfl (by omega)
  exact app_bytes h1 (Nat.le_trans hB ((Keeps.refl w none_).alloc _).size) (l' := [b]) h2 (by simp) (by show l.length + 1 ≤ _; omega) k
theorem rns_cell {w : World} {B cap n : Nat} {a : Option Addr} {l : List Nat} (h : Rns w B (.slice a n cap) l) {i : Nat} (hi : i < l.length) : ∃ g, a = some ⟨g, 0, none⟩ ∧ B ≤ g ∧ g < w.heap.size ∧ w.cell? ⟨g, 0 + i, none⟩ = some (.int .i64 ((l.getD i 0 : Nat) : Int)) := by
  have hs := own_shape h
  obtain ⟨a', c', e⟩ := hs
  injection e with _ e _
  subst e
  obtain ⟨g, rfl, hb, hg, hat⟩ := own_at h (by omega)
  exact ⟨g, rfl, hb, hg, hat i _ (by simp [hi, List.getD])⟩
section
variable {w : World}
theorem ref_Repair (s : ByteArray) (hs : s.size ≤ 100000000) : Calls Tryd.prog 29 #[.string s] w fun e w' => e = .returned (.string (str (repair (L s)))) ∧ Keeps w w' none_ := by
  have hl := L_len s
  refine calls_of_vc (args := [.string s]) Tryd.func29 rfl (Nat.le_of_ble_eq_true rfl) ?_; refine Sat.go hmix ?_; conv => whnf
  refine CallS.of (Tryd.call23 _ _) (ref_Runes s hs) ?_
  rintro e w1 ⟨v, rfl, h1, k1⟩
  obtain ⟨a, cap, rfl⟩ := h1.shape
  have hrl := (runes_len (L s)).1
  have hsc := runes_scal (L s)
  generalize hR : runes (L s) = R at *
  refine ⟨_, rfl, ?_⟩; (first | refine Then.go hmix ?_ | refine Sat.go hmix ?_ | refine ResK.go ?_ | skip); conv => whnf
  refine Loop.intro (ι := Nat × Option Addr × Nat × List UInt8) (fun i => [(3, .slice i.2.1 i.2.2.2.length i.2.2.1), (4, .slice a R.length cap), (5, .int .i64 i.1)])
    (fun i wr => Keeps w1 wr none_ ∧ i.1 ≤ R.length ∧ Bytes wr w1.heap.size (.slice i.2.1 i.2.2.2.length i.2.2.1) i.2.2.2 ∧ i.2.2.2 = encs (R.take i.1)) (fun i => R.length - i.1) (0, none, 0, []) ⟨rfl, rfl, rfl, trivial⟩
    ⟨Keeps.refl _ _, Nat.zero_le _, World.ownsRow_nil _ _ _ _, rfl⟩ ?_
  rintro ⟨n, b, bc, d⟩ g wr ⟨hK, hn, hv, he⟩
  dsimp only at hn hv he ⊢
  (first | refine Then.go hmix ?_ | refine Sat.go hmix ?_ | refine ResK.go ?_ | skip); conv => whnf
  by_cases hlt : n < R.length
  · refine GO ?_
    obtain ⟨g, rfl, _, hg, hc⟩ := rns_cell h1 hlt
    have hc' := (hK.drew.cell (p := ⟨g, 0 + n, none⟩) hg id).trans hc
    have hc := (hK.cell (p := ⟨g, 0 + n, none⟩) hg id).trans hc
    refine GO ?_
    have hm : R.getD n 0 ∈ R := by rw [List.getD, List.getElem?_eq_getElem hlt]; exact List.getElem_mem hlt
    refine CallS.of (Tryd.call59 _ _) (ref_laid ((R.getD n 0 : Nat) : Int) (sign_of_scal _ (hsc _ hm))) ?_
    rintro e w2 ⟨v, rfl, h2, k2⟩
    obtain ⟨a2, c2, rfl⟩ := ref_str h2
    refine ⟨_, rfl, ?_⟩; (first | refine Then.go hmix ?_ | refine Sat.go hmix ?_ | refine ResK.go ?_ | skip); conv => whnf
    have hel := enc_len (R.getD n 0)
    have hdl := (encs_len (R.take n)).2
    rw [← he, List.length_take] at hdl
    have K2 := hK.trans0 k2
    refine app_bytes (hv.keep k2) (Nat.le_trans hK.size k2.size) h2 hel.1 (by show d.length + (enc (R.getD n 0)).length ≤ _; omega) fun v' w' h3 hg3 => ?_
    obtain ⟨a3, c3, rfl⟩ := h3.shape
    have K3 := K2.own (hv.keep k2) (Nat.le_refl _) hg3
    refine GO ?_
    refine ⟨(n + 1, a3, c3, d ++ enc (R.getD n 0)), ⟨rfl, rfl, v_int (by simp), trivial⟩, ⟨K3, by dsimp only; omega, h3, ?_⟩, by dsimp only; omega⟩
    dsimp only
    rw [he, List.take_add_one, encs_append, List.getD, List.getElem?_eq_getElem hlt]
    simp [encs_cons, encs_nil]
  · refine GO ?_
    have hnn : n = R.length := by omega
    subst hnn
    rw [List.take_length] at he
    refine RunV.str (l := d) Tryd.underlying43 Tryd.underlying5 Tryd.underlying9 hv ?_
    (first | refine Then.go hmix ?_ | refine Sat.go hmix ?_ | refine ResK.go ?_ | skip); conv => whnf
    refine ⟨ret_str ?_, k1.trans0 hK⟩
    rw [he, ← hR]; rfl
theorem ref_small (s : ByteArray) (hs : s.size ≤ 100000000) : Calls Tryd.prog 86 #[.string s] w fun e w' => e = .returned (.string (str ((L s).map lowerB))) ∧ Keeps w w' none_ := by
  have hl := L_len s
  refine calls_of_vc (args := [.string s]) Tryd.func86 rfl (Nat.le_of_ble_eq_true rfl) ?_; refine Sat.go hmix ?_; conv => whnf
  refine Loop.intro (ι := Nat × Option Addr × Nat × List UInt8) (fun i => [(0, .string s), (3, .slice i.2.1 i.2.2.2.length i.2.2.1), (4, .int .i64 i.1)])
    (fun i wr => Keeps w wr none_ ∧ i.1 ≤ s.size ∧ Bytes wr w.heap.size (.slice i.2.1 i.2.2.2.length i.2.2.1) i.2.2.2 ∧ i.2.2.2 = ((L s).take i.1).map lowerB) (fun i => s.size - i.1) (0, none, 0, []) ⟨rfl, rfl, rfl, trivial⟩
    ⟨Keeps.refl _ _, Nat.zero_le _, World.ownsRow_nil _ _ _ _, rfl⟩ ?_
  rintro ⟨n, b, bc, d⟩ g wr ⟨hK, hn, hv, he⟩
  dsimp only at hn hv he ⊢
  (first | refine Then.go hmix ?_ | refine Sat.go hmix ?_ | refine ResK.go ?_ | skip); conv => whnf
  have hdl : d.length = n := by rw [he]; simp; omega
  by_cases hlt : n < s.size
  · refine GO ?_
    have hx : (L s).take (n + 1) = (L s).take n ++ [byteAt s n] := by
      rw [List.take_add_one, List.getElem?_eq_getElem (by omega : n < (L s).length)]
      have : byteAt s n = (L s)[n]'(by omega) := by show (L s).getD n 0 = _; rw [List.getD, List.getElem?_eq_getElem (by omega : n < (L s).length)]; rfl
      rw [this]; rfl
    generalize byteAt s n = x at *
    have hxl := UInt8.toNat_lt x
    by_cases h1 : 65 ≤ x.toNat
    · by_cases h2 : x.toNat ≤ 90
      · refine GO ?_
        have e : ((x.toNat : Nat) : Int) + 32 = ((lowerB x).toNat : Int) := by
          unfold lowerB; rw [if_pos ⟨h1, h2⟩]; simp; omega
        rw [e]
        refine RunV.of (build_b1 _ _) ?_
        refine GO ?_
        refine app_byte hv hK.size (lowerB x) (by omega) fun v' w' h3 hg3 => ?_
        obtain ⟨a3, c3, rfl⟩ := h3.shape
        have K3 := (hK.alloc (.cells #[.int .u8 ((lowerB x).toNat : Int)] 5)).own (hv.keep ((Keeps.refl _ _).alloc _)) (Nat.le_refl _) hg3
        refine GO ?_
        exact ⟨(n + 1, a3, c3, d ++ [lowerB x]), ⟨rfl, rfl, v_int (by simp), trivial⟩, ⟨K3, by dsimp only; omega, h3, by dsimp only; rw [he, hx]; simp⟩, by dsimp only; omega⟩
      · refine GO ?_
        have e : lowerB x = x := by unfold lowerB; rw [if_neg (by omega)]
        refine RunV.of (build_b1 _ _) ?_
        refine GO ?_
        refine app_byte hv hK.size x (by omega) fun v' w' h3 hg3 => ?_
        obtain ⟨a3, c3, rfl⟩ := h3.shape
        have K3 := (hK.alloc (.cells #[.int .u8 (x.toNat : Int)] 5)).own (hv.keep ((Keeps.refl _ _).alloc _)) (Nat.le_refl _) hg3
        refine GO ?_
        exact ⟨(n + 1, a3, c3, d ++ [x]), ⟨rfl, rfl, v_int (by simp), trivial⟩, ⟨K3, by dsimp only; omega, h3, by dsimp only; rw [he, hx]; simp [e]⟩, by dsimp only; omega⟩
    · refine GO ?_
      have e : lowerB x = x := by unfold lowerB; rw [if_neg (by omega)]
      refine RunV.of (build_b1 _ _) ?_
      refine GO ?_
      refine app_byte hv hK.size x (by omega) fun v' w' h3 hg3 => ?_
      obtain ⟨a3, c3, rfl⟩ := h3.shape
      have K3 := (hK.alloc (.cells #[.int .u8 (x.toNat : Int)] 5)).own (hv.keep ((Keeps.refl _ _).alloc _)) (Nat.le_refl _) hg3
      refine GO ?_
      exact ⟨(n + 1, a3, c3, d ++ [x]), ⟨rfl, rfl, v_int (by simp), trivial⟩, ⟨K3, by dsimp only; omega, h3, by dsimp only; rw [he, hx]; simp [e]⟩, by dsimp only; omega⟩
  · refine GO ?_
    have hnn : n = s.size := by omega
    rw [hnn, ← hl, List.take_length] at he
    refine RunV.str (l := d) Tryd.underlying43 Tryd.underlying5 Tryd.underlying9 hv ?_
    (first | refine Then.go hmix ?_ | refine Sat.go hmix ?_ | refine ResK.go ?_ | skip); conv => whnf
    exact ⟨ret_str (by rw [he]; rfl), hK⟩
end
end Go.Proofs.YtmipmlcolaaonaaDoor
