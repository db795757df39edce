/- Helper text of this claim: Ct11, Ch2, Ch3, Ch4, Cw8, Cw9, Ch5, Ch6, Cw14, Cr6: lemmas and contracts that the proved statement rests on; no conditions of its own. -/
import Derived.Test.YtdghfagipheabaaGreatDoorGCt8
import Derived.Test.YtdghfagipheabaaGreatDoorGCs0
import Derived.Test.YtdghfagipheabaaGreatDoorGShf
import Derived.Test.YtdghfagipheabaaGreatDoorGCt1
import Derived.Maps.AppendAt
import Derived.Test.YtdghfagipheabaaGreatDoorGCr3
import Derived.Lib.AppendStr
import Derived.Test.YtdghfagipheabaaGreatDoorWcz
namespace Go.Cs
open Go.Lib
set_option linter.unusedVariables false
/-! ### A piece in lower case, by its length -/
theorem enc_by_len (c : Nat) : (c < 128 ∧ (enc c).length = 1) ∨ (128 ≤ c ∧ c ≤ 2047 ∧ (enc c).length = 2) ∨ (2048 ≤ c ∧ 3 ≤ (enc c).length) := by
  unfold enc encodeRune
  by_cases h1 : c < 128
  · rw [encodeRuneZ_one (by omega) (by omega)]; exact .inl ⟨h1, rfl⟩
  by_cases h2 : c ≤ 2047
  · rw [encodeRuneZ_two (by omega) (by omega)]; exact .inr (.inl ⟨by omega, h2, rfl⟩)
  refine .inr (.inr ⟨by omega, ?_⟩)
  by_cases hb : (55296 ≤ c ∧ c ≤ 57343) ∨ 1114111 < c
  · rw [encodeRuneZ_bad (by omega)]; simp
  by_cases h3 : c ≤ 65535
  · rw [encodeRuneZ_three (by omega)]; simp
  · rw [encodeRuneZ_four (by omega) (by omega)]; simp
set_option maxRecDepth 100000 in
theorem low_128' : ∀ r : Fin 128, lowC r.val < 128 := by decide +kernel
theorem low_128 (c : Nat) (h : c < 128) : lowC c < 128 := low_128' ⟨c, h⟩
theorem low_2048 (c : Nat) (h : c ≤ 2047) (h1 : 128 ≤ c) : 128 ≤ lowC c ∧ lowC c ≤ 2047 := by
  have h2 := low_len c
  have h3 := enc_by_len c
  have h4 := enc_by_len (lowC c)
  omega
theorem unit_parts (u : List UInt8) (h : IsUnit u) : (∃ b, u = [b] ∧ 128 ≤ b.toNat ∧ decodeL u = (65533, 1) ∧ head1 u = [b]) ∨ (u = enc (runeU u) ∧ head1 u = enc (lowC (runeU u)) ∧ decodeL u = (runeU u, u.length)) := by
  obtain ⟨hne, hu⟩ := h
  obtain ⟨_, hr⟩ := refLen_eq u hne
  have ht : u.take (decodeL u).2 = u := by rw [hu, List.take_length]
  rw [ht] at hr
  rcases dec_whole u hne with hb | ⟨h1, h2, h3, h4⟩
  · left
    have h1 : u.length = 1 := by rw [← hu, hb]
    obtain ⟨b, rfl⟩ : ∃ b, u = [b] := by
      match u, h1 with
      | [b], _ => exact ⟨b, rfl⟩
    refine ⟨b, rfl, ?_, hb, by unfold head1; rw [if_pos ⟨by rw [hb], by rw [hb]⟩]; rfl⟩
    rcases dec_one [b] (by rw [hb]) hne with ⟨h, _⟩ | ⟨h, h'⟩
    · exact h
    · rw [hb] at h'; simp at h'
      simp at h; omega
  · right
    have hc : runeU u = (decodeL u).1 := by
      rcases hr with hr | hr
      · rw [hr] at h4; exact (h4 ⟨rfl, rfl⟩).elim
      · exact hr
    rw [hc]
    refine ⟨by rw [← h2, ht], by unfold head1; rw [if_neg h4], by rw [← hu]⟩
theorem unit1 (u : List UInt8) (h : IsUnit u) (h1 : u.length = 1) : ∃ b, u = [b] ∧ ((128 ≤ b.toNat ∧ head1 u = [b]) ∨ (b.toNat < 128 ∧ lowC b.toNat < 128 ∧ head1 u = [UInt8.ofNat (lowC b.toNat)])) := by
  rcases unit_parts u h with ⟨b, e, hb, _, hh⟩ | ⟨e, hh, _⟩
  · exact ⟨b, e, .inl ⟨hb, hh⟩⟩
  · obtain ⟨b, rfl⟩ : ∃ b, u = [b] := by
      match u, h1 with
      | [b], _ => exact ⟨b, rfl⟩
    have hr : runeU [b] = b.toNat := rfl
    rw [hr] at e hh
    have hl := congrArg List.length e
    have h3 := enc_by_len b.toNat
    simp at hl
    refine ⟨b, rfl, .inr ⟨by omega, low_128 _ (by omega), ?_⟩⟩
    rw [hh, enc1 (low_128 _ (by omega))]
theorem unit2 (u : List UInt8) (h : IsUnit u) (h2 : u.length = 2) : 128 ≤ lowC (runeU u) ∧ lowC (runeU u) ≤ 2047 ∧ runeU u ≤ 2047 ∧ head1 u = [UInt8.ofNat (192 + lowC (runeU u) / 64), UInt8.ofNat (128 + lowC (runeU u) % 64)] := by
  rcases unit_parts u h with ⟨b, e, hb, _, hh⟩ | ⟨e, hh, _⟩
  · rw [e] at h2; simp at h2
  · have hl := congrArg List.length e
    have h3 := enc_by_len (runeU u)
    have h4 := low_2048 (runeU u) (by omega) (by omega)
    refine ⟨h4.1, h4.2, by omega, ?_⟩
    rw [hh]
    unfold enc encodeRune
    rw [encodeRuneZ_two (by omega) (by omega)]
    simp only [List.map_cons, List.map_nil]
    rw [← b2 (192 + lowC (runeU u) / 64) _ (by omega), ← b2 (128 + lowC (runeU u) % 64) _ (by omega)]
theorem unit3 (u : List UInt8) (h : IsUnit u) (h3 : 3 ≤ u.length) : head1 u = u := by
  rcases unit_parts u h with ⟨b, e, hb, _, hh⟩ | ⟨e, hh, _⟩
  · rw [e] at h3; simp at h3
  · have hl := congrArg List.length e
    have h4 := enc_by_len (runeU u)
    rw [hh, low_big _ (by omega), ← e]
theorem unit_le4 (u : List UInt8) (h : IsUnit u) : u.length ≤ 4 := by
  rw [← h.2]; exact dec_le4 u h.1
end Go.Cs

-- alias Tryz
namespace Go.Proofs.YtdghfagipheabaaGreatDoor
open Go.RowKit Go.Pw Go.Vc Go.Cs Go.Lib
set_option linter.unusedVariables false
set_option maxRecDepth 100000
theorem build_off (w : World) : (Instr.buildSlice 113 5 [(0, .int .i64 0), (1, .int .i64 0), (2, .int .i64 192), (3, .int .i64 224), (4, .int .i64 240)].toArray).run Tryz.prog w = .ok (.slice (some ⟨w.heap.size, 0, none⟩) 5 5) (w.alloc (.cells #[.int .i64 0, .int .i64 0, .int .i64 192, .int .i64 224, .int .i64 240] 3)) := by
  simp [Instr.buildSlice, go_sem, Tryz.runUnderlying113]
theorem off_cell (w : World) (T : Nat) (m : Nat) (h2 : 2 ≤ m) (h4 : m ≤ 4) : (w.alloc (.cells #[.int .i64 0, .int .i64 0, .int .i64 192, .int .i64 224, .int .i64 240] T)).cell? ⟨w.heap.size, 0 + m, none⟩ = some (.int .i64 (off m)) := by
  rw [World.cell?_alloc_new]
  have : m = 2 ∨ m = 3 ∨ m = 4 := by omega
  rcases this with rfl | rfl | rfl <;> rfl
section
variable {w : World}
set_option maxHeartbeats 1000000 in
theorem ref_first (s : ByteArray) (h0 : 0 < s.size) (hs : s.size ≤ 9223372036854775807) : Calls Tryz.prog 80 #[.string s] w fun e w' =>
    e = .returned (.tuple #[.int .i64 (decodeL (L s)).1, .int .i64 (decodeL (L s)).2, .bool (good (L s))]) ∧ Keeps w w' none_ := by
  have hl := L_len s
  refine calls_of_vc (args := [.string s]) Tryz.func80 rfl (Nat.le_of_ble_eq_true rfl) ?_; refine Sat.go hmix ?_; conv => whnf
  refine GO ?_
  refine Loop.intro (ι := Nat) (fun m => [(0, .string s), (5, .int .i64 m)])
    (fun m wr => Keeps w wr none_ ∧ 1 ≤ m ∧ m ≤ 5 ∧ ∀ j, 1 ≤ j → j < m → j ≤ (L s).length → okAt (L s) j = false) (fun m => 5 - m) 1 ⟨rfl, rfl, trivial⟩ ⟨Keeps.refl _ _, Nat.le_refl _, by omega, fun j h1 h2 => by omega⟩ ?_
  rintro m g wr ⟨hK, h1, h5, hno⟩
  (first | refine Then.go hmix ?_ | refine Sat.go hmix ?_ | refine ResK.go ?_ | skip); conv => whnf
  by_cases hm : m ≤ 4
  · by_cases hms : m ≤ s.size
    · have hb0 : byteAt s 0 = (L s).getD 0 0 := rfl
      have hbb := base_bound (L s) m
      by_cases h2 : 1 < m
      refine GO ?_
      refine RunV.of (build_off _) ?_
      refine GO ?_
      refine Load.one (by rfl) (off_cell wr.drew _ m (by omega) hm) ?_
      (first | refine Then.go hmix ?_ | refine Sat.go hmix ?_ | refine ResK.go ?_ | skip); conv => whnf
      have ho : 192 ≤ off m ∧ off m ≤ 240 := by unfold off; repeat' split <;> omega
      have hbt := bt_bound (L s) 0
      have hbb0 : ((byteAt s 0).toNat : Int) = bt (L s) 0 := rfl
      have kr : Keeps w ((wr.drew).alloc (.cells #[.int .i64 0, .int .i64 0, .int .i64 192, .int .i64 224, .int .i64 240] 3)) none_ := hK.drew.alloc _
      generalize (wr.drew).alloc (.cells #[.int .i64 0, .int .i64 0, .int .i64 192, .int .i64 224, .int .i64 240] 3) = wb at *
      rw [wrap_byte]
      show Num .i64 (((byteAt s 0).toNat : Int) - off m) _
      refine GO ?_
      have hbase : base (L s) m = ((byteAt s 0).toNat : Int) - off m := base_off _ _ h2
      rotate_left
      have e1 : m = 1 := by omega
      refine GO ?_
      have hbase : base (L s) m = IntKind.i64.wrap ((byteAt s 0).toNat : Int) := by rw [wrap_byte, e1]; rfl
      have kr : Keeps w wr none_ := hK
      generalize wr = wb at *
      all_goals
        refine Loop.intro (ι := Nat) (fun k => [(0, .string s), (5, .int .i64 m), (6, .int .i64 (candJ (L s) (base (L s) m) k)), (7, .int .i64 ((k + 1 : Nat) : Int))])
          (fun k wr => Keeps w wr none_ ∧ k + 1 ≤ m) (fun k => m - k) 0 ⟨rfl, rfl, v_int hbase.symm, v_int (by omega), trivial⟩ ⟨kr, h1⟩ ?_
        rintro k g wc ⟨kc, hkm⟩
        (first | refine Then.go hmix ?_ | refine Sat.go hmix ?_ | refine ResK.go ?_ | skip); conv => whnf
        by_cases hi : k + 1 < m
        · have hsm := candJ_small (L s) _ hbb k (by omega)
          have hb := bt_bound (L s) (k + 1)
          refine GO ?_
          rw [wrap_byte]
          have hbe : ((byteAt s (k + 1)).toNat : Int) = bt (L s) (k + 1) := rfl
          refine GO ?_
          exact ⟨k + 1, ⟨rfl, rfl, v_int (by rw [hbe]; rfl), v_int (by omega), trivial⟩, ⟨kc, by omega⟩, by dsimp only; omega⟩
        · have hk1 : k = m - 1 := by omega
          subst hk1
          have hc : candJ (L s) (base (L s) m) (m - 1) = cand (L s) m := rfl
          rw [hc]
          refine GO ?_
          refine CallS.of (Tryz.call89 _ _) (ref_sign (cand (L s) m)) ?_
          rintro e w1 ⟨rfl, rfl⟩
          refine ⟨_, rfl, ?_⟩; (first | refine Then.go hmix ?_ | refine Sat.go hmix ?_ | refine ResK.go ?_ | skip); conv => whnf
          cases hsg : isSign (cand (L s) m)
          · have hok : okAt (L s) m = false := by unfold okAt; rw [hsg]; rfl
            refine GO ?_
            refine ⟨m + 1, ⟨rfl, v_int (by omega), trivial⟩, ⟨kc.drew, by omega, by omega, fun j j1 j2 jl => ?_⟩, by dsimp only; omega⟩
            by_cases hj : j = m
            · rw [hj]; exact hok
            · exact hno j j1 (by omega) jl
          · refine GO ?_
            refine CallS.of (Tryz.call90 _ _) (ref_laid (cand (L s) m) hsg) ?_
            rintro e w1 ⟨v, rfl, h1v, k1⟩
            obtain ⟨a, cap, rfl⟩ := ref_str h1v
            refine ⟨_, rfl, ?_⟩; (first | refine Then.go hmix ?_ | refine Sat.go hmix ?_ | refine ResK.go ?_ | skip); conv => whnf
            refine GO ?_
            refine RunV.str (l := encodeRune (cand (L s) m)) Tryz.underlying73 Tryz.underlying5 Tryz.underlying9 h1v ?_
            refine GO ?_
            have hq : (str (encodeRune (cand (L s) m)) = s.extract 0 m) ↔ encodeRune (cand (L s) m) = (L s).take m := by
              rw [extract_str, str_inj]; rfl
            by_cases hx : encodeRune (cand (L s) m) = (L s).take m
            · have hok : okAt (L s) m = true := by unfold okAt; rw [hsg, hx]; simp
              have hy := first_yes (L s) m h1 (by omega) hok
              obtain ⟨_, hn⟩ := isSign_scal _ hsg
              refine Br.dec_yes (hq.2 hx) ?_
              refine GO ?_
              refine ⟨?_, (kc.drew).trans0 k1⟩
              unfold good
              rw [hy.1]
              simp only [hn]
              rw [show decide ((cand (L s) m).toNat = 65533 ∧ m = 1) = false from decide_eq_false (fun e => hy.2 ⟨by omega, e.2⟩)]
              rfl
            · have hok : okAt (L s) m = false := by unfold okAt; rw [hsg, decide_eq_false hx]; rfl
              refine Br.dec_no (fun e => hx (hq.1 e)) ?_
              refine GO ?_
              refine ⟨m + 1, ⟨rfl, v_int (by omega), trivial⟩, ⟨(kc.drew).trans0 k1, by omega, by omega, fun j j1 j2 jl => ?_⟩, by dsimp only; omega⟩
              by_cases hj : j = m
              · rw [hj]; exact hok
              · exact hno j j1 (by omega) jl
    · refine GO ?_
      have := first_no (L s) (L_ne h0) fun j j1 j4 jl => hno j j1 (by omega) jl
      refine ⟨?_, hK⟩
      unfold good
      rw [this]; rfl
  · refine GO ?_
    have := first_no (L s) (L_ne h0) fun j j1 j4 jl => hno j j1 (by omega) jl
    refine ⟨?_, hK⟩
    unfold good
    rw [this]; rfl
end
end Go.Proofs.YtdghfagipheabaaGreatDoor

-- alias Tryz
namespace Go.Proofs.YtdghfagipheabaaGreatDoor
open Go.RowKit Go.Pw Go.Vc Go.Cs Go.Lib
set_option linter.unusedVariables false
set_option maxRecDepth 100000
/-- A row of code points, the call's own. -/
def Rns (w : World) (B : Nat) (v : Value) (l : List Nat) : Prop := w.ownsRow B 3 1 v l.length (l.map fun (c : Nat) => Value.int .i64 (c : Int))
theorem intInfo : (Tryz.prog.info? 3).map (fun i => (i.zero, i.size, i.bytes)) = some (some (.int .i64 0), 1, 8) := by kernel_rfl
theorem byteInfo : (Tryz.prog.info? 5).map (fun i => (i.zero, i.size, i.bytes)) = some (some (.int .u8 0), 1, 1) := by kernel_rfl
theorem Rns.shape {w : World} {B : Nat} {v : Value} {l : List Nat} (h : Rns w B v l) : ∃ a cap, v = .slice a l.length cap := own_shape h
theorem app_rune {w : World} {K : Value → World → Prop} {B : Nat} {v : Value} {l : List Nat} {cs : Array Bool} (h : Rns w B v l) (hB : B ≤ w.heap.size) (c : Nat) (hl : l.length ≤ 1000000000000)
    (k : ∀ v' w', Rns w' B v' (l ++ [c]) → (w.alloc (.cells #[.int .i64 (c : Int)] 3)).grownBy w' v.ownBlock → K v' w') :
    RunN Tryz.prog (builtin .append #[113, 113] 113 cs [v, .slice (some ⟨w.heap.size, 0, none⟩) 1 1].toArray) (w.alloc (.cells #[.int .i64 (c : Int)] 3)) K := by
  refine RunN.app Tryz.underlying113 intInfo rfl (by decide) (own_keep0 h ((Keeps.refl _ _).alloc _)) (by simp; omega) ⟨w.heap.size, 0, none⟩ 1 1 [.int .i64 (c : Int)] rfl (new_cells _ _ _) (by simp [Value.oneCell']) (by omega) (by omega) fun v' w' h2 h3 => k v' w' ?_ h3
  unfold Rns
  rw [List.length_append, List.map_append]
  exact h2
theorem runes_take (l : List UInt8) (hne : l ≠ []) (d : List Nat) (h : runes l = d ++ runes l) : d = [] := by
  have := congrArg List.length h
  rw [List.length_append] at this
  exact List.eq_nil_of_length_eq_zero (by omega)
section
variable {w : World}
theorem ref_Valid (s : ByteArray) (hs : s.size ≤ 100000000) : Calls Tryz.prog 66 #[.string s] w fun e w' => e = .returned (.bool (validD (L s))) ∧ Keeps w w' none_ := by
  have hl := L_len s
  refine calls_of_vc (args := [.string s]) Tryz.func66 rfl (Nat.le_of_ble_eq_true rfl) ?_; refine Sat.go hmix ?_; conv => whnf
  refine Loop.intro (ι := Nat) (fun i => [(0, .string s), (3, .int .i64 i)])
    (fun i wr => Keeps w wr none_ ∧ i ≤ s.size ∧ validD (L s) = validD ((L s).drop i)) (fun i => s.size - i) 0 ⟨rfl, rfl, trivial⟩
    ⟨Keeps.refl _ _, Nat.zero_le _, rfl⟩ ?_
  rintro n g wr ⟨hK, hn, he⟩
  (first | refine Then.go hmix ?_ | refine Sat.go hmix ?_ | refine ResK.go ?_ | skip); conv => whnf
  by_cases hlt : n < s.size
  · refine GO ?_
    have hx : (s.extract n s.size).size = s.size - n := by simp
    have hLx : L (s.extract n s.size) = (L s).drop n := L_from s n
    refine CallS.of (Tryz.call80 _ _) (ref_first (s.extract n s.size) (by omega) (by omega)) ?_
    rintro e w1 ⟨rfl, k1⟩
    rw [hLx]
    have hne : (L s).drop n ≠ [] := by rw [← hLx]; exact L_ne (by omega)
    have hw := decodeL_width ((L s).drop n)
    have hd := decodeL_le _ hne
    rw [List.length_drop] at hd
    rw [validD_step _ hne, List.drop_drop] at he
    cases hg : good ((L s).drop n)
    · refine ⟨_, rfl, ?_⟩; (first | refine Then.go hmix ?_ | refine Sat.go hmix ?_ | refine ResK.go ?_ | skip); conv => whnf
      refine GO ?_
      unfold good at hg
      rw [Bool.not_eq_false', decide_eq_true_eq] at hg
      rw [if_pos hg] at he
      exact ⟨ret_bool he.symm, hK.trans0 k1⟩
    · refine ⟨_, rfl, ?_⟩; (first | refine Then.go hmix ?_ | refine Sat.go hmix ?_ | refine ResK.go ?_ | skip); conv => whnf
      refine GO ?_
      unfold good at hg
      rw [Bool.not_eq_true', decide_eq_false_iff_not] at hg
      rw [if_neg hg] at he
      exact ⟨n + (decodeL ((L s).drop n)).2, ⟨rfl, v_int (by simp), trivial⟩, ⟨hK.trans0 k1, by omega, he⟩, by dsimp only; omega⟩
  · refine GO ?_
    have : (L s).drop n = [] := List.drop_eq_nil_of_le (by omega)
    rw [this, validD_nil] at he
    exact ⟨ret_bool he.symm, hK⟩
end
end Go.Proofs.YtdghfagipheabaaGreatDoor

-- alias Tryz
namespace Go.Proofs.YtdghfagipheabaaGreatDoor
open Go.RowKit Go.Pw Go.Vc Go.Cs Go.Lib
set_option linter.unusedVariables false
set_option maxRecDepth 100000
theorem Bytes.shape {w : World} {B : Nat} {v : Value} {l : List UInt8} (h : Bytes w B v l) : ∃ a cap, v = .slice a l.length cap := own_shape h
theorem Bytes.keep {w w' : World} {B : Nat} {v : Value} {l : List UInt8} (h : Bytes w B v l) (k : Keeps w w' none_) : Bytes w' B v l := own_keep0 h k
theorem Rns.keep {w w' : World} {B : Nat} {v : Value} {l : List Nat} (h : Rns w B v l) (k : Keeps w w' none_) : Rns w' B v l := own_keep0 h k
theorem byteCells_one (l : List UInt8) : ∀ u ∈ byteCells l, u.oneCell' = true := by
  intro u hu
  obtain ⟨b, _, rfl⟩ := List.mem_map.1 hu
  rfl
/-- 'append(v, x...)' of two rows of the call's own. -/
theorem app_bytes {w : World} {K : Value → World → Prop} {B B' : Nat} {v : Value} {a : Option Addr} {c : Nat} {l l' : List UInt8} {cs : Array Bool} (h : Bytes w B v l) (hB : B ≤ w.heap.size) (h' : Bytes w B' (.slice a l'.length c) l') (h0 : 0 < l'.length)
    (hl : l.length + l'.length ≤ 1000000000000) (k : ∀ v' w', Bytes w' B v' (l ++ l') → w.grownBy w' v.ownBlock → K v' w') :
    RunN Tryz.prog (builtin .append #[73, 73] 73 cs [v, .slice a l'.length c].toArray) w K := by
  obtain ⟨g, rfl, _, _, hat⟩ := own_at h' h0
  refine RunN.app Tryz.underlying73 byteInfo rfl (by decide) h hB ⟨g, 0, none⟩ l'.length c (byteCells l') (by rw [byteCells_length]; omega) (fun j u hj => by rw [add_none]; exact hat j u hj) (byteCells_one _) (by omega) (by omega) fun v' w' h2 h3 => k v' w' ?_ h3
  unfold Bytes
  rw [List.length_append, byteCells_append]
  exact h2
/-- 'append(v, b)'. -/
theorem app_byte {w : World} {K : Value → World → Prop} {B : Nat} {v : Value} {l : List UInt8} {cs : Array Bool} (h : Bytes w B v l) (hB : B ≤ w.heap.size) (b : UInt8) (hl : l.length < 1000000000000)
    (k : ∀ v' w', Bytes w' B v' (l ++ [b]) → (w.alloc (.cells #[.int .u8 (b.toNat : Int)] 5)).grownBy w' v.ownBlock → K v' w') :
    RunN Tryz.prog (builtin .append #[73, 73] 73 cs [v, .slice (some ⟨w.heap.size, 0, none⟩) 1 1].toArray) (w.alloc (.cells #[.int .u8 (b.toNat : Int)] 5)) K := by
  have h1 := Bytes.keep h ((Keeps.refl w none_).alloc (.cells #[.int .u8 (b.toNat : Int)] 5))
  have h2 : Bytes (w.alloc (.cells #[.int .u8 (b.toNat : Int)] 5)) w.heap.size (.slice (some ⟨w.heap.size, 0, none⟩) 1 1) [b] := own_lit1 w #[.int .u8 (b.toNat : Int)] 5 1 rfl (by omega)
  exact app_bytes h1 (Nat.le_trans hB ((Keeps.refl w none_).alloc _).size) (l' := [b]) h2 (by simp) (by show l.length + 1 ≤ _; omega) k
theorem rns_cell {w : World} {B cap n : Nat} {a : Option Addr} {l : List Nat} (h : Rns w B (.slice a n cap) l) {i : Nat} (hi : i < l.length) : ∃ g, a = some ⟨g, 0, none⟩ ∧ B ≤ g ∧ g < w.heap.size ∧ w.cell? ⟨g, 0 + i, none⟩ = some (.int .i64 ((l.getD i 0 : Nat) : Int)) := by
  have hs := own_shape h
  obtain ⟨a', c', e⟩ := hs
  injection e with _ e _
  subst e
  obtain ⟨g, rfl, hb, hg, hat⟩ := own_at h (by omega)
  exact ⟨g, rfl, hb, hg, hat i _ (by simp [hi, List.getD])⟩
section
variable {w : World}
end
end Go.Proofs.YtdghfagipheabaaGreatDoor

-- alias Tryz
namespace Go.Proofs.YtdghfagipheabaaGreatDoor
open Go.RowKit Go.Pw Go.Vc Go.Cs Go.Lib
set_option linter.unusedVariables false
set_option maxRecDepth 100000
def listL (l : List UInt8) : List (List UInt8) := (wordsL l).map (·.1)
theorem wordFlat (x : Wd) : ∀ v ∈ wordCells x, Flat v := by
  intro v hv
  simp only [wordCells, List.mem_cons, List.not_mem_nil, or_false] at hv
  rcases hv with rfl | rfl | rfl <;> trivial
end Go.Proofs.YtdghfagipheabaaGreatDoor

-- alias Tryz
namespace Go.Proofs.YtdghfagipheabaaGreatDoor
open Go.RowKit Go.Pw Go.Vc Go.Cs Go.Lib
set_option linter.unusedVariables false
set_option maxRecDepth 100000
section
variable {w : World}
def sW : List Wd := [([97, 98], 0, 2), ([99, 57], 3, 5), ([228, 184, 173], 6, 9), ([230, 150, 135], 9, 12), ([120], 13, 14)]
theorem build_texts2 (w : World) : (Instr.buildSlice 44 2 [(0, .string ⟨#[97]⟩), (1, .string ⟨#[195, 164, 98]⟩)].toArray).run Tryz.prog w =
    .ok (.slice (some ⟨w.heap.size, 0, none⟩) 2 2) (w.alloc (.cells #[.string ⟨#[97]⟩, .string ⟨#[195, 164, 98]⟩] 9)) := by
  simp [Instr.buildSlice, go_sem, Tryz.runUnderlying44]
theorem new_rd (w : World) (xs : List Value) (T : TypeId) (n c : Nat) : Rd (w.alloc (.cells xs.toArray T)) (.slice (some ⟨w.heap.size, 0, none⟩) n c) n xs :=
  ⟨_, _, rfl, fun _ => ⟨w.heap.size, rfl, by simp, at_cells (heap_alloc_new w (.cells xs.toArray T))⟩⟩
end
end Go.Proofs.YtdghfagipheabaaGreatDoor

-- alias Tryz
namespace Go.Proofs.YtdghfagipheabaaGreatDoor
open Go.RowKit Go.Pw Go.Vc Go.Cs Go.Lib
set_option linter.unusedVariables false
set_option maxRecDepth 100000
theorem str_lit (l m : List UInt8) (x : ByteArray) (hx : x = str m) : (str l = x) ↔ l = m := by subst hx; exact str_inj
section
variable {w : World}
theorem build_high (w : World) : (Instr.buildSlice 113 32 [(0, .int .i64 8364), (1, .int .i64 129), (2, .int .i64 8218), (3, .int .i64 402), (4, .int .i64 8222), (5, .int .i64 8230), (6, .int .i64 8224), (7, .int .i64 8225), (8, .int .i64 710), (9, .int .i64 8240), (10, .int .i64 352), (11, .int .i64 8249), (12, .int .i64 338), (13, .int .i64 141), (14, .int .i64 381), (15, .int .i64 143), (16, .int .i64 144), (17, .int .i64 8216), (18, .int .i64 8217), (19, .int .i64 8220), (20, .int .i64 8221), (21, .int .i64 8226), (22, .int .i64 8211), (23, .int .i64 8212), (24, .int .i64 732), (25, .int .i64 8482), (26, .int .i64 353), (27, .int .i64 8250), (28, .int .i64 339), (29, .int .i64 157), (30, .int .i64 382), (31, .int .i64 376)].toArray).run Tryz.prog w =
    .ok (.slice (some ⟨w.heap.size, 0, none⟩) 32 32) (w.alloc (.cells (highT.map fun (c : Nat) => Value.int .i64 (c : Int)).toArray 3)) := by
  simp [Instr.buildSlice, go_sem, Tryz.runUnderlying113, highT]
theorem high_cell (w : World) (T i : Nat) (hi : i < 32) : (w.alloc (.cells (highT.map fun (c : Nat) => Value.int .i64 (c : Int)).toArray T)).cell? ⟨w.heap.size, 0 + i, none⟩ = some (.int .i64 ((highT.getD i 0 : Nat) : Int)) := by
  rw [World.cell?_alloc_new]
  have hl : highT.length = 32 := rfl
  simp [List.getD, hl, hi]
theorem sgn_other (k : Nat) (b : UInt8) (h1 : k ≠ 1) (h : k = 3 ∨ b.toNat < 128 ∨ 160 ≤ b.toNat) : sgn k b = b.toNat := by
  unfold sgn
  rw [if_neg h1]
  repeat' split
  all_goals first | rfl | omega
theorem sgn_win (k : Nat) (b : UInt8) (h1 : k = 4 ∨ k = 0) (h : 128 ≤ b.toNat) (h' : b.toNat < 160) : sgn k b = highT.getD (b.toNat - 128) 0 := by
  unfold sgn
  rw [if_neg (by omega), if_neg (by omega), if_neg (by omega), if_pos h']
end
end Go.Proofs.YtdghfagipheabaaGreatDoor

-- alias Tryz
namespace Go.Proofs.YtdghfagipheabaaGreatDoor
open Go.RowKit Go.Pw Go.Vc Go.Cs Go.Lib
set_option linter.unusedVariables false
set_option maxRecDepth 100000
section
variable {w : World}
theorem cs_Valid (s : ByteArray) (hT : Tabs w) (hs : s.size ≤ 100000000) : Calls Tryz.prog 37 #[.string s] w fun e w' => e = .returned (.bool (validD (L s))) ∧ Keeps w w' none_ := by
  refine calls_of_vc (args := [.string s]) Tryz.func37 rfl (Nat.le_of_ble_eq_true rfl) ?_; refine Sat.go hmix ?_; conv => whnf
  refine CallS.of (Tryz.call64 _ _) (s_valid s w hT (by omega)) ?_
  rintro e w1 ⟨rfl, k1⟩
  refine ⟨_, rfl, ?_⟩; (first | refine Then.go hmix ?_ | refine Sat.go hmix ?_ | refine ResK.go ?_ | skip); conv => whnf
  exact ⟨rfl, k1⟩
end
end Go.Proofs.YtdghfagipheabaaGreatDoor

-- alias Tryz
namespace Go.Proofs.YtdghfagipheabaaGreatDoor
open Go.RowKit Go.Pw Go.Vc Go.Cs Go.Lib
set_option linter.unusedVariables false
set_option maxRecDepth 100000
section
variable {w : World}
theorem words_le {s : ByteArray} {n : Nat} (h : s.size ≤ n) (hn : n ≤ 10000000) : (wordsL (L s)).length ≤ 100000000 := by
  have := wordsL_len (L s)
  have := L_len s
  omega
theorem nw_cell (w : World) (T : TypeId) (cs : List Value) (i : Nat) (v : Value) (h : cs[i]? = some v) : (w.alloc (.cells cs.toArray T)).cell? ⟨w.heap.size, 0 + i, none⟩ = some v := at_cells (heap_alloc_new w (.cells cs.toArray T)) i v h
theorem nw_frozen (w : World) (T : TypeId) (cs : Array Value) (i : Nat) : (w.alloc (.cells cs T)).frozen? ⟨w.heap.size, i, none⟩ = false := by
  unfold World.frozen?; dsimp only; rw [heap_alloc_new]; rfl
theorem wordFlat' (x : Wd) : ∀ v ∈ wordCells x, Flat v := by
  intro v hv
  simp only [wordCells, List.mem_cons, List.not_mem_nil, or_false] at hv
  rcases hv with rfl | rfl | rfl <;> trivial
end
end Go.Proofs.YtdghfagipheabaaGreatDoor

-- alias Tryz
namespace Go.Proofs.YtdghfagipheabaaGreatDoor
open Go.RowKit Go.Pw Go.Vc Go.Cs Go.Lib
set_option linter.unusedVariables false
set_option maxRecDepth 100000
theorem app_str {w : World} {K : Value → World → Prop} {B : Nat} {v : Value} {l : List UInt8} {cs : Array Bool} (h : Bytes w B v l) (hB : B ≤ w.heap.size) (s : List UInt8) (hl : l.length + s.length ≤ 1000000000000)
    (k : ∀ v' w', Bytes w' B v' (l ++ s) → w.grownBy w' v.ownBlock → K v' w') :
    RunN Tryz.prog (builtin .append #[73, 9] 73 cs [v, .string (str s)].toArray) w K := by
  obtain ⟨i, hi, hi2⟩ := Option.map_eq_some_iff.1 byteInfo
  simp only [Prod.mk.injEq] at hi2
  obtain ⟨z1, z2, z3⟩ := hi2
  obtain ⟨v', w', h1, h2, h3, _⟩ := run_append_own_string (P := Tryz.prog) w B 73 9 73 5 i Tryz.underlying73 Tryz.underlying9 hi z1 z2 z3 v l.length _ h (str s) (by rw [show maxLen = 9223372036854775807 from rfl, str_size]; omega) (by rw [str_size]; omega) hB
  refine ⟨v', w', ?_, k v' w' ?_ h3⟩
  · show (do pure (Next.value (← Builtin.append_ #[73, 9] 73 #[v, .string (str s)])) : Sem Next).run Tryz.prog _ = _
    simp [h1]
  · unfold Bytes
    rw [List.length_append, byteCells_append]
    exact h2
section
variable {w : World}
set_option maxHeartbeats 2000000 in
theorem ref_Fold05 (s : ByteArray) (hs : s.size ≤ 100000000) : Calls Tryz.prog 81 #[.string s] w fun e w' => e = .returned (.string (str (foldL (L s)))) ∧ Keeps w w' none_ := by
  have hl := L_len s
  have hul := units_len (L s)
  have hun := units_unit (L s)
  rw [units_fold]
  refine calls_of_vc (args := [.string s]) Tryz.func81 rfl (Nat.le_of_ble_eq_true rfl) ?_; refine Sat.go hmix ?_; conv => whnf
  refine CallS.of (Tryz.call91 _ _) (ref_Units05 (w := w) s hs) ?_
  rintro e w1 ⟨v1, rfl, hU, k1⟩
  generalize units (L s) = U at *
  obtain ⟨au, cu, rfl, hrd⟩ := own_rd hU
  refine ⟨_, rfl, ?_⟩; (first | refine Then.go hmix ?_ | refine Sat.go hmix ?_ | refine ResK.go ?_ | skip); conv => whnf
  refine GO ?_
  refine Loop.intro (ι := Nat × Option Addr × Nat × List UInt8) (fun i => [(3, .slice au U.length cu), (4, .slice i.2.1 i.2.2.2.length i.2.2.1), (5, .int .i64 (i.1 : Nat))])
    (fun i wr => Keeps w1 wr none_ ∧ i.1 ≤ U.length ∧ Bytes wr w1.heap.size (.slice i.2.1 i.2.2.2.length i.2.2.1) i.2.2.2 ∧ i.2.2.2 = (U.take i.1).flatMap head1 ∧ i.2.2.2.length ≤ 4 * i.1) (fun i => U.length - i.1) (0, none, 0, []) ⟨rfl, rfl, rfl, trivial⟩
    ⟨Keeps.refl _ _, Nat.zero_le _, World.ownsRow_nil _ _ _ _, rfl, Nat.le_refl _⟩ ?_
  rintro ⟨n, b, bc, d⟩ g wr ⟨hK, hn, hv, he, hd⟩
  dsimp only at hn hv he hd ⊢
  (first | refine Then.go hmix ?_ | refine Sat.go hmix ?_ | refine ResK.go ?_ | skip); conv => whnf
  by_cases hlt : n < U.length
  · obtain ⟨gu, rfl, hg, hat⟩ := hrd (by omega)
    have c0 : wr.cell? ⟨gu, 0 + n, none⟩ = some (.string (str U[n])) := at_text (at_keep hat hK) hlt
    have hu := hun U[n] (List.getElem_mem hlt)
    have hstep : (U.take (n + 1)).flatMap head1 = (U.take n).flatMap head1 ++ head1 U[n] := by
      rw [List.take_succ_eq_append_getElem hlt, List.flatMap_append]; simp
    have hul1 := unit_le4 _ hu
    have hul0 : 0 < U[n].length := List.length_pos_iff.2 hu.1
    have hu1 := unit1 U[n] hu
    have hu2 := unit2 U[n] hu
    have hu3 := unit3 U[n] hu
    generalize U[n] = u at *
    have hsz : (str u).size = u.length := str_size u
    by_cases q1 : u.length = 1
    · obtain ⟨x, rfl, hx⟩ := hu1 q1
      have hb : byteAt (str [x]) 0 = x := rfl
      have hx0 := UInt8.toNat_lt x
      refine GO ?_
      rw [hb, wrap_i64 _ (by omega)]
      rcases hx with ⟨h128, hh⟩ | ⟨h128, hlow, hh⟩
      · refine GO ?_
        rw [wrap_u8 _ (by omega)]
        refine RunV.of (build_b1 _ _) ?_
        refine GO ?_
        refine app_byte hv hK.size x (by omega) fun v' w' h3 hg3 => ?_
        obtain ⟨a3, c3, rfl⟩ := h3.shape
        have K3 := (hK.alloc (.cells #[.int .u8 (x.toNat : Int)] 5)).own (hv.keep ((Keeps.refl _ _).alloc _)) (Nat.le_refl _) hg3
        refine GO ?_
        exact ⟨(n + 1, a3, c3, d ++ [x]), ⟨rfl, rfl, v_int (by simp), trivial⟩, ⟨K3, by dsimp only; omega, h3, by dsimp only; rw [he, hstep, hh], by simp; omega⟩, by dsimp only; omega⟩
      · refine GO ?_
        refine CallS.of (Tryz.call92 _ _) (ref_lower05 (w := wr) x.toNat (by omega)) ?_
        rintro e w2 ⟨rfl, rfl⟩
        refine ⟨_, rfl, ?_⟩; (first | refine Then.go hmix ?_ | refine Sat.go hmix ?_ | refine ResK.go ?_ | skip); conv => whnf
        refine GO ?_
        have e8 : ((lowC x.toNat : Nat) : Int) = (((UInt8.ofNat (lowC x.toNat)).toNat : Nat) : Int) := by
          rw [UInt8.toNat_ofNat']; omega
        rw [wrap_u8 _ (by omega), e8]
        refine RunV.of (build_b1 _ _) ?_
        refine GO ?_
        refine app_byte hv hK.size (UInt8.ofNat (lowC x.toNat)) (by omega) fun v' w' h3 hg3 => ?_
        obtain ⟨a3, c3, rfl⟩ := h3.shape
        have K3 := (hK.alloc (.cells #[.int .u8 ((UInt8.ofNat (lowC x.toNat)).toNat : Int)] 5)).own (hv.keep ((Keeps.refl _ _).alloc _)) (Nat.le_refl _) hg3
        refine GO ?_
        exact ⟨(n + 1, a3, c3, d ++ [UInt8.ofNat (lowC x.toNat)]), ⟨rfl, rfl, v_int (by simp), trivial⟩, ⟨K3, by dsimp only; omega, h3, by dsimp only; rw [he, hstep, hh], by simp; omega⟩, by dsimp only; omega⟩
    by_cases q2 : u.length = 2
    · obtain ⟨hl1, hl2, hr2, hh⟩ := hu2 q2
      refine GO ?_
      refine CallS.of (Tryz.call93 _ _) (ref_Rune05 (w := wr) (str u) (by omega) (by omega)) ?_
      rintro e w2 ⟨rfl, rfl⟩
      rw [L_str]
      refine ⟨_, rfl, ?_⟩; (first | refine Then.go hmix ?_ | refine Sat.go hmix ?_ | refine ResK.go ?_ | skip); conv => whnf
      refine CallS.of (Tryz.call92 _ _) (ref_lower05 (w := wr) (runeU u) (by omega)) ?_
      rintro e w2 ⟨rfl, rfl⟩
      refine ⟨_, rfl, ?_⟩; (first | refine Then.go hmix ?_ | refine Sat.go hmix ?_ | refine ResK.go ?_ | skip); conv => whnf
      generalize lowC (runeU u) = r at *
      have e1 : (r : Int).tdiv 64 = ((r / 64 : Nat) : Int) := by rw [Int.tdiv_eq_ediv_of_nonneg (by omega)]; rfl
      have e2 : (r : Int).tmod 64 = ((r % 64 : Nat) : Int) := by rw [Int.tmod_eq_emod_of_nonneg (by omega)]; rfl
      have e3 : (192 : Int) + ((r / 64 : Nat) : Int) = (((UInt8.ofNat (192 + r / 64)).toNat : Nat) : Int) := by
        rw [UInt8.toNat_ofNat']; omega
      have e4 : (128 : Int) + ((r % 64 : Nat) : Int) = (((UInt8.ofNat (128 + r % 64)).toNat : Nat) : Int) := by
        rw [UInt8.toNat_ofNat']; omega
      rw [e1, wrap_i64 _ (by omega)]
      refine GO ?_
      rw [wrap_u8 _ (by omega), e2, e3, e4]
      refine GO ?_
      rw [wrap_u8 _ (by have := UInt8.toNat_lt (UInt8.ofNat (128 + r % 64)); omega)]
      refine RunV.of (build_b2 _ _ _) ?_
      refine GO ?_
      refine app_bytes (hv.keep ((Keeps.refl _ _).alloc _)) (Nat.le_trans hK.size ((Keeps.refl wr none_).alloc _).size) (l' := [UInt8.ofNat (192 + r / 64), UInt8.ofNat (128 + r % 64)]) (own_lit1 wr #[.int .u8 ((UInt8.ofNat (192 + r / 64)).toNat : Int), .int .u8 ((UInt8.ofNat (128 + r % 64)).toNat : Int)] 5 2 rfl (by omega)) (by simp) (by simp; omega) fun v' w' h3 hg3 => ?_
      obtain ⟨a3, c3, rfl⟩ := h3.shape
      have K3 := (hK.alloc _).own (hv.keep ((Keeps.refl _ _).alloc _)) (Nat.le_refl _) hg3
      refine GO ?_
      exact ⟨(n + 1, a3, c3, d ++ [UInt8.ofNat (192 + r / 64), UInt8.ofNat (128 + r % 64)]), ⟨rfl, rfl, v_int (by simp), trivial⟩, ⟨K3, by dsimp only; omega, h3, by dsimp only; rw [he, hstep, hh], by simp; omega⟩, by dsimp only; omega⟩
    · rw [hu3 (by omega)] at hstep
      refine GO ?_
      refine app_str hv hK.size u (by omega) fun v' w' h3 hg3 => ?_
      obtain ⟨a3, c3, rfl⟩ := h3.shape
      have K3 := hK.own hv (Nat.le_refl _) hg3
      refine GO ?_
      exact ⟨(n + 1, a3, c3, d ++ u), ⟨rfl, rfl, v_int (by simp), trivial⟩, ⟨K3, by dsimp only; omega, h3, by dsimp only; rw [he, hstep], by simp; omega⟩, by dsimp only; omega⟩
  · refine GO ?_
    have hnn : n = U.length := by omega
    subst hnn
    rw [List.take_length] at he
    refine RunV.str (l := d) Tryz.underlying73 Tryz.underlying5 Tryz.underlying9 hv ?_
    (first | refine Then.go hmix ?_ | refine Sat.go hmix ?_ | refine ResK.go ?_ | skip); conv => whnf
    refine ⟨ret_str ?_, k1.trans0 hK⟩
    rw [he]; rfl
end
end Go.Proofs.YtdghfagipheabaaGreatDoor
