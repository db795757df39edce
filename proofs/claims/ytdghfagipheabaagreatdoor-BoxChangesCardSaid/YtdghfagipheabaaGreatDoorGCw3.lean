/- Helper text of this claim: Cw3, Cw2, Cr1, Cr2, Ct4, Ct5, Ct6: lemmas and contracts that the proved statement rests on; no conditions of its own. -/
import Derived.Test.YtdghfagipheabaaGreatDoorGCt1
import Derived.Test.YtdghfagipheabaaGreatDoorGShf
import Derived.Lib.Small
import Derived.Test.YtdghfagipheabaaGreatDoorWcz
-- alias Tryz
namespace Go.Proofs.YtdghfagipheabaaGreatDoor
open Go.RowKit Go.Pw Go.Vc Go.Cs Go.Lib
set_option linter.unusedVariables false
set_option maxRecDepth 100000
def spF (x : Int × Int × Int × Int) : List Value := [.int .i32 x.1, .int .i32 x.2.1, .int .i32 x.2.2.1, .int .i32 x.2.2.2]
def FoldTab (w : World) : Prop := ∃ b o c, w.cell? ⟨1, 0, none⟩ = some (.slice (some ⟨b, o, none⟩) 17 c) ∧ ∀ i, i < 17 → At w b (o + i * 4) (spF (foldSp i))
theorem FoldTab.keep {w w' : World} (h : FoldTab w) (k : Keeps w w' none_) : FoldTab w' := by
  obtain ⟨b, o, c, h1, h2⟩ := h
  exact ⟨b, o, c, by rw [k.cell (cell_lt h1) id]; exact h1, fun i hi => at_keep (h2 i hi) k⟩
section
variable {w : World}
theorem low_cmp (i : Nat) (hi : i < 17) (r : Int) : Calls Tryz.prog 74 #[.agg (spF (foldSp i)).toArray, .int .i32 r] w fun e w' => e = .returned (.int .i64 (cmpF i r)) ∧ Keeps w w' none_ := by
  unfold cmpF spF
  generalize foldSp i = x
  obtain ⟨lo, hi', st, mo⟩ := x
  dsimp only
  refine calls_of_vc (args := [.agg #[.int .i32 lo, .int .i32 hi', .int .i32 st, .int .i32 mo], .int .i32 r]) Tryz.func74 rfl (Nat.le_of_ble_eq_true rfl) ?_; refine Sat.go hmix ?_; conv => whnf
  have k0 : Keeps w (w.alloc (.cells #[.int .i32 lo, .int .i32 hi', .int .i32 st, .int .i32 mo] 91)) none_ := (Keeps.refl _ _).alloc _
  have hA := at_cells (heap_alloc_new w (.cells #[.int .i32 lo, .int .i32 hi', .int .i32 st, .int .i32 mo] 91))
  have c0 : (w.alloc (.cells #[.int .i32 lo, .int .i32 hi', .int .i32 st, .int .i32 mo] 91)).cell? ⟨w.heap.size, 0, none⟩ = some (.int .i32 lo) := hA 0 _ rfl
  have c1 : (w.alloc (.cells #[.int .i32 lo, .int .i32 hi', .int .i32 st, .int .i32 mo] 91)).cell? ⟨w.heap.size, 0 + 1, none⟩ = some (.int .i32 hi') := hA 1 _ rfl
  generalize w.alloc (.cells #[.int .i32 lo, .int .i32 hi', .int .i32 st, .int .i32 mo] 91) = w1 at *
  by_cases h1 : hi' < r
  · refine GO ?_
    exact ⟨by rw [if_pos h1], k0⟩
  · by_cases h2 : r < lo
    · refine GO ?_
      exact ⟨by rw [if_neg h1, if_pos h2], k0⟩
    · refine GO ?_
      exact ⟨by rw [if_neg h1, if_neg h2], k0⟩
set_option maxHeartbeats 1000000 in
theorem bs_fold (b o c : Nat) (hT : ∀ i, i < 17 → At w b (o + i * 4) (spF (foldSp i))) (r : Int) : Calls Tryz.prog 73 #[.slice (some ⟨b, o, none⟩) 17 c, .int .i32 r, .func (.func 74) #[] #[]] w fun e w' =>
    ∃ k, e = .returned (.tuple #[.int .i64 (k : Nat), .bool (decide (k < 17 ∧ cmpF k r = 0))]) ∧ Pos (fun i => cmpF i r) 17 k ∧ Keeps w w' none_ := by
  refine calls_of_vc (args := [.slice (some ⟨b, o, none⟩) 17 c, .int .i32 r, .func (.func 74) #[] #[]]) Tryz.func73 rfl (Nat.le_of_ble_eq_true rfl) ?_; refine Sat.go hmix ?_; conv => whnf
  refine Loop.intro (ι := Nat × Nat) (fun p => [(0, .slice (some ⟨b, o, none⟩) 17 c), (1, .int .i32 r), (2, .func (.func 74) #[] #[]), (8, .int .i64 17), (9, .int .i64 p.1), (10, .int .i64 p.2)])
    (fun p wr => Keeps w wr none_ ∧ p.1 ≤ p.2 ∧ p.2 ≤ 17 ∧ (∀ m, m < p.1 → cmpF m r < 0) ∧ ∀ m, p.2 ≤ m → m < 17 → 0 ≤ cmpF m r) (fun p => p.2 - p.1) (0, 17) ⟨rfl, rfl, rfl, rfl, rfl, rfl, trivial⟩
    ⟨Keeps.refl _ _, by omega, Nat.le_refl _, fun m hm => by omega, fun m h1 h2 => by omega⟩ ?_
  rintro ⟨i, j⟩ g wr ⟨hK, hij, hj, hlo, hhi⟩
  dsimp only at hij hj hlo hhi ⊢
  (first | refine Then.go hmix ?_ | refine Sat.go hmix ?_ | refine ResK.go ?_ | skip); conv => whnf
  by_cases hlt : i < j
  · refine GO ?_
    rw [half_eq i j (by omega)]
    have hm1 : i ≤ (i + j) / 2 := by omega
    have hm2 : (i + j) / 2 < j := by omega
    generalize (i + j) / 2 = h at *
    refine GO ?_
    refine Load.agg (spF (foldSp h)) (by rfl) (by rfl) (by rfl) (at_keep (hT h (by omega)) hK) ?_
    refine GO ?_
    refine CallS.of (Tryz.call74 _ _) (low_cmp h (by omega) r) ?_
    rintro e w1 ⟨rfl, k1⟩
    refine ⟨_, rfl, ?_⟩; (first | refine Then.go hmix ?_ | refine Sat.go hmix ?_ | refine ResK.go ?_ | skip); conv => whnf
    by_cases hc : cmpF h r < 0
    · refine GO ?_
      refine ⟨(h + 1, j), ⟨rfl, rfl, rfl, rfl, v_int (by simp), rfl, trivial⟩, ⟨hK.trans0 k1, by dsimp only; omega, hj, fun m hm => ?_, hhi⟩, by dsimp only; omega⟩
      by_cases e : m = h
      · rw [e]; exact hc
      · exact cmpF_mono m h (by dsimp only at hm; omega) (by omega) r hc
    · refine GO ?_
      refine ⟨(i, h), ⟨rfl, rfl, rfl, rfl, rfl, rfl, trivial⟩, ⟨hK.trans0 k1, by dsimp only; omega, by dsimp only; omega, hlo, fun m m1 m2 => ?_⟩, by dsimp only; omega⟩
      dsimp only at m1
      by_cases e : m = h
      · rw [e]; omega
      · have hx : ¬ cmpF m r < 0 := fun hn => hc (cmpF_mono h m (by omega) m2 r hn)
        omega
  · have hji : j = i := by omega
    subst hji
    have hpos : Pos (fun i => cmpF i r) 17 j := ⟨hj, hlo, hhi⟩
    by_cases h17 : j < 17
    · refine GO ?_
      refine Load.agg (spF (foldSp j)) (by rfl) (by rfl) (by rfl) (at_keep (hT j h17) hK) ?_
      refine GO ?_
      refine CallS.of (Tryz.call74 _ _) (low_cmp j h17 r) ?_
      rintro e w1 ⟨rfl, k1⟩
      refine ⟨_, rfl, ?_⟩; (first | refine Then.go hmix ?_ | refine Sat.go hmix ?_ | refine ResK.go ?_ | skip); conv => whnf
      refine GO ?_
      exact ⟨j, by rw [show decide (j < 17 ∧ cmpF j r = 0) = (cmpF j r == 0) by by_cases h0 : cmpF j r = 0 <;> simp [h0, h17]], hpos, hK.trans0 k1⟩
    · refine GO ?_
      exact ⟨j, by rw [show decide (j < 17 ∧ cmpF j r = 0) = false by simp [h17]], hpos, hK⟩
set_option maxHeartbeats 1000000 in
theorem fold_lower (n : Nat) (hn : n ≤ 1114111) (hT : FoldTab w) : Calls Tryz.prog 61 #[.int .i32 (n : Int)] w fun e w' => e = .returned (.int .i32 ((lowC n : Nat) : Int)) ∧ Keeps w w' none_ := by
  obtain ⟨b, o, c, hg, ht⟩ := hT
  refine calls_of_vc (args := [.int .i32 (n : Int)]) Tryz.func61 rfl (Nat.le_of_ble_eq_true rfl) ?_; refine Sat.go hmix ?_; conv => whnf
  refine GO ?_
  refine CallS.of (Tryz.call73 _ _) (bs_fold b o c ht (n : Int)) ?_
  rintro e w1 ⟨k, rfl, hp, k1⟩
  refine ⟨_, rfl, ?_⟩; (first | refine Then.go hmix ?_ | refine Sat.go hmix ?_ | refine ResK.go ?_ | skip); conv => whnf
  have hg1 := (k1.cell (p := ⟨1, 0, none⟩) (cell_lt hg) id).trans hg
  have hg2 : w1.drew.cell? ⟨1, 0, none⟩ = _ := hg1
  by_cases hf : k < 17 ∧ cmpF k (n : Int) = 0
  · have hz := cmpF_zero k n hf.2
    have hl := low_found k hf.1 n hz
    have hft := foldT_fact ⟨k, hf.1⟩
    simp only at hft
    have c0 : w1.drew.cell? ⟨b, o + k * 4, none⟩ = some (.int .i32 (foldSp k).1) := (at_keep (ht k hf.1) k1) 0 _ rfl
    have c2 : w1.drew.cell? ⟨b, o + k * 4 + 2, none⟩ = some (.int .i32 (foldSp k).2.2.1) := (at_keep (ht k hf.1) k1) 2 _ rfl
    have c3 : w1.drew.cell? ⟨b, o + k * 4 + 3, none⟩ = some (.int .i32 (foldSp k).2.2.2) := (at_keep (ht k hf.1) k1) 3 _ rfl
    rw [decide_eq_true hf]
    have hs : (foldSp k).2.2.1 = 1 ∨ (foldSp k).2.2.1 = 2 := by omega
    generalize (foldSp k).1 = lo at *
    generalize (foldSp k).2.1 = hi at *
    generalize (foldSp k).2.2.1 = st at *
    generalize (foldSp k).2.2.2 = mo at *
    rcases hs with rfl | rfl
    · refine GO ?_
      rw [Int.tmod_eq_emod_of_nonneg (by omega)]
      refine GO ?_
      exact ⟨by rw [hl, if_pos (by omega)], k1.drew⟩
    · refine GO ?_
      rw [Int.tmod_eq_emod_of_nonneg (by omega)]
      by_cases hm : ((n : Int) - lo) % 2 = 0
      · refine GO ?_
        exact ⟨by rw [hl, if_pos hm], k1.drew⟩
      · refine GO ?_
        exact ⟨by rw [hl, if_neg hm], k1.drew⟩
  · have hl := low_out n fun m hm => cmpF_out k n hp hf m hm
    rw [decide_eq_false hf]
    refine GO ?_
    exact ⟨by rw [hl], k1.drew⟩
/-- A builder beside an iterator that goes on. -/
theorem bld_setO {B b bi p : Nat} {s : ByteArray} {l : List UInt8} {o : Obj} (h : Bld w B b l) (hi : w.heap[bi]? = some (.stringIter s p)) : Bld (setO w bi o) B b l := by
  have key : ∀ p', BuilderAtF 75 5 B b p' (byteCells l) w → BuilderAtF 75 5 B b p' (byteCells l) (setO w bi o) := by
    rintro p' ⟨hB, v, hb, hown, hne⟩
    have hbb : b ≠ bi := fun e => by subst e; rw [hi] at hb; cases hb
    refine ⟨hB, v, ?_, ?_, hne⟩
    · rw [(setO_keeps o).block b (lt_of_obj hb) (fun e => hbb e)]; exact hb
    · refine hown.kept (row := some bi) ⟨rfl, rfl, rfl, by simp [setO], fun k hk hn => (setO_keeps o).block k hk fun e => hn (congrArg some e)⟩ (Or.inr ?_)
      rcases hown.2 with ⟨rfl, _⟩ | ⟨g, cap, cur, fz, rfl, _, hg, _⟩
      · simp [Value.ownBlock]
      · intro e
        simp only [Value.ownBlock, Option.some.injEq] at e
        subst e
        rw [hi] at hg; cases hg
  rcases h with h | h
  · exact .inl (key _ h)
  · exact .inr (key _ h)
theorem iter_keep {b bi p : Nat} {s : ByteArray} {w' : World} (h : w.heap[bi]? = some (.stringIter s p)) (hk : OthersKept 5 (some b) w w') (hne : bi ≠ b) : w'.heap[bi]? = some (.stringIter s p) :=
  hk bi _ h (fun e => hne (by injection e)) fun c fz e => by cases e
theorem bld_keep {B b : Nat} {l : List UInt8} {w' : World} (h : Bld w B b l) (k : Keeps w w' none_) : Bld w' B b l := by
  have key : ∀ p', BuilderAtF 75 5 B b p' (byteCells l) w → BuilderAtF 75 5 B b p' (byteCells l) w' := by
    rintro p' ⟨hB, v, hb, hown, hne⟩
    refine ⟨hB, v, (k.block b (lt_of_obj hb) id).trans hb, ?_, hne⟩
    refine hown.kept (row := none) ⟨k.os, k.tape, k.output, k.size, fun i hi _ => k.block i hi id⟩ ?_
    cases v.ownBlock <;> simp
  rcases h with h | h
  · exact .inl (key _ h)
  · exact .inr (key _ h)
theorem s_hasPrefix (s p : ByteArray) (w : World) : Calls Tryz.prog 58 #[.string s, .string p] w fun e w' => e = .returned (.bool (hasPrefix (L s) (L p))) ∧ w = w' :=
  (Any.strings_HasPrefix lays99 s p w).mono fun e w' ⟨h1, h2⟩ => ⟨h1, h2.symm⟩
theorem fffd_prefix (s : ByteArray) (i : Nat) (hi : i < s.size) (hc : (decodeL ((L s).drop i)).1 = 65533) : hasPrefix (L (s.extract i s.size)) [239, 191, 189] = !decide ((decodeL ((L s).drop i)).2 = 1) := by
  rw [L_from]
  have hne : (L s).drop i ≠ [] := by
    rw [← L_from]; exact L_ne (by simp; omega)
  unfold hasPrefix
  generalize (L s).drop i = l at *
  rcases bad_or l hne with h | ⟨c, hs, hd, ht⟩
  · rw [h]
    cases hp : List.isPrefixOf [239, 191, 189] l
    · rfl
    · exfalso
      obtain ⟨t, e⟩ := List.isPrefixOf_iff_prefix.1 hp
      have he : enc 65533 = [239, 191, 189] := by decide
      have := whole_of l 65533 scal_bad (by rw [he, ← e]; rfl)
      rw [h] at this
      exact bad_ne _ this
  · rw [hd] at hc ⊢
    simp only at hc
    subst hc
    have he : enc 65533 = [239, 191, 189] := by decide
    rw [he] at ht ⊢
    have : List.isPrefixOf [239, 191, 189] l = true := by
      rw [List.isPrefixOf_iff_prefix, ← ht]; exact List.take_prefix _ _
    rw [this]; rfl
set_option maxHeartbeats 1000000 in
theorem fold_Fold (s : ByteArray) (hT : FoldTab w) (hs : s.size ≤ 100000000) : Calls Tryz.prog 34 #[.string s] w fun e w' => e = .returned (.string (str (foldL (L s)))) ∧ Keeps w w' none_ := by
  have hl := L_len s
  refine calls_of_vc (args := [.string s]) Tryz.func34 rfl (Nat.le_of_ble_eq_true rfl) ?_; refine Sat.go hmix ?_; conv => whnf
  have hb0 := bld_new w w.heap.size (Nat.le_refl _)
  have K0 : Keeps w (w.alloc (.cells #[.pointer none, .slice none 0 0] 75)) none_ := (Keeps.refl _ _).alloc _
  have hz0 : (w.alloc (.cells #[.pointer none, .slice none 0 0] 75)).heap.size = w.heap.size + 1 := by simp
  generalize w.alloc (.cells #[.pointer none, .slice none 0 0] 75) = w0 at *
  refine RunV.rangeS Tryz.underlying9 ?_
  (first | refine Then.go hmix ?_ | refine Sat.go hmix ?_ | refine ResK.go ?_ | skip); conv => whnf
  rw [hz0]
  have hi0 : (w0.alloc (.stringIter s 0)).heap[w.heap.size + 1]? = some (.stringIter s 0) := by rw [← hz0]; exact heap_alloc_new _ _
  have hb1 : Bld (w0.alloc (.stringIter s 0)) w.heap.size w.heap.size [] := by
    rcases hb0 with h | h
    · exact .inl (h.alloc _)
    · exact .inr (h.alloc _)
  have K1 := K0.alloc (.stringIter s 0)
  generalize w0.alloc (.stringIter s 0) = w1 at *
  refine Loop.intro (ι := Nat × List UInt8) (fun i => [(0, .string s), (3, .pointer (some ⟨w.heap.size, 0, none⟩)), (7, .pointer (some ⟨w.heap.size + 1, 0, none⟩))])
    (fun i wr => Keeps w wr none_ ∧ i.1 ≤ s.size ∧ Bld wr w.heap.size w.heap.size i.2 ∧ wr.heap[w.heap.size + 1]? = some (.stringIter s i.1) ∧ foldL (L s) = i.2 ++ foldL ((L s).drop i.1) ∧ i.2.length = i.1) (fun i => s.size - i.1) (0, []) ⟨rfl, rfl, rfl, trivial⟩
    ⟨K1, Nat.zero_le _, hb1, hi0, rfl, rfl⟩ ?_
  rintro ⟨n, d⟩ g wr ⟨hK, hn, hb, hi, he, hdl⟩
  dsimp only at hn hb hi he hdl ⊢
  (first | refine Then.go hmix ?_ | refine Sat.go hmix ?_ | refine ResK.go ?_ | skip); conv => whnf
  by_cases hlt : n < s.size
  · refine RunV.nextS hi hlt ?_
    have hne : (L s).drop n ≠ [] := by rw [← L_from]; exact L_ne (by simp; omega)
    have hw := decodeL_width ((L s).drop n)
    have hle := decodeL_le _ hne
    have hru := decodeL_rune ((L s).drop n)
    rw [List.length_drop] at hle
    rw [foldL_step _ hne, List.drop_drop] at he
    have hh := head1_len _ hne
    have hpre := fffd_prefix s n hlt
    have hb2 : Bld (setO wr (w.heap.size + 1) (.stringIter s (n + (decodeL ((L s).drop n)).2))) w.heap.size w.heap.size d := bld_setO hb hi
    have hi2 : (setO wr (w.heap.size + 1) (.stringIter s (n + (decodeL ((L s).drop n)).2))).heap[w.heap.size + 1]? = some (.stringIter s (n + (decodeL ((L s).drop n)).2)) := setO_get _ (lt_of_obj hi)
    have K2 : Keeps w (setO wr (w.heap.size + 1) (.stringIter s (n + (decodeL ((L s).drop n)).2))) none_ := hK.trans (setO_keeps _) fun i hi h => by have h : i = w.heap.size + 1 := h; omega
    generalize setO wr (w.heap.size + 1) (.stringIter s (n + (decodeL ((L s).drop n)).2)) = w2 at *
    have hdr : (L s).drop n ≠ [] := hne
    have key : ∀ (x : List UInt8) (w' : World), x.length = (decodeL ((L s).drop n)).2 → head1 ((L s).drop n) = x → Bld w' w.heap.size w.heap.size (d ++ x) → Below w.heap.size w2 w' → OthersKept 5 (some w.heap.size) w2 w' →
        (Keeps w w' none_ ∧ n + (decodeL ((L s).drop n)).2 ≤ s.size ∧ Bld w' w.heap.size w.heap.size (d ++ x) ∧ w'.heap[w.heap.size + 1]? = some (.stringIter s (n + (decodeL ((L s).drop n)).2)) ∧ foldL (L s) = (d ++ x) ++ foldL ((L s).drop (n + (decodeL ((L s).drop n)).2)) ∧ (d ++ x).length = n + (decodeL ((L s).drop n)).2) := by
      intro x w' hx hhx hbx hbe hok
      refine ⟨K2.below' hbe (Nat.le_refl _), by omega, hbx, iter_keep hi2 hok (by omega), by rw [he, hhx, List.append_assoc], by rw [List.length_append, hx, hdl]⟩
    by_cases hc : (decodeL ((L s).drop n)).1 = 65533
    · have hpre := hpre hc
      refine GO ?_
      refine CallS.of (Tryz.call58 _ _) (s_hasPrefix (s.extract n s.size) ⟨#[239, 191, 189]⟩ w2) ?_
      rintro e w' ⟨rfl, rfl⟩
      rw [show hasPrefix (L (s.extract n s.size)) (L ⟨#[239, 191, 189]⟩) = !decide ((decodeL ((L s).drop n)).2 = 1) from hpre]
      by_cases hk : (decodeL ((L s).drop n)).2 = 1
      · rw [decide_eq_true hk]
        refine ⟨_, rfl, ?_⟩; (first | refine Then.go hmix ?_ | refine Sat.go hmix ?_ | refine ResK.go ?_ | skip); conv => whnf
        refine GO ?_
        obtain ⟨x, hx0, hx1, hx2, hx3⟩ := take_byte s n hlt
        have hx0 : byteAt s n = x := hx0
        rw [hx0]
        refine CallS.of (Tryz.call59 _ _) (s_writeByte x w2 hb2 (by omega) K2.size) ?_
        rintro e w3 ⟨rfl, hb3, hbe, hok⟩
        refine ⟨_, rfl, ?_⟩; (first | refine Then.go hmix ?_ | refine Sat.go hmix ?_ | refine ResK.go ?_ | skip); conv => whnf
        have := key [x] w3 (by rw [hk]; rfl) (by unfold head1; rw [if_pos ⟨hc, hk⟩, hx3]; rfl) hb3 hbe hok
        exact ⟨(n + (decodeL ((L s).drop n)).2, d ++ [x]), ⟨rfl, rfl, rfl, trivial⟩, this, by dsimp only; omega⟩
      · rw [decide_eq_false hk]
        refine ⟨_, rfl, ?_⟩; (first | refine Then.go hmix ?_ | refine Sat.go hmix ?_ | refine ResK.go ?_ | skip); conv => whnf
        refine GO ?_
        refine CallS.of (Tryz.call61 _ _) (fold_lower (decodeL ((L s).drop n)).1 hru (hT.keep K2)) ?_
        rintro e w3 ⟨rfl, k3⟩
        refine ⟨_, rfl, ?_⟩; (first | refine Then.go hmix ?_ | refine Sat.go hmix ?_ | refine ResK.go ?_ | skip); conv => whnf
        have hb3 : Bld w3 w.heap.size w.heap.size d := bld_keep hb2 k3
        have hlo := low_le _ hru
        refine CallS.of (Tryz.call60 _ _) (s_writeRune ((lowC (decodeL ((L s).drop n)).1 : Nat) : Int) (by omega) (by omega) w3 hb3 (by omega) (Nat.le_trans K2.size k3.size)) ?_
        rintro e w4 ⟨⟨q, rfl⟩, hb4, hbe, hok⟩
        refine ⟨_, rfl, ?_⟩; (first | refine Then.go hmix ?_ | refine Sat.go hmix ?_ | refine ResK.go ?_ | skip); conv => whnf
        have hh1 : head1 ((L s).drop n) = enc (lowC (decodeL ((L s).drop n)).1) := by unfold head1; rw [if_neg (by omega)]
        have := key (enc (lowC (decodeL ((L s).drop n)).1)) w4 (by rw [← hh1]; exact hh) hh1 hb4 (k3.below.mono K2.size |>.trans hbe) (fun k o h1 h2 h3 => hok k o ((k3.block k (lt_of_obj h1) id).trans h1) h2 h3)
        exact ⟨(n + (decodeL ((L s).drop n)).2, d ++ enc (lowC (decodeL ((L s).drop n)).1)), ⟨rfl, rfl, rfl, trivial⟩, this, by dsimp only; omega⟩
    · refine GO ?_
      refine CallS.of (Tryz.call61 _ _) (fold_lower (decodeL ((L s).drop n)).1 hru (hT.keep K2)) ?_
      rintro e w3 ⟨rfl, k3⟩
      refine ⟨_, rfl, ?_⟩; (first | refine Then.go hmix ?_ | refine Sat.go hmix ?_ | refine ResK.go ?_ | skip); conv => whnf
      have hb3 : Bld w3 w.heap.size w.heap.size d := bld_keep hb2 k3
      have hlo := low_le _ hru
      refine CallS.of (Tryz.call60 _ _) (s_writeRune ((lowC (decodeL ((L s).drop n)).1 : Nat) : Int) (by omega) (by omega) w3 hb3 (by omega) (Nat.le_trans K2.size k3.size)) ?_
      rintro e w4 ⟨⟨q, rfl⟩, hb4, hbe, hok⟩
      refine ⟨_, rfl, ?_⟩; (first | refine Then.go hmix ?_ | refine Sat.go hmix ?_ | refine ResK.go ?_ | skip); conv => whnf
      have hh1 : head1 ((L s).drop n) = enc (lowC (decodeL ((L s).drop n)).1) := by unfold head1; rw [if_neg (by omega)]
      have := key (enc (lowC (decodeL ((L s).drop n)).1)) w4 (by rw [← hh1]; exact hh) hh1 hb4 (k3.below.mono K2.size |>.trans hbe) (fun k o h1 h2 h3 => hok k o ((k3.block k (lt_of_obj h1) id).trans h1) h2 h3)
      exact ⟨(n + (decodeL ((L s).drop n)).2, d ++ enc (lowC (decodeL ((L s).drop n)).1)), ⟨rfl, rfl, rfl, trivial⟩, this, by dsimp only; omega⟩
  · refine RunV.nextE hi hlt ?_
    refine GO ?_
    have hn0 : (L s).drop n = [] := List.drop_eq_nil_of_le (by omega)
    rw [hn0, foldL_nil, List.append_nil] at he
    refine CallS.of (Tryz.call62 _ _) (s_string wr hb hK.size) ?_
    rintro e w3 ⟨rfl, _, hbe, _⟩
    refine ⟨_, rfl, ?_⟩; (first | refine Then.go hmix ?_ | refine Sat.go hmix ?_ | refine ResK.go ?_ | skip); conv => whnf
    exact ⟨ret_str (by rw [he]), hK.below' hbe (Nat.le_refl _)⟩
theorem fold_Equal (a b : ByteArray) (hT : FoldTab w) (ha : a.size ≤ 100000000) (hb : b.size ≤ 100000000) : Calls Tryz.prog 55 #[.string a, .string b] w fun e w' => e = .returned (.bool (decide (foldL (L a) = foldL (L b)))) ∧ Keeps w w' none_ := by
  refine calls_of_vc (args := [.string a, .string b]) Tryz.func55 rfl (Nat.le_of_ble_eq_true rfl) ?_; refine Sat.go hmix ?_; conv => whnf
  refine CallS.of (Tryz.call34 _ _) (fold_Fold a hT ha) ?_
  rintro e w1 ⟨rfl, k1⟩
  refine ⟨_, rfl, ?_⟩; (first | refine Then.go hmix ?_ | refine Sat.go hmix ?_ | refine ResK.go ?_ | skip); conv => whnf
  refine CallS.of (Tryz.call34 _ _) (fold_Fold b (hT.keep k1) hb) ?_
  rintro e w2 ⟨rfl, k2⟩
  refine ⟨_, rfl, ?_⟩; (first | refine Then.go hmix ?_ | refine Sat.go hmix ?_ | refine ResK.go ?_ | skip); conv => whnf
  exact ⟨ret_bool (decide_eq_decide.2 str_inj), k1.trans0 k2⟩
end
end Go.Proofs.YtdghfagipheabaaGreatDoor

-- alias Tryz
namespace Go.Proofs.YtdghfagipheabaaGreatDoor
open Go.RowKit Go.Pw Go.Vc Go.Cs Go.Lib
set_option linter.unusedVariables false
set_option maxRecDepth 100000
theorem or32 : ∀ x : Fin 192, IntKind.i64.wrap (((BitVec.ofInt IntKind.i64.bits ((x.val : Nat) : Int) ||| BitVec.ofInt IntKind.i64.bits 32).toNat : Nat) : Int) = (((x.val ||| 32 : Nat)) : Int) := by decide +kernel
theorem or32_b : ∀ x : Fin 192, (97 ≤ (x.val ||| 32) ∧ (x.val ||| 32) ≤ 122) ↔ (65 ≤ x.val ∧ x.val ≤ 90) ∨ (97 ≤ x.val ∧ x.val ≤ 122) := by decide +kernel
theorem kindN_low (r : Nat) (h : r < 192) : kindN r = if (48 ≤ r ∧ r ≤ 57) ∨ (65 ≤ r ∧ r ≤ 90) ∨ (97 ≤ r ∧ r ≤ 122) then 1 else 0 := by
  unfold kindN
  rw [if_neg (by omega), if_pos h]
  repeat' split
  all_goals omega
section
variable {w : World}
end
end Go.Proofs.YtdghfagipheabaaGreatDoor

-- alias Tryz
namespace Go.Proofs.YtdghfagipheabaaGreatDoor
open Go.RowKit Go.Pw Go.Vc Go.Cs Go.Lib
set_option linter.unusedVariables false
set_option maxRecDepth 100000
section
variable {w : World}
theorem v_kind {r : Int} {k : Nat} {w : World} (h : kindI r = k) : Ending.returned (.int .i64 (k : Int)) = Ending.returned (.int .i64 ((kindI r : Nat) : Int)) ∧ w = w := ⟨by rw [h], rfl⟩
end
end Go.Proofs.YtdghfagipheabaaGreatDoor

-- alias Tryz
namespace Go.Proofs.YtdghfagipheabaaGreatDoor
open Go.RowKit Go.Pw Go.Vc Go.Cs Go.Lib
set_option linter.unusedVariables false
set_option maxRecDepth 100000
section
theorem ref_in05 (r lo hi : Int) (w : World) : Calls Tryz.prog 100 #[.int .i64 r, .int .i64 lo, .int .i64 hi] w fun e w' => e = .returned (.bool (decide (lo ≤ r ∧ r ≤ hi))) ∧ w = w' := by
  refine calls_of_vc (args := [.int .i64 r, .int .i64 lo, .int .i64 hi]) Tryz.func100 rfl (Nat.le_of_ble_eq_true rfl) ?_; refine Sat.go hmix ?_; conv => whnf
  by_cases h1 : lo ≤ r
  · by_cases h2 : r ≤ hi
    · refine GO ?_
      exact ⟨by simp [h1, h2], rfl⟩
    · refine GO ?_
      exact ⟨by simp [h2], rfl⟩
  · refine GO ?_
    exact ⟨by simp [h1], rfl⟩
end
end Go.Proofs.YtdghfagipheabaaGreatDoor

namespace Go.Cs
open Go.Lib
set_option linter.unusedVariables false
theorem runeLen_eq (c : Nat) (h : scal c) : runeLen (c : Int) = ((enc c).length : Nat) := by
  unfold scal at h
  unfold enc encodeRune runeLen
  rw [if_neg (by omega)]
  by_cases h1 : c < 128
  · rw [if_pos (by omega), encodeRuneZ_one (by omega) (by omega)]; rfl
  by_cases h2 : c ≤ 2047
  · rw [if_neg (by omega), if_pos (by omega), encodeRuneZ_two (by omega) (by omega)]; rfl
  by_cases h3 : c ≤ 65535
  · rw [if_neg (by omega), if_neg (by omega), if_neg (by omega), if_pos (by omega), encodeRuneZ_three (by omega)]; rfl
  · rw [if_neg (by omega), if_neg (by omega), if_neg (by omega), if_neg (by omega), if_pos (by omega), encodeRuneZ_four (by omega) (by omega)]; rfl
/-- The word at a place. -/
def mk (l : List UInt8) (p : Nat × Nat) : List UInt8 × Nat × Nat := (foldL (cutL l p), p.1, p.2)
theorem wordsL_eq (l : List UInt8) : wordsL l = (wd (us l) 0 none).map (mk l) := rfl
def frI (f : Option Nat) : Int := match f with | none => -1 | some a => a
theorem wd_0 (n : Nat) (r : List (Nat × Nat)) (p : Nat) (f : Option Nat) : wd ((0, n) :: r) p f = close f p ++ wd r (p + n) none := rfl
theorem wd_2 (n : Nat) (r : List (Nat × Nat)) (p : Nat) (f : Option Nat) : wd ((2, n) :: r) p f = close f p ++ (p, p + n) :: wd r (p + n) none := rfl
theorem wd_1n (n : Nat) (r : List (Nat × Nat)) (p : Nat) : wd ((1, n) :: r) p none = wd r (p + n) (some p) := rfl
theorem wd_1s (n : Nat) (r : List (Nat × Nat)) (p a : Nat) : wd ((1, n) :: r) p (some a) = if 40 < p + n - a then (a, p) :: wd r (p + n) (some p) else wd r (p + n) (some a) := rfl
end Go.Cs

namespace Go.Cs
open Go.Lib
set_option linter.unusedVariables false
theorem Bd.snoc {l : List UInt8} {n : Nat} (h : Bd l n) : l.drop n ≠ [] → Bd l (n + (decodeL (l.drop n)).2) := by
  induction h with
  | zero l => intro hne; rw [List.drop_zero] at *; rw [Nat.zero_add]; exact .step l 0 hne (.zero _)
  | step l n hne _ ih =>
    intro h
    rw [← List.drop_drop] at h
    have := ih h
    rw [← List.drop_drop, Nat.add_assoc]
    exact .step l _ hne this
theorem Bd.take {l : List UInt8} {n : Nat} (h : Bd l n) : ∀ b, n ≤ b → Bd (l.take b) n := by
  induction h with
  | zero l => exact fun b _ => .zero _
  | step l n hne _ ih =>
    intro b hb
    have hw := decodeL_width l
    have hd := dec_take l b hne (by omega)
    have hl : 0 < l.length := List.length_pos_iff.2 hne
    have hne' : l.take b ≠ [] := by
      intro e
      have := congrArg List.length e
      rw [List.length_take, List.length_nil] at this
      omega
    have h1 := ih (b - (decodeL l).2) (by omega)
    rw [← hd]
    refine .step _ _ hne' ?_
    rw [hd, List.drop_take]
    exact h1
theorem wd_bd (l : List UInt8) : ∀ (d m : Nat) (f : Option Nat), l.length - m ≤ d → Bd l m → (∀ a, f = some a → Bd l a ∧ a ≤ m) → ∀ p ∈ wd (us (l.drop m)) m f, Bd l p.1 ∧ Bd l p.2 ∧ p.1 ≤ p.2 := by
  intro d
  induction d with
  | zero =>
    intro m f hd hm hf p hp
    rw [List.drop_eq_nil_of_le (by omega), us_nil] at hp
    cases f with
    | none => simp [wd, close] at hp
    | some a =>
      simp only [wd, close, List.mem_singleton] at hp
      subst hp
      exact ⟨(hf a rfl).1, hm, (hf a rfl).2⟩
  | succ d ih =>
    intro m f hd hm hf p hp
    have hcl : p ∈ close f m → Bd l p.1 ∧ Bd l p.2 ∧ p.1 ≤ p.2 := by
      intro hp
      cases f with
      | none => simp [close] at hp
      | some a =>
        simp only [close, List.mem_singleton] at hp
        subst hp
        exact ⟨(hf a rfl).1, hm, (hf a rfl).2⟩
    by_cases hne : l.drop m = []
    · rw [hne, us_nil] at hp; exact hcl hp
    · have hs := hm.snoc hne
      have hw := decodeL_width (l.drop m)
      have hlt : m < l.length := by
        apply Classical.byContradiction; intro h
        exact hne (List.drop_eq_nil_of_le (by omega))
      rw [us_step _ hne, List.drop_drop] at hp
      generalize (decodeL (l.drop m)).2 = n at *
      have go := fun f' hf' => ih (m + n) f' (by omega) hs hf' p
      simp only [wd] at hp
      split at hp
      · rcases List.mem_append.1 hp with h | h
        · exact hcl h
        · exact go none (fun a h => by cases h) h
      · split at hp
        · rcases List.mem_append.1 hp with h | h
          · exact hcl h
          · rcases List.mem_cons.1 h with h | h
            · subst h; exact ⟨hm, hs, by omega⟩
            · exact go none (fun a h => by cases h) h
        · split at hp
          · rename_i a
            split at hp
            · rcases List.mem_cons.1 hp with h | h
              · subst h; exact ⟨(hf a rfl).1, hm, (hf a rfl).2⟩
              · exact go (some m) (fun a h => by injection h with h; subst h; exact ⟨hm, by omega⟩) h
            · exact go (some a) (fun b h => by injection h with h; subst h; exact ⟨(hf a rfl).1, by have := (hf a rfl).2; omega⟩) hp
          · exact go (some m) (fun a h => by injection h with h; subst h; exact ⟨hm, by omega⟩) hp
theorem places_bd (l : List UInt8) (p : Nat × Nat) (hp : p ∈ wd (us l) 0 none) : Bd l p.1 ∧ Bd l p.2 ∧ p.1 ≤ p.2 :=
  wd_bd l l.length 0 none (by omega) (.zero l) (fun a h => by cases h) p (by simpa using hp)
theorem fold_cut (l : List UInt8) (p : Nat × Nat) (h1 : Bd l p.1) (h2 : Bd l p.2) (h : p.1 ≤ p.2) : foldL (cutL l p) = cutL (foldL l) p := by
  unfold cutL
  rw [(fold_take (h1.take p.2 h)).2, (fold_take h2).1]
theorem words_fold (l : List UInt8) : wordsL (foldL l) = wordsL l := by
  unfold wordsL
  rw [us_fold]
  refine List.map_congr_left fun p hp => ?_
  obtain ⟨h1, h2, h3⟩ := places_bd l p hp
  rw [← fold_cut l p h1 h2 h3, fold_fold]
end Go.Cs

namespace Go.Cs
open Go.Lib
set_option linter.unusedVariables false
/-! ### Segments -/
/-- The width of steps. -/
def W (u : List (Nat × Nat)) : Nat := (u.map (·.2)).sum
theorem W_nil : W [] = 0 := rfl
theorem W_cons (q : Nat × Nat) (u : List (Nat × Nat)) : W (q :: u) = q.2 + W u := by simp [W]
theorem W_app (u v : List (Nat × Nat)) : W (u ++ v) = W u + W v := by simp [W]
def Ones (u : List (Nat × Nat)) : Prop := u ≠ [] ∧ (∀ q ∈ u, q.1 = 1) ∧ W u ≤ 40
def Seg (u : List (Nat × Nat)) : Prop := Ones u ∨ ∃ n, u = [(2, n)]
/-- Rest that ends an open word. -/
def Stops (r : List (Nat × Nat)) : Prop := r = [] ∨ ∃ n t, r = (0, n) :: t
theorem wd_ones (r : List (Nat × Nat)) (hr : Stops r) : ∀ (u : List (Nat × Nat)) (q a : Nat), (∀ x ∈ u, x.1 = 1) → q + W u ≤ a + 40 → wd (u ++ r) q (some a) = (a, q + W u) :: wd r (q + W u) none
  | [], q, a, _, _ => by
    rcases hr with rfl | ⟨n, t, rfl⟩
    · simp [wd, close, W_nil]
    · simp only [List.nil_append, W_nil, Nat.add_zero]
      rw [wd_0, wd_0]; simp [close]
  | (k, n) :: u, q, a, h1, h2 => by
    have hk : k = 1 := h1 (k, n) (by simp)
    subst hk
    rw [W_cons] at h2
    rw [List.cons_append, wd_1s, if_neg (by dsimp only at h2; omega), wd_ones r hr u (q + n) a (fun x hx => h1 x (by simp [hx])) (by dsimp only at h2; omega), W_cons, Nat.add_assoc]
theorem wd_seg_app (u r : List (Nat × Nat)) (hu : Seg u) (hr : Stops r) (q : Nat) : wd (u ++ r) q none = (q, q + W u) :: wd r (q + W u) none := by
  rcases hu with ⟨hne, h1, h2⟩ | ⟨n, rfl⟩
  · match u, hne with
    | (k, n) :: u, _ =>
      have hk : k = 1 := h1 (k, n) (by simp)
      subst hk
      rw [W_cons] at h2
      rw [List.cons_append, wd_1n, wd_ones r hr u (q + n) q (fun x hx => h1 x (by simp [hx])) (by dsimp only at h2; omega), W_cons, Nat.add_assoc]
  · rw [List.cons_append, List.nil_append, wd_2]; simp [close, W_cons, W_nil]
theorem wd_seg (u0 : List (Nat × Nat)) : ∀ (r pre mid : List (Nat × Nat)) (f : Option Nat), u0 = pre ++ mid ++ r → (∀ q ∈ r, q.1 ≤ 2 ∧ q.2 ≤ 4) → ((f = none ∧ mid = []) ∨ (f = some (W pre) ∧ Ones mid)) →
    ∀ p ∈ wd r (W pre + W mid) f, ∃ a b c, u0 = a ++ b ++ c ∧ p = (W a, W a + W b) ∧ Seg b
  | [], pre, mid, f, he, _, hf, p, hp => by
    rcases hf with ⟨rfl, rfl⟩ | ⟨rfl, ho⟩
    · simp [wd, close] at hp
    · simp only [wd, close, List.mem_singleton] at hp
      exact ⟨pre, mid, [], he, hp, .inl ho⟩
  | (k, n) :: r, pre, mid, f, he, hk, hf, p, hp => by
    have hk0 := hk (k, n) (by simp)
    have hkr : ∀ q ∈ r, q.1 ≤ 2 ∧ q.2 ≤ 4 := fun q hq => hk q (by simp [hq])
    have hcl : p ∈ close f (W pre + W mid) → ∃ a b c, u0 = a ++ b ++ c ∧ p = (W a, W a + W b) ∧ Seg b := by
      intro hp
      rcases hf with ⟨rfl, rfl⟩ | ⟨rfl, ho⟩
      · simp [close] at hp
      · simp only [close, List.mem_singleton] at hp
        exact ⟨pre, mid, (k, n) :: r, he, hp, .inl ho⟩
    have e1 : W (pre ++ mid ++ [(k, n)]) + W [] = W pre + W mid + n := by simp only [W_app, W_cons, W_nil]; omega
    have g1 := wd_seg u0 r (pre ++ mid ++ [(k, n)]) [] none (by rw [he]; simp) hkr (.inl ⟨rfl, rfl⟩) p
    rw [e1] at g1
    simp only [wd] at hp
    split at hp
    · rcases List.mem_append.1 hp with h | h
      · exact hcl h
      · exact g1 h
    · split at hp
      · rename_i hk2
        rcases List.mem_append.1 hp with h | h
        · exact hcl h
        · rcases List.mem_cons.1 h with h | h
          · exact ⟨pre ++ mid, [(k, n)], r, by rw [he]; simp, by rw [h]; simp only [W_app, W_cons, W_nil, Nat.add_zero], .inr ⟨n, by rw [hk2]⟩⟩
          · exact g1 h
      · rename_i h0 h2
        have hk1 : k = 1 := by dsimp only at hk0; omega
        subst hk1
        have hone : Ones [(1, n)] := ⟨by simp, by simp, by simp only [W_cons, W_nil]; dsimp only at hk0 ⊢; omega⟩
        have e2 : W (pre ++ mid) + W [(1, n)] = W pre + W mid + n := by simp only [W_app, W_cons, W_nil]; omega
        have g2 := wd_seg u0 r (pre ++ mid) [(1, n)] (some (W (pre ++ mid))) (by rw [he]; simp) hkr (.inr ⟨rfl, hone⟩) p
        rw [e2, W_app] at g2
        rcases hf with ⟨rfl, rfl⟩ | ⟨rfl, ho⟩
        · exact g2 hp
        · simp only at hp
          split at hp
          · rcases List.mem_cons.1 hp with h | h
            · exact ⟨pre, mid, (1, n) :: r, he, h, .inl ho⟩
            · exact g2 h
          · rename_i h40
            have ho3 : Ones (mid ++ [(1, n)]) := ⟨by simp, fun q hq => by
              rcases List.mem_append.1 hq with h | h
              · exact ho.2.1 q h
              · simp at h; rw [h], by simp only [W_app, W_cons, W_nil]; omega⟩
            have g3 := wd_seg u0 r pre (mid ++ [(1, n)]) (some (W pre)) (by rw [he]; simp) hkr (.inr ⟨rfl, ho3⟩) p
            rw [show W pre + W (mid ++ [(1, n)]) = W pre + W mid + n by simp only [W_app, W_cons, W_nil]; omega] at g3
            exact g3 hp
theorem us_class (l : List UInt8) : ∀ q ∈ us l, q.1 ≤ 2 ∧ q.2 ≤ 4 := by
  induction l using dec_ind with
  | nil => simp [us_nil]
  | step l hne ih =>
    rw [us_step l hne]
    intro q hq
    rcases List.mem_cons.1 hq with rfl | h
    · have hw : (decodeL l).2 ≤ 4 := by
        rcases bad_or l hne with h | ⟨c, _, h, _⟩
        · rw [h]; decide
        · rw [h]; exact (enc_len c).2
      refine ⟨?_, hw⟩
      rw [clsN_eq]; exact kind_le2 _
    · exact ih q h
theorem us_W (l : List UInt8) : W (us l) = l.length := by
  induction l using dec_ind with
  | nil => rfl
  | step l hne ih =>
    have := decodeL_le l hne
    rw [us_step l hne, W_cons, ih, List.length_drop]
    omega
theorem us_drop : ∀ (a b : List (Nat × Nat)) (l : List UInt8), us l = a ++ b → us (l.drop (W a)) = b
  | [], b, l, h => by simpa [W_nil] using h
  | q :: a, b, l, h => by
    by_cases hne : l = []
    · subst hne; rw [us_nil] at h; simp at h
    · rw [us_step l hne, List.cons_append] at h
      injection h with h1 h2
      have := us_drop a b _ h2
      rw [List.drop_drop] at this
      rw [W_cons, ← h1]
      exact this
theorem us_take' : ∀ (a b : List (Nat × Nat)) (l : List UInt8), us l = a ++ b → us (l.take (W a)) = a
  | [], b, l, h => by simp [W_nil, us_nil]
  | q :: a, b, l, h => by
    by_cases hne : l = []
    · subst hne; rw [us_nil] at h; simp at h
    · rw [us_step l hne, List.cons_append] at h
      injection h with h1 h2
      have h3 := us_take' a b _ h2
      have hw := decodeL_width l
      have hl : 0 < l.length := List.length_pos_iff.2 hne
      have hq : q.2 = (decodeL l).2 := by rw [← h1]
      have hd := dec_take l (q.2 + W a) hne (by omega)
      have hne' : l.take (q.2 + W a) ≠ [] := by
        intro e
        have := congrArg List.length e
        rw [List.length_take, List.length_nil] at this
        omega
      rw [W_cons, us_step _ hne', hd, h1, List.drop_take, hq, Nat.add_sub_cancel_left, h3]
theorem us_cut {a b c : List (Nat × Nat)} {l : List UInt8} (h : us l = a ++ b ++ c) : us (cutL l (W a, W a + W b)) = b := by
  unfold cutL
  dsimp only
  have h1 := us_take' (a ++ b) c l h
  rw [W_app] at h1
  exact us_drop a b _ h1
/-- Each place is a segment. -/
theorem place_seg (l : List UInt8) (p : Nat × Nat) (hp : p ∈ wd (us l) 0 none) : Seg (us (cutL l p)) := by
  obtain ⟨a, b, c, h1, h2, h3⟩ := wd_seg (us l) (us l) [] [] none rfl (us_class l) (.inl ⟨rfl, rfl⟩) p hp
  rw [h2, us_cut h1]
  exact h3
/-- A word's text. -/
def IsWord (x : List UInt8) : Prop := Seg (us x) ∧ foldL x = x
theorem word_good (l : List UInt8) (x : List UInt8 × Nat × Nat) (hx : x ∈ wordsL l) : IsWord x.1 := by
  unfold wordsL at hx
  obtain ⟨p, hp, rfl⟩ := List.mem_map.1 hx
  exact ⟨by rw [us_fold]; exact place_seg l p hp, fold_fold _⟩
theorem good_ne {x : List UInt8} (h : IsWord x) : x ≠ [] := by
  rintro rfl
  rcases h.1 with ⟨h, _⟩ | ⟨n, h⟩
  · exact h us_nil
  · rw [us_nil] at h; cases h
theorem good_len {x : List UInt8} (h : IsWord x) : x.length ≤ 40 := by
  rw [← us_W]
  rcases h.1 with ⟨_, _, h⟩ | ⟨n, h⟩
  · exact h
  · have := us_class x (2, n) (by rw [h]; simp)
    rw [h, W_cons, W_nil]; dsimp only at this ⊢; omega
/-- A word's own words. -/
theorem good_words {x : List UInt8} (h : IsWord x) : wordsL x = [(x, 0, x.length)] := by
  have := wd_seg_app (us x) [] h.1 (.inl rfl) 0
  rw [List.append_nil, us_W, Nat.zero_add] at this
  unfold wordsL
  rw [this]
  simp [wd, close, cutL, h.2]
/-! ### Joined words -/
def joinL (xs : List (List UInt8)) : List UInt8 := xs.flatMap fun x => 32 :: x
theorem us_app (x y : List UInt8) (hy : ∀ b, y[0]? = some b → ¬ cont b) : us (x ++ y) = us x ++ us y := by
  induction x using dec_ind with
  | nil => rfl
  | step x hne ih =>
    have hd := decodeL_le x hne
    rw [us_step _ (by simp [hne]), dec_app x y hne hy, us_step x hne, List.cons_append, List.drop_append_of_le_length hd, ih]
theorem us_space (y : List UInt8) : us (32 :: y) = (0, 1) :: us y := by
  have h : decodeL (32 :: y) = (32, 1) := dec_enc 32 (by decide) y
  rw [us_step _ (by simp), h]
  rfl
theorem join_head (xs : List (List UInt8)) : ∀ b, (joinL xs)[0]? = some b → ¬ cont b := by
  intro b hb
  cases xs with
  | nil => simp [joinL] at hb
  | cons x r => simp [joinL] at hb; subst hb; unfold cont; decide
theorem us_join (x : List UInt8) (xs : List (List UInt8)) : us (joinL (x :: xs)) = (0, 1) :: (us x ++ us (joinL xs)) := by
  show us (32 :: (x ++ joinL xs)) = _
  rw [us_space, us_app x _ (join_head xs)]
theorem join_stops (xs : List (List UInt8)) : Stops (us (joinL xs)) := by
  cases xs with
  | nil => exact .inl rfl
  | cons x r => exact .inr ⟨1, _, us_join x r⟩
theorem join_words : ∀ (xs : List (List UInt8)) (pre : List UInt8), (∀ x ∈ xs, IsWord x) → (wd (us (joinL xs)) pre.length none).map (fun p => foldL (cutL (pre ++ joinL xs) p)) = xs
  | [], pre, _ => by simp [joinL, us_nil, wd, close]
  | x :: xs, pre, h => by
    have hx := h x (by simp)
    have ih := join_words xs (pre ++ (32 :: x)) fun y hy => h y (by simp [hy])
    rw [us_join, wd_0, wd_seg_app _ _ hx.1 (join_stops xs), us_W]
    have e : pre ++ joinL (x :: xs) = pre ++ (32 :: x) ++ joinL xs := by simp [joinL]
    have el : (pre ++ (32 :: x)).length = pre.length + 1 + x.length := by simp; omega
    rw [el] at ih
    simp only [close, List.nil_append, List.map_cons]
    rw [e, ih]
    congr 1
    have hc : cutL (pre ++ (32 :: x) ++ joinL xs) (pre.length + 1, pre.length + 1 + x.length) = x := by
      unfold cutL
      dsimp only
      rw [← el, List.take_left', show pre ++ 32 :: x = (pre ++ [32]) ++ x by simp, List.drop_left']
      · simp
      · simp
    rw [hc, hx.2]
theorem list_join (xs : List (List UInt8)) (h : ∀ x ∈ xs, IsWord x) : (wordsL (joinL xs)).map (·.1) = xs := by
  have := join_words xs [] h
  unfold wordsL
  rw [List.map_map]
  exact this
end Go.Cs
