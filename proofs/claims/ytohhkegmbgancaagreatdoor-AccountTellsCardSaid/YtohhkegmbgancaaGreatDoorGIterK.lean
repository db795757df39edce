/- Helper text of this claim: lemmas and contracts that the proved statement rests on; no conditions of its own. -/
import Derived.Laws.RangeString
import Derived.Laws.StructEq
import Derived.Test.YtohhkegmbgancaaGreatDoorGAg1
namespace Go.Vc
set_option maxHeartbeats 4000000
open Go Go.Pw Go.RowKit Go.Cs Go.Lib
set_option linter.unusedVariables false
section
variable {P : Program} {w : World} {K : Value → World → Prop}
theorem RunV.rangeS {t : TypeId} {s : ByteArray} (h : P.underlying t = some .string) (k : K (.pointer (some ⟨w.heap.size, 0, none⟩)) (w.alloc (.stringIter s 0))) : RunV P (Instr.range t (.string s)) w K :=
 ⟨_, _, run_range_string w t s h, k⟩
theorem RunV.nextS {b pos : Nat} {s : ByteArray} {ty : TypeId} (h : w.heap[b]? = some (.stringIter s pos)) (hp : pos < s.size)
  (k : K (.tuple #[.bool true, .int .i64 (pos : Nat), .int .i32 ((decodeL ((L s).drop pos)).1 : Nat)]) (setO w b (.stringIter s (pos + (decodeL ((L s).drop pos)).2)))) :
  RunV P (Instr.next (.pointer (some ⟨b, 0, none⟩)) true ty) w K := by
 refine ⟨_, _, ?_, k⟩
 have e : Utf8.decode s pos = decodeL ((L s).drop pos) := (Lib.decodeL_drop s pos).symm
 simp only [Instr.next, getObj, setObj, Sem.run_bind, Sem.run, h, Result.andThen, hp, if_true, e]
 simp [goInt, setO]
theorem RunV.nextE {b pos : Nat} {s : ByteArray} {ty : TypeId} (h : w.heap[b]? = some (.stringIter s pos)) (hp : ¬ pos < s.size) (k : K (.tuple #[.bool false]) w) : RunV P (Instr.next (.pointer (some ⟨b, 0, none⟩)) true ty) w K := by
 refine ⟨_, _, ?_, k⟩
 simp [Instr.next, getObj, Sem.run, h, hp]
theorem zbQ {b : Nat} {o : Obj} (h : w.heap[b]? = some o) : b < w.heap.size := by
 rcases Nat.lt_or_ge b w.heap.size with h' | h'
 ·exact h'
 ·rw [Array.getElem?_eq_none h'] at h; cases h
end
end Go.Vc
namespace Go.Proofs.YtohhkegmbgancaaGreatDoor
set_option maxHeartbeats 4000000
open Go.RowKit Go.Pw Go.Vc Go.Cs Go.Lib
set_option linter.unusedVariables false
set_option maxRecDepth 100000
def spF (x : Int × Int × Int × Int) : List Value := [.int .i32 x.1, .int .i32 x.2.1, .int .i32 x.2.2.1, .int .i32 x.2.2.2]
def FoldTab (w : World) : Prop := ∃ b o c, w.cell? ⟨1, 0, none⟩ = some (.slice (some ⟨b, o, none⟩) 17 c) ∧ ∀ i, i < 17 → At w b (o + i * 4) (spF (foldSp i))
theorem FoldTab.keep {w w' : World} (h : FoldTab w) (k : Kp w w' n_) : FoldTab w' := by
 obtain ⟨b, o, c, h1, h2⟩ := h
 exact ⟨b, o, c, by rw [k.cell (cell_lt h1) id]; exact h1, fun i hi => zcG (h2 i hi) k⟩
section
variable {w : World}
theorem zkZ (i : Nat) (hi : i < 17) (r : Int) : Calls Tryz.prog 186 #[.agg (spF (foldSp i)).toArray, .int .i32 r] w fun e w' => e = .returned (.int .i64 (cmpF i r)) ∧ Kp w w' n_ := by
 unfold cmpF spF
 generalize foldSp i = x
 obtain ⟨lo, hi', st, mo⟩ := x
 dsimp only
 refine zaa (args := [.agg #[.int .i32 lo, .int .i32 hi', .int .i32 st, .int .i32 mo], .int .i32 r]) Tryz.func186 rfl NL ?_; refine GW ?_
 have k0 : Kp w (w.alloc (.cells #[.int .i32 lo, .int .i32 hi', .int .i32 st, .int .i32 mo] 186)) n_ := (Kp.refl _ _).alloc _
 have hA := zew (heap_alloc_new w (.cells #[.int .i32 lo, .int .i32 hi', .int .i32 st, .int .i32 mo] 186))
 have c0 : (w.alloc (.cells #[.int .i32 lo, .int .i32 hi', .int .i32 st, .int .i32 mo] 186)).cell? ⟨w.heap.size, 0, none⟩ = some (.int .i32 lo) := hA 0 _ rfl
 have c1 : (w.alloc (.cells #[.int .i32 lo, .int .i32 hi', .int .i32 st, .int .i32 mo] 186)).cell? ⟨w.heap.size, 0 + 1, none⟩ = some (.int .i32 hi') := hA 1 _ rfl
 generalize w.alloc (.cells #[.int .i32 lo, .int .i32 hi', .int .i32 st, .int .i32 mo] 186) = w1 at *
 by_cases h1 : hi' < r
 ·refine GO ?_
  exact ⟨by rw [if_pos h1], k0⟩
 ·by_cases h2 : r < lo
  ·refine GO ?_
   exact ⟨by rw [if_neg h1, if_pos h2], k0⟩
  ·refine GO ?_
   exact ⟨by rw [if_neg h1, if_neg h2], k0⟩
theorem zom (b o c : Nat) (hT : ∀ i, i < 17 → At w b (o + i * 4) (spF (foldSp i))) (r : Int) : Calls Tryz.prog 185 #[.slice (some ⟨b, o, none⟩) 17 c, .int .i32 r, .func (.func 186) #[] #[]] w fun e w' =>
  ∃ k, e = .returned (.tuple #[.int .i64 (k : Nat), .bool (decide (k < 17 ∧ cmpF k r = 0))]) ∧ Pos (fun i => cmpF i r) 17 k ∧ Kp w w' n_ := by
 refine zaa (args := [.slice (some ⟨b, o, none⟩) 17 c, .int .i32 r, .func (.func 186) #[] #[]]) Tryz.func185 rfl NL ?_; refine GW ?_
 refine Loop.intro (ι := Nat × Nat) (fun p => [(0, .slice (some ⟨b, o, none⟩) 17 c), (1, .int .i32 r), (2, .func (.func 186) #[] #[]), (8, .int .i64 17), (9, .int .i64 p.1), (10, .int .i64 p.2)])
  (fun p wr => Kp w wr n_ ∧ p.1 ≤ p.2 ∧ p.2 ≤ 17 ∧ (∀ m, m < p.1 → cmpF m r < 0) ∧ ∀ m, p.2 ≤ m → m < 17 → 0 ≤ cmpF m r) (fun p => p.2 - p.1) (0, 17) ⟨rfl, rfl, rfl, rfl, rfl, rfl, trivial⟩
  ⟨Kp.refl _ _, by omega, Nat.le_refl _, fun m hm => by omega, fun m h1 h2 => by omega⟩ ?_
 rintro ⟨i, j⟩ g wr ⟨hK, hij, hj, hlo, hhi⟩
 dsimp only at hij hj hlo hhi ⊢
 refine GW ?_
 by_cases hlt : i < j
 ·refine GO ?_
  rw [zio i j (by omega)]
  have hm1 : i ≤ (i + j) / 2 := by omega
  have hm2 : (i + j) / 2 < j := by omega
  generalize (i + j) / 2 = h at *
  refine GO ?_
  refine Load.agg (spF (foldSp h)) (by rfl) (by rfl) (by rfl) (zcG (hT h (by omega)) hK) ?_
  refine GO ?_
  refine CallS.of (Tryz.call186 _ _) (zkZ h (by omega) r) ?_
  rintro e w1 ⟨rfl, k1⟩
  refine RT ?_
  by_cases hc : cmpF h r < 0
  ·refine GO ?_
   refine ⟨(h + 1, j), ⟨rfl, rfl, rfl, rfl, v_int (by simp), rfl, trivial⟩, ⟨hK.trans0 k1, by dsimp only; omega, hj, fun m hm => ?_, hhi⟩, by dsimp only; omega⟩
   by_cases e : m = h
   ·rw [e]; exact hc
   ·exact zhm m h (by dsimp only at hm; omega) (by omega) r hc
  ·refine GO ?_
   refine ⟨(i, h), ⟨rfl, rfl, rfl, rfl, rfl, rfl, trivial⟩, ⟨hK.trans0 k1, by dsimp only; omega, by dsimp only; omega, hlo, fun m m1 m2 => ?_⟩, by dsimp only; omega⟩
   dsimp only at m1
   by_cases e : m = h
   ·rw [e]; omega
   ·have hx : ¬ cmpF m r < 0 := fun hn => hc (zhm h m (by omega) m2 r hn)
    omega
 ·have hji : j = i := by omega
  subst hji
  have hpos : Pos (fun i => cmpF i r) 17 j := ⟨hj, hlo, hhi⟩
  by_cases h17 : j < 17
  ·refine GO ?_
   refine Load.agg (spF (foldSp j)) (by rfl) (by rfl) (by rfl) (zcG (hT j h17) hK) ?_
   refine GO ?_
   refine CallS.of (Tryz.call186 _ _) (zkZ j h17 r) ?_
   rintro e w1 ⟨rfl, k1⟩
   refine RT ?_
   refine GO ?_
   exact ⟨j, by rw [show decide (j < 17 ∧ cmpF j r = 0) = (cmpF j r == 0) by by_cases h0 : cmpF j r = 0 <;> simp [h0, h17]], hpos, hK.trans0 k1⟩
  ·refine GO ?_
   exact ⟨j, by rw [show decide (j < 17 ∧ cmpF j r = 0) = false by simp [h17]], hpos, hK⟩
theorem zfJ (n : Nat) (hn : n ≤ 1114111) (hT : FoldTab w) : Calls Tryz.prog 157 #[.int .i32 (n : Int)] w fun e w' => e = .returned (.int .i32 ((lowC n : Nat) : Int)) ∧ Kp w w' n_ := by
 obtain ⟨b, o, c, hg, ht⟩ := hT
 refine zaa (args := [.int .i32 (n : Int)]) Tryz.func157 rfl NL ?_; refine GW ?_
 refine GO ?_
 refine CallS.of (Tryz.call185 _ _) (zom b o c ht (n : Int)) ?_
 rintro e w1 ⟨k, rfl, hp, k1⟩
 refine RT ?_
 have hg1 := (k1.cell (p := ⟨1, 0, none⟩) (cell_lt hg) id).trans hg
 have hg2 : w1.drew.cell? ⟨1, 0, none⟩ = _ := hg1
 by_cases hf : k < 17 ∧ cmpF k (n : Int) = 0
 ·have hz := zlu k n hf.2
  have hl := zmj k hf.1 n hz
  have hft := zfV ⟨k, hf.1⟩
  simp only at hft
  have c0 : w1.drew.cell? ⟨b, o + k * 4, none⟩ = some (.int .i32 (foldSp k).1) := (zcG (ht k hf.1) k1) 0 _ rfl
  have c2 : w1.drew.cell? ⟨b, o + k * 4 + 2, none⟩ = some (.int .i32 (foldSp k).2.2.1) := (zcG (ht k hf.1) k1) 2 _ rfl
  have c3 : w1.drew.cell? ⟨b, o + k * 4 + 3, none⟩ = some (.int .i32 (foldSp k).2.2.2) := (zcG (ht k hf.1) k1) 3 _ rfl
  rw [decide_eq_true hf]
  have hs : (foldSp k).2.2.1 = 1 ∨ (foldSp k).2.2.1 = 2 := by omega
  generalize (foldSp k).1 = lo at *
  generalize (foldSp k).2.1 = hi at *
  generalize (foldSp k).2.2.1 = st at *
  generalize (foldSp k).2.2.2 = mo at *
  rcases hs with rfl | rfl
  ·refine GO ?_
   rw [Int.tmod_eq_emod_of_nonneg (by omega)]
   refine GO ?_
   exact ⟨by rw [hl, if_pos (by omega)], k1.drew⟩
  ·refine GO ?_
   rw [Int.tmod_eq_emod_of_nonneg (by omega)]
   by_cases hm : ((n : Int) - lo) % 2 = 0
   ·refine GO ?_
    exact ⟨by rw [hl, if_pos hm], k1.drew⟩
   ·refine GO ?_
    exact ⟨by rw [hl, if_neg hm], k1.drew⟩
 ·have hl := zoP n fun m hm => zmL k n hp hf m hm
  rw [decide_eq_false hf]
  refine GO ?_
  exact ⟨by rw [hl], k1.drew⟩
theorem znx {B b bi p : Nat} {s : ByteArray} {l : List UInt8} {o : Obj} (h : Bld w B b l) (hi : w.heap[bi]? = some (.stringIter s p)) : Bld (setO w bi o) B b l := by
 have key : ∀ p', BuilderAtF 164 5 B b p' (Go.Lib.byteCells l) w → BuilderAtF 164 5 B b p' (Go.Lib.byteCells l) (setO w bi o) := by
  rintro p' ⟨hB, v, hb, hown, hne⟩
  have hbb : b ≠ bi := fun e => by subst e; rw [hi] at hb; cases hb
  refine ⟨hB, v, ?_, ?_, hne⟩
  ·rw [(zbI o).block b (zbQ hb) (fun e => hbb e)]; exact hb
  ·refine hown.kept (row := some bi) ⟨rfl, rfl, rfl, by simp [setO], fun k hk hn => (zbI o).block k hk fun e => hn (congrArg some e)⟩ (Or.inr ?_)
   rcases hown.2 with ⟨rfl, _⟩ | ⟨g, cap, cur, fz, rfl, _, hg, _⟩
   ·simp [Value.ownBlock]
   ·intro e
    simp only [Value.ownBlock, Option.some.injEq] at e
    subst e
    rw [hi] at hg; cases hg
 rcases h with h | h
 ·exact .inl (key _ h)
 ·exact .inr (key _ h)
theorem zkU {b bi p : Nat} {s : ByteArray} {w' : World} (h : w.heap[bi]? = some (.stringIter s p)) (hk : OthersKept 5 (some b) w w') (hne : bi ≠ b) : w'.heap[bi]? = some (.stringIter s p) :=
 hk bi _ h (fun e => hne (by injection e)) fun c fz e => by cases e
theorem zjz {B b : Nat} {l : List UInt8} {w' : World} (h : Bld w B b l) (k : Kp w w' n_) : Bld w' B b l := by
 have key : ∀ p', BuilderAtF 164 5 B b p' (Go.Lib.byteCells l) w → BuilderAtF 164 5 B b p' (Go.Lib.byteCells l) w' := by
  rintro p' ⟨hB, v, hb, hown, hne⟩
  refine ⟨hB, v, (k.block b (zbQ hb) id).trans hb, ?_, hne⟩
  refine hown.kept (row := none) ⟨k.os, k.tape, k.output, k.size, fun i hi _ => k.block i hi id⟩ ?_
  cases v.ownBlock <;> simp
 rcases h with h | h
 ·exact .inl (key _ h)
 ·exact .inr (key _ h)
theorem ziG (s p : ByteArray) (w : World) : Calls Tryz.prog 154 #[.string s, .string p] w fun e w' => e = .returned (.bool (hasPrefix (L s) (L p))) ∧ w = w' :=
 (Any.strings_HasPrefix lays99 s p w).mono fun e w' ⟨h1, h2⟩ => ⟨h1, h2.symm⟩
theorem zik (s : ByteArray) (i : Nat) (hi : i < s.size) (hc : (decodeL ((L s).drop i)).1 = 65533) : hasPrefix (L (s.extract i s.size)) [239, 191, 189] = !decide ((decodeL ((L s).drop i)).2 = 1) := by
 rw [L_from]
 have hne : (L s).drop i ≠ [] := by
  rw [← L_from]; exact L_ne (by simp; omega)
 unfold hasPrefix
 generalize (L s).drop i = l at *
 rcases bad_or l hne with h | ⟨c, hs, hd, ht⟩
 ·rw [h]
  cases hp : List.isPrefixOf [239, 191, 189] l
  ·rfl
  ·exfalso
   obtain ⟨t, e⟩ := List.isPrefixOf_iff_prefix.1 hp
   have he : enc 65533 = [239, 191, 189] := by decide
   have := zgz l 65533 zjB (by rw [he, ← e]; rfl)
   rw [h] at this
   exact znJ _ this
 ·rw [hd] at hc ⊢
  simp only at hc
  subst hc
  have he : enc 65533 = [239, 191, 189] := by decide
  rw [he] at ht ⊢
  have : List.isPrefixOf [239, 191, 189] l = true := by
   rw [List.isPrefixOf_iff_prefix, ← ht]; exact List.take_prefix _ _
  rw [this]; rfl
theorem zdC (s : ByteArray) (hT : FoldTab w) (hs : s.size ≤ 100000000) : Calls Tryz.prog 101 #[.string s] w fun e w' => e = .returned (.string (str (foldL (L s)))) ∧ Kp w w' n_ := by
 have hl := L_len s
 refine zaa (args := [.string s]) Tryz.func101 rfl NL ?_; refine GW ?_
 have hb0 := zoB w w.heap.size (Nat.le_refl _)
 have K0 : Kp w (w.alloc (.cells #[.pointer none, .slice none 0 0] 164)) n_ := (Kp.refl _ _).alloc _
 have hz0 : (w.alloc (.cells #[.pointer none, .slice none 0 0] 164)).heap.size = w.heap.size + 1 := by simp
 generalize w.alloc (.cells #[.pointer none, .slice none 0 0] 164) = w0 at *
 refine RunV.rangeS Tryz.underlying9 ?_
 refine GW ?_
 rw [hz0]
 have hi0 : (w0.alloc (.stringIter s 0)).heap[w.heap.size + 1]? = some (.stringIter s 0) := by rw [← hz0]; exact heap_alloc_new _ _
 have hb1 : Bld (w0.alloc (.stringIter s 0)) w.heap.size w.heap.size [] := by
  rcases hb0 with h | h
  ·exact .inl (h.alloc _)
  ·exact .inr (h.alloc _)
 have K1 := K0.alloc (.stringIter s 0)
 generalize w0.alloc (.stringIter s 0) = w1 at *
 refine Loop.intro (ι := Nat × List UInt8) (fun i => [(0, .string s), (3, .pointer (some ⟨w.heap.size, 0, none⟩)), (7, .pointer (some ⟨w.heap.size + 1, 0, none⟩))])
  (fun i wr => Kp w wr n_ ∧ i.1 ≤ s.size ∧ Bld wr w.heap.size w.heap.size i.2 ∧ wr.heap[w.heap.size + 1]? = some (.stringIter s i.1) ∧ foldL (L s) = i.2 ++ foldL ((L s).drop i.1) ∧ i.2.length = i.1) (fun i => s.size - i.1) (0, []) ⟨rfl, rfl, rfl, trivial⟩
  ⟨K1, Nat.zero_le _, hb1, hi0, rfl, rfl⟩ ?_
 rintro ⟨n, d⟩ g wr ⟨hK, hn, hb, hi, he, hdl⟩
 dsimp only at hn hb hi he hdl ⊢
 refine GW ?_
 by_cases hlt : n < s.size
 ·refine RunV.nextS hi hlt ?_
  have hne : (L s).drop n ≠ [] := by rw [← L_from]; exact L_ne (by simp; omega)
  have hw := decodeL_width ((L s).drop n)
  have hle := decodeL_le _ hne
  have hru := decodeL_rune ((L s).drop n)
  rw [List.length_drop] at hle
  rw [zfO _ hne, List.drop_drop] at he
  have hh := zlZ _ hne
  have hpre := zik s n hlt
  have hb2 : Bld (setO wr (w.heap.size + 1) (.stringIter s (n + (decodeL ((L s).drop n)).2))) w.heap.size w.heap.size d := znx hb hi
  have hi2 : (setO wr (w.heap.size + 1) (.stringIter s (n + (decodeL ((L s).drop n)).2))).heap[w.heap.size + 1]? = some (.stringIter s (n + (decodeL ((L s).drop n)).2)) := zex _ (zbQ hi)
  have K2 : Kp w (setO wr (w.heap.size + 1) (.stringIter s (n + (decodeL ((L s).drop n)).2))) n_ := hK.trans (zbI _) fun i hi h => by have h : i = w.heap.size + 1 := h; omega
  generalize setO wr (w.heap.size + 1) (.stringIter s (n + (decodeL ((L s).drop n)).2)) = w2 at *
  have hdr : (L s).drop n ≠ [] := hne
  have key : ∀ (x : List UInt8) (w' : World), x.length = (decodeL ((L s).drop n)).2 → head1 ((L s).drop n) = x → Bld w' w.heap.size w.heap.size (d ++ x) → Below w.heap.size w2 w' → OthersKept 5 (some w.heap.size) w2 w' →
    (Kp w w' n_ ∧ n + (decodeL ((L s).drop n)).2 ≤ s.size ∧ Bld w' w.heap.size w.heap.size (d ++ x) ∧ w'.heap[w.heap.size + 1]? = some (.stringIter s (n + (decodeL ((L s).drop n)).2)) ∧ foldL (L s) = (d ++ x) ++ foldL ((L s).drop (n + (decodeL ((L s).drop n)).2)) ∧ (d ++ x).length = n + (decodeL ((L s).drop n)).2) := by
   intro x w' hx hhx hbx hbe hok
   refine ⟨K2.below' hbe (Nat.le_refl _), by omega, hbx, zkU hi2 hok (by omega), by rw [he, hhx, List.append_assoc], by rw [List.length_append, hx, hdl]⟩
  by_cases hc : (decodeL ((L s).drop n)).1 = 65533
  ·have hpre := hpre hc
   refine GO ?_
   refine CallS.of (Tryz.call154 _ _) (ziG (s.extract n s.size) ⟨#[239, 191, 189]⟩ w2) ?_
   rintro e w' ⟨rfl, rfl⟩
   rw [show hasPrefix (L (s.extract n s.size)) (L ⟨#[239, 191, 189]⟩) = !decide ((decodeL ((L s).drop n)).2 = 1) from hpre]
   by_cases hk : (decodeL ((L s).drop n)).2 = 1
   ·rw [decide_eq_true hk]
    refine RT ?_
    refine GO ?_
    obtain ⟨x, hx0, hx1, hx2, hx3⟩ := zms s n hlt
    have hx0 : byteAt s n = x := hx0
    rw [hx0]
    refine CallS.of (Tryz.call155 _ _) (zib x w2 hb2 (by omega) K2.size) ?_
    rintro e w3 ⟨rfl, hb3, hbe, hok⟩
    refine RT ?_
    have := key [x] w3 (by rw [hk]; rfl) (by unfold head1; rw [if_pos ⟨hc, hk⟩, hx3]; rfl) hb3 hbe hok
    exact ⟨(n + (decodeL ((L s).drop n)).2, d ++ [x]), ⟨rfl, rfl, rfl, trivial⟩, this, by dsimp only; omega⟩
   ·rw [decide_eq_false hk]
    refine RT ?_
    refine GO ?_
    refine CallS.of (Tryz.call157 _ _) (zfJ (decodeL ((L s).drop n)).1 hru (hT.keep K2)) ?_
    rintro e w3 ⟨rfl, k3⟩
    refine RT ?_
    have hb3 : Bld w3 w.heap.size w.heap.size d := zjz hb2 k3
    have hlo := znM _ hru
    refine CallS.of (Tryz.call156 _ _) (zfm ((lowC (decodeL ((L s).drop n)).1 : Nat) : Int) (by omega) (by omega) w3 hb3 (by omega) (Nat.le_trans K2.size k3.size)) ?_
    rintro e w4 ⟨⟨q, rfl⟩, hb4, hbe, hok⟩
    refine RT ?_
    have hh1 : head1 ((L s).drop n) = enc (lowC (decodeL ((L s).drop n)).1) := by unfold head1; rw [if_neg (by omega)]
    have := key (enc (lowC (decodeL ((L s).drop n)).1)) w4 (by rw [← hh1]; exact hh) hh1 hb4 (k3.below.mono K2.size |>.trans hbe) (fun k o h1 h2 h3 => hok k o ((k3.block k (zbQ h1) id).trans h1) h2 h3)
    exact ⟨(n + (decodeL ((L s).drop n)).2, d ++ enc (lowC (decodeL ((L s).drop n)).1)), ⟨rfl, rfl, rfl, trivial⟩, this, by dsimp only; omega⟩
  ·refine GO ?_
   refine CallS.of (Tryz.call157 _ _) (zfJ (decodeL ((L s).drop n)).1 hru (hT.keep K2)) ?_
   rintro e w3 ⟨rfl, k3⟩
   refine RT ?_
   have hb3 : Bld w3 w.heap.size w.heap.size d := zjz hb2 k3
   have hlo := znM _ hru
   refine CallS.of (Tryz.call156 _ _) (zfm ((lowC (decodeL ((L s).drop n)).1 : Nat) : Int) (by omega) (by omega) w3 hb3 (by omega) (Nat.le_trans K2.size k3.size)) ?_
   rintro e w4 ⟨⟨q, rfl⟩, hb4, hbe, hok⟩
   refine RT ?_
   have hh1 : head1 ((L s).drop n) = enc (lowC (decodeL ((L s).drop n)).1) := by unfold head1; rw [if_neg (by omega)]
   have := key (enc (lowC (decodeL ((L s).drop n)).1)) w4 (by rw [← hh1]; exact hh) hh1 hb4 (k3.below.mono K2.size |>.trans hbe) (fun k o h1 h2 h3 => hok k o ((k3.block k (zbQ h1) id).trans h1) h2 h3)
   exact ⟨(n + (decodeL ((L s).drop n)).2, d ++ enc (lowC (decodeL ((L s).drop n)).1)), ⟨rfl, rfl, rfl, trivial⟩, this, by dsimp only; omega⟩
 ·refine RunV.nextE hi hlt ?_
  refine GO ?_
  have hn0 : (L s).drop n = [] := List.drop_eq_nil_of_le (by omega)
  rw [hn0, zkr, List.append_nil] at he
  refine CallS.of (Tryz.call158 _ _) (zmV wr hb hK.size) ?_
  rintro e w3 ⟨rfl, _, hbe, _⟩
  refine RT ?_
  exact ⟨zlr (by rw [he]), hK.below' hbe (Nat.le_refl _)⟩
end
section
end
section
end
section
theorem zaF (r lo hi : Int) (w : World) : Calls Tryz.prog 234 #[.int .i64 r, .int .i64 lo, .int .i64 hi] w fun e w' => e = .returned (.bool (decide (lo ≤ r ∧ r ≤ hi))) ∧ w = w' := by
 refine zaa (args := [.int .i64 r, .int .i64 lo, .int .i64 hi]) Tryz.func234 rfl NL ?_; refine GW ?_
 by_cases h1 : lo ≤ r
 ·by_cases h2 : r ≤ hi
  ·refine GO ?_
   exact ⟨by simp [h1, h2], rfl⟩
  ·refine GO ?_
   exact ⟨by simp [h2], rfl⟩
 ·refine GO ?_
  exact ⟨by simp [h1], rfl⟩
end
abbrev Wd := List UInt8 × Nat × Nat
section
variable {w0 w : World} {bs bo bf : Nat} {s : ByteArray} {v : Value} {l : List Wd} {fr : Int}
def IterKept (w w' : World) : Prop := ∀ (bi : Nat) (t : ByteArray) (p : Nat), w.heap[bi]? = some (.stringIter t p) → w'.heap[bi]? = some (.stringIter t p)
theorem IterKept.trans {a b c : World} (h : IterKept a b) (k : IterKept b c) : IterKept a c := fun bi t p hi => k bi t p (h bi t p hi)
theorem IterKept.set {w : World} {b : Nat} {T : TypeId} {v : Value} (h : Var1 w b T v) (u : Value) : IterKept w (w.setCell ⟨b, 0, none⟩ u) := fun bi t p hi => by
 rw [RowKit.Below.heap_setCell _ _ _ _ (fun e => by have e : bi = b := e; subst e; unfold Var1 at h; rw [hi] at h; cases h)]
 exact hi
theorem IterKept.keep {w w' : World} (k : Kp w w' n_) : IterKept w w' := fun bi t p hi => (k.block bi (zbQ hi) id).trans hi
end
section
end
def Rd (w : World) (v : Value) (n : Nat) (xs : List Value) : Prop := ∃ a cap, v = .slice a n cap ∧ (0 < n → ∃ g, a = some ⟨g, 0, none⟩ ∧ g < w.heap.size ∧ At w g 0 xs)
theorem zpF {w : World} {B s n : Nat} {e : TypeId} {v : Value} {xs : List Value} (h : w.ownsRow B e s v n xs) : Rd w v n xs := by
 obtain ⟨a, cap, rfl⟩ := zab h
 exact ⟨a, cap, rfl, fun h0 => let ⟨g, h1, _, h3, h4⟩ := zcx h h0; ⟨g, h1, h3, h4⟩⟩
theorem Rd.keep {w w' : World} {v : Value} {n : Nat} {xs : List Value} (h : Rd w v n xs) (k : Kp w w' n_) : Rd w' v n xs := by
 obtain ⟨a, cap, rfl, h⟩ := h
 exact ⟨a, cap, rfl, fun h0 => let ⟨g, h1, h3, h4⟩ := h h0; ⟨g, h1, Nat.lt_of_lt_of_le h3 k.size, zcG h4 k⟩⟩
def sv (s : List UInt8) : Value := .string (str s)
def Txs (w : World) (B : Nat) (v : Value) (l : List (List UInt8)) : Prop := w.ownsRow B 9 1 v l.length (l.map sv)
theorem stringInfo : (Tryz.prog.info? 9).map (fun i => (i.zero, i.size, i.bytes)) = some (some (.string ⟨#[]⟩), 1, 16) := by kernel_rfl
theorem zka (s : ByteArray) (w : World) : (Instr.buildSlice 26 1 [(0, .string s)].toArray).run Tryz.prog w = .ok (.slice (some ⟨w.heap.size, 0, none⟩) 1 1) (w.alloc (.cells #[.string s] 9)) := by
 simp [Instr.buildSlice, go_sem, Tryz.runUnderlying26]
theorem znm {w : World} {K : Value → World → Prop} {B : Nat} {v : Value} {l : List (List UInt8)} {cs : Array Bool} (h : Txs w B v l) (hB : B ≤ w.heap.size) (x : List UInt8) (hl : l.length ≤ 1000000000)
  (k : ∀ v' w', Txs w' B v' (l ++ [x]) → (w.alloc (.cells #[sv x] 9)).grownBy w' v.ownBlock → K v' w') :
  RunN Tryz.prog (builtin .append #[26, 26] 26 cs [v, .slice (some ⟨w.heap.size, 0, none⟩) 1 1].toArray) (w.alloc (.cells #[sv x] 9)) K := by
 refine RunN.app Tryz.underlying26 stringInfo rfl (by decide) (zaf h ((Kp.refl _ _).alloc _)) (Nat.le_trans hB ((Kp.refl w n_).alloc _).size) ⟨w.heap.size, 0, none⟩ 1 1 [sv x] rfl (zfl _ _ _) (by simp [sv, Value.oneCell']) (by omega) (by omega) fun v' w' h2 h3 => k v' w' ?_ h3
 unfold Txs
 rw [List.length_append, List.map_append]
 simpa using h2
theorem zoR {w : World} {g : Nat} {l : List (List UInt8)} (h : At w g 0 (l.map sv)) {i : Nat} (hi : i < l.length) : w.cell? ⟨g, 0 + i, none⟩ = some (.string (str l[i])) := h i _ (by rw [List.getElem?_map, List.getElem?_eq_getElem hi]; rfl)
theorem zcU (a b : List UInt8) : (str a = str b) ↔ a = b := ⟨fun e => by have := congrArg L e; rwa [L_str, L_str] at this, fun e => by rw [e]⟩
section
variable {w : World}
def runeJ (u : List UInt8) : Nat → Nat
 | 0 => (u.getD 0 0).toNat % (if u.length = 2 then 32 else if u.length = 3 then 16 else 8)
 | j + 1 => runeJ u j * 64 + (u.getD (j + 1) 0).toNat % 64
theorem zoe (u : List UInt8) (h1 : 2 ≤ u.length) (h2 : u.length ≤ 4) : runeJ u (u.length - 1) = runeU u := by
 unfold runeU
 rcases (show u.length = 2 ∨ u.length = 3 ∨ u.length = 4 by omega) with h | h | h
 ·rw [h, if_neg (by omega), if_pos rfl]; simp [runeJ, h]
 ·rw [h, if_neg (by omega), if_neg (by omega), if_pos rfl]; simp [runeJ, h]; omega
 ·rw [h, if_neg (by omega), if_neg (by omega), if_neg (by omega)]; simp [runeJ, h]; omega
theorem zjn (u : List UInt8) : ∀ j, j ≤ 3 → runeJ u j < 32 * 64 ^ j
 | 0, _ => by
  unfold runeJ
  repeat' split
  all_goals omega
 | j + 1, h => by
  have := zjn u j (by omega)
  simp only [runeJ, Nat.pow_succ]
  omega
theorem zoK (b n : Nat) (hb : b < 256) (h1 : 2 ≤ n) (h4 : n ≤ 4) : IntKind.i64.wrap ((((IntKind.i64.wrap (b : Int) % 2 ^ IntKind.i64.bits).toNat &&& (Int.fdiv 255 (2 ^ min (IntKind.u64.wrap ((n : Int) + 1)).toNat IntKind.i64.bits) % 2 ^ IntKind.i64.bits).toNat : Nat) : Int)) = ((b % (if n = 2 then 32 else if n = 3 then 16 else 8) : Nat) : Int) := by
 have e : (IntKind.i64.wrap (b : Int) % 2 ^ IntKind.i64.bits).toNat = b := by
  rw [zbl _ (by omega), show IntKind.i64.bits = 64 from rfl]; omega
 rw [e]
 rcases (show n = 2 ∨ n = 3 ∨ n = 4 by omega) with h | h | h
 ·subst h
  rw [show (Int.fdiv 255 (2 ^ min (IntKind.u64.wrap (((2 : Nat) : Int) + 1)).toNat IntKind.i64.bits) % 2 ^ IntKind.i64.bits).toNat = 2 ^ 5 - 1 by decide, Nat.and_two_pow_sub_one_eq_mod]
  rw [zbl _ (by omega)]; rfl
 ·subst h
  rw [show (Int.fdiv 255 (2 ^ min (IntKind.u64.wrap (((3 : Nat) : Int) + 1)).toNat IntKind.i64.bits) % 2 ^ IntKind.i64.bits).toNat = 2 ^ 4 - 1 by decide, Nat.and_two_pow_sub_one_eq_mod]
  rw [zbl _ (by omega)]; rfl
 ·subst h
  rw [show (Int.fdiv 255 (2 ^ min (IntKind.u64.wrap (((4 : Nat) : Int) + 1)).toNat IntKind.i64.bits) % 2 ^ IntKind.i64.bits).toNat = 2 ^ 3 - 1 by decide, Nat.and_two_pow_sub_one_eq_mod]
  rw [zbl _ (by omega)]; rfl
theorem zmU (x : UInt8) : IntKind.i64.wrap (IntKind.u8.wrap ((BitVec.ofInt IntKind.u8.bits ((x.toNat : Nat) : Int) &&& BitVec.ofInt IntKind.u8.bits 63).toNat : Nat)) = ((x.toNat % 64 : Nat) : Int) := by
 have h := UInt8.toNat_lt x
 rw [BitVec.toNat_and, BitVec.toNat_ofInt, BitVec.toNat_ofInt]
 rw [show (((x.toNat : Nat) : Int) % ((2 ^ IntKind.u8.bits : Nat) : Int)).toNat = x.toNat by rw [show ((2 ^ IntKind.u8.bits : Nat) : Int) = 256 from rfl]; omega, show ((63 : Int) % ((2 ^ IntKind.u8.bits : Nat) : Int)).toNat = 2 ^ 6 - 1 by decide, Nat.and_two_pow_sub_one_eq_mod, zbn _ (by omega), zbl _ (by omega)]
theorem zcL (s : ByteArray) (h1 : 1 ≤ s.size) (h4 : s.size ≤ 4) : Calls Tryz.prog 222 #[.string s] w fun e w' => e = .returned (.int .i64 ((runeU (L s) : Nat) : Int)) ∧ w = w' := by
 have hl := L_len s
 refine zaa (args := [.string s]) Tryz.func222 rfl NL ?_; refine GW ?_
 have hb0 : (byteAt s 0).toNat < 256 := UInt8.toNat_lt _
 by_cases hs : s.size = 1
 ·refine GO ?_
  refine ⟨?_, rfl⟩
  rw [zbl _ (by omega)]
  unfold runeU
  rw [if_pos (by omega)]
  rfl
 ·refine GO ?_
  refine Loop.intro (ι := Nat) (fun i => [(0, .string s), (3, .int .i64 (runeJ (L s) i : Nat)), (4, .int .i64 ((i + 1 : Nat) : Int))]) (fun i wr => w = wr ∧ i + 1 ≤ s.size) (fun i => s.size - i) 0 ⟨rfl, ?_, rfl, trivial⟩ ⟨rfl, h1⟩ ?_
  ·exact v_int ((zoK _ _ hb0 (by omega) h4).trans (by unfold runeJ; rw [hl]; rfl))
  rintro i g wr ⟨rfl, hi⟩
  have hle := zjn (L s) i (by omega)
  have hle3 : 32 * 64 ^ i ≤ 32 * 64 ^ 3 := Nat.mul_le_mul_left 32 (Nat.pow_le_pow_right (by omega) (by omega))
  rw [show 32 * 64 ^ 3 = 8388608 from rfl] at hle3
  generalize 32 * 64 ^ i = B at *
  refine GW ?_
  by_cases hlt : i + 1 < s.size
  ·refine GO ?_
   have hbl := zmU (byteAt s (i + 1))
   rw [hbl]
   have hst : runeJ (L s) i * 64 + (byteAt s (i + 1)).toNat % 64 = runeJ (L s) (i + 1) := rfl
   refine GO ?_
   exact ⟨i + 1, ⟨rfl, v_int (by rw [← hst]; omega), rfl, trivial⟩, ⟨rfl, by omega⟩, by dsimp only; omega⟩
  ·refine GO ?_
   refine ⟨?_, rfl⟩
   rw [← zoe (L s) (by omega) (by omega), show (L s).length - 1 = i by omega]
end
section
variable {w : World}
theorem zde (l : List UInt8) (a i : Nat) : (l.drop a).getD i 0 = l.getD (a + i) 0 := by
 rw [List.getD_eq_getElem?_getD, List.getElem?_drop, ← List.getD_eq_getElem?_getD]
theorem zjc {l : List UInt8} (h : need l = 1 ∨ l.length < need l) : ((1 : Int)) = ((refLen l : Nat) : Int) := by unfold refLen; rw [if_pos h]; rfl
theorem zfA {l : List UInt8} {n : Nat} (hn : need l = n) (hl : ¬ (n = 1 ∨ l.length < n)) (i : Nat) (h1 : 1 ≤ i) (h2 : i < n) (h4 : n ≤ 4) (h : ¬ contB l i) : ((1 : Int)) = ((refLen l : Nat) : Int) := by
 unfold refLen
 rw [hn, if_neg hl, if_pos]
 ·rfl
 ·unfold badC
  rcases (show i = 1 ∨ i = 2 ∨ i = 3 by omega) with e | e | e
  ·subst e; exact .inl ⟨by omega, h⟩
  ·subst e; exact .inr (.inl ⟨by omega, h⟩)
  ·subst e; exact .inr (.inr ⟨by omega, h⟩)
theorem zmb {l : List UInt8} {n : Nat} (hn : need l = n) (hl : ¬ (n = 1 ∨ l.length < n)) (hc : ∀ i, 1 ≤ i → i < n → contB l i) (h : runeU (l.take n) < lowN n ∨ 1114111 < runeU (l.take n) ∨ (55296 ≤ runeU (l.take n) ∧ runeU (l.take n) ≤ 57343)) : ((1 : Int)) = ((refLen l : Nat) : Int) := by
 unfold refLen
 rw [hn, if_neg hl, if_neg, if_pos h]
 ·rfl
 ·rintro (⟨h1, h2⟩ | ⟨h1, h2⟩ | ⟨h1, h2⟩)
  ·exact h2 (hc 1 (by omega) (by omega))
  ·exact h2 (hc 2 (by omega) (by omega))
  ·exact h2 (hc 3 (by omega) (by omega))
theorem rl_ok {l : List UInt8} {n : Nat} (hn : need l = n) (hl : ¬ (n = 1 ∨ l.length < n)) (hc : ∀ i, 1 ≤ i → i < n → contB l i) (h : ¬ (runeU (l.take n) < lowN n ∨ 1114111 < runeU (l.take n) ∨ (55296 ≤ runeU (l.take n) ∧ runeU (l.take n) ≤ 57343))) : (n : Int) = ((refLen l : Nat) : Int) := by
 unfold refLen
 rw [hn, if_neg hl, if_neg, if_neg h]
 rintro (⟨h1, h2⟩ | ⟨h1, h2⟩ | ⟨h1, h2⟩)
 ·exact h2 (hc 1 (by omega) (by omega))
 ·exact h2 (hc 2 (by omega) (by omega))
 ·exact h2 (hc 3 (by omega) (by omega))
theorem zgX (s : ByteArray) (at_ : Nat) (hat : at_ < s.size) (hs : s.size ≤ 1000000000) : Calls Tryz.prog 233 #[.string s, .int .i64 (at_ : Nat)] w fun e w' => e = .returned (.int .i64 (((decodeL ((L s).drop at_)).2 : Nat) : Int)) ∧ w = w' := by
 have hl := L_len s
 have hne : (L s).drop at_ ≠ [] := fun e => by
  have := congrArg List.length e
  rw [List.length_drop, List.length_nil] at this; omega
 have hfin := (zhr _ hne).1
 generalize hld : (L s).drop at_ = l at *
 have hll : l.length = s.size - at_ := by rw [← hld, List.length_drop, hl]
 have hb : l.getD 0 0 = byteAt s at_ := by rw [← hld]; exact zde (L s) at_ 0
 have hb0 : (byteAt s at_).toNat < 256 := UInt8.toNat_lt _
 have hnd : need l = if 194 ≤ (byteAt s at_).toNat ∧ (byteAt s at_).toNat ≤ 223 then 2 else if 224 ≤ (byteAt s at_).toNat ∧ (byteAt s at_).toNat ≤ 239 then 3 else if 240 ≤ (byteAt s at_).toNat ∧ (byteAt s at_).toNat ≤ 244 then 4 else 1 := by rw [← hb]; rfl
 refine zaa (args := [.string s, .int .i64 (at_ : Nat)]) Tryz.func233 rfl NL ?_; refine GW ?_
 refine GO ?_
 rw [zbl _ (by omega)]
 generalize (byteAt s at_).toNat = b at *
 by_cases hB : 194 ≤ b ∧ b ≤ 223
 ·rw [if_pos hB] at hnd
  obtain ⟨hB1, hB2⟩ := hB
  refine GO ?_
  by_cases hlen : s.size < at_ + 2
  ·refine GO ?_
   refine ⟨?_, rfl⟩
   rw [← hfin]
   exact zaH (zjc (.inr (by rw [hnd]; omega)))
  ·have hnl : ¬ (2 = 1 ∨ l.length < 2) := by omega
   refine GO ?_
   refine Loop.intro (ι := Nat) (fun i => [(0, .string s), (1, .int .i64 (at_ : Nat)), (6, .int .i64 2), (7, .int .i64 128), (8, .int .i64 ((i + 1 : Nat) : Int))])
    (fun i wr => w = wr ∧ i + 1 ≤ 2 ∧ ∀ j, 1 ≤ j → j < i + 1 → contB l j) (fun i => 4 - i) 0 ⟨rfl, rfl, rfl, rfl, rfl, trivial⟩ ⟨rfl, by omega, fun j h1 h2 => by omega⟩ ?_
   rintro i g wr ⟨rfl, hi, hj⟩
   refine GW ?_
   by_cases hlt : i + 1 < 2
   ·have hbb : l.getD (i + 1) 0 = byteAt s (at_ + (i + 1)) := by rw [← hld]; exact zde (L s) at_ (i + 1)
    have hb1 := UInt8.toNat_lt (byteAt s (at_ + (i + 1)))
    by_cases hlo : (byteAt s (at_ + (i + 1))).toNat < 128
    ·refine GO ?_
     refine ⟨?_, rfl⟩
     rw [← hfin]
     exact zaH (zfA hnd hnl (i + 1) (by omega) hlt (by omega) (by unfold contB; rw [hbb]; omega))
    by_cases hhi : 191 < (byteAt s (at_ + (i + 1))).toNat
    ·refine GO ?_
     refine ⟨?_, rfl⟩
     rw [← hfin]
     exact zaH (zfA hnd hnl (i + 1) (by omega) hlt (by omega) (by unfold contB; rw [hbb]; omega))
    ·refine GO ?_
     exact ⟨i + 1, ⟨rfl, rfl, rfl, rfl, v_int (by omega), trivial⟩, ⟨rfl, by omega, fun j h1 h2 => by
      rcases (show j < i + 1 ∨ j = i + 1 by omega) with h | h
      ·exact hj j h1 h
      ·subst h; unfold contB; rw [hbb]; omega⟩, by dsimp only; omega⟩
   ·have hji : ∀ j, 1 ≤ j → j < 2 → contB l j := fun j h1 h2 => hj j h1 (by omega)
    refine GO ?_
    refine Cut.bothI (by omega) (by omega) (by omega) ?_
    have hx : L (s.extract at_ (at_ + 2)) = l.take 2 := by rw [L_extract, ← List.take_drop, hld]
    have hxs : (s.extract at_ (at_ + 2)).size = 2 := by rw [← L_len, hx, List.length_take]; omega
    rw [show (((at_ : Nat) : Int)).toNat = at_ by omega, show (((at_ : Nat) : Int) + 2).toNat = at_ + 2 by omega]
    refine GO ?_
    refine CallS.of (Tryz.call222 _ _) (zcL (s.extract at_ (at_ + 2)) (by omega) (by omega)) ?_
    rintro e w1 ⟨rfl, rfl⟩
    rw [hx]
    refine RT ?_
    have hrl := zmb (l := l) hnd hnl hji
    have hro := rl_ok (l := l) hnd hnl hji
    generalize runeU (l.take 2) = r at *
    generalize hri : ((r : Nat) : Int) = ri at *
    by_cases q1 : ri < 128
    ·refine GO ?_
     refine ⟨?_, rfl⟩
     rw [← hfin]
     exact zaH (hrl (.inl (by have : lowN 2 = 128 := rfl; omega)))
    by_cases q2 : 1114111 < ri
    ·refine GO ?_
     refine ⟨?_, rfl⟩
     rw [← hfin]
     exact zaH (hrl (.inr (.inl (by omega))))
    by_cases q3 : 55296 ≤ ri
    ·by_cases q4 : ri ≤ 57343
     ·refine GO ?_
      refine ⟨?_, rfl⟩
      rw [← hfin]
      exact zaH (hrl (.inr (.inr (by omega))))
     ·refine GO ?_
      refine ⟨?_, rfl⟩
      rw [← hfin]
      exact zaH (by first | exact hro (by have : lowN 2 = 128 := rfl; omega) | (exfalso; omega))
    ·refine GO ?_
     refine ⟨?_, rfl⟩
     rw [← hfin]
     exact zaH (by first | exact hro (by have : lowN 2 = 128 := rfl; omega) | (exfalso; omega))
 by_cases hC : 224 ≤ b ∧ b ≤ 239
 ·rw [if_neg hB, if_pos hC] at hnd
  obtain ⟨hC1, hC2⟩ := hC
  refine GO ?_
  by_cases hlen : s.size < at_ + 3
  ·refine GO ?_
   refine ⟨?_, rfl⟩
   rw [← hfin]
   exact zaH (zjc (.inr (by rw [hnd]; omega)))
  ·have hnl : ¬ (3 = 1 ∨ l.length < 3) := by omega
   refine GO ?_
   refine Loop.intro (ι := Nat) (fun i => [(0, .string s), (1, .int .i64 (at_ : Nat)), (6, .int .i64 3), (7, .int .i64 2048), (8, .int .i64 ((i + 1 : Nat) : Int))])
    (fun i wr => w = wr ∧ i + 1 ≤ 3 ∧ ∀ j, 1 ≤ j → j < i + 1 → contB l j) (fun i => 4 - i) 0 ⟨rfl, rfl, rfl, rfl, rfl, trivial⟩ ⟨rfl, by omega, fun j h1 h2 => by omega⟩ ?_
   rintro i g wr ⟨rfl, hi, hj⟩
   refine GW ?_
   by_cases hlt : i + 1 < 3
   ·have hbb : l.getD (i + 1) 0 = byteAt s (at_ + (i + 1)) := by rw [← hld]; exact zde (L s) at_ (i + 1)
    have hb1 := UInt8.toNat_lt (byteAt s (at_ + (i + 1)))
    by_cases hlo : (byteAt s (at_ + (i + 1))).toNat < 128
    ·refine GO ?_
     refine ⟨?_, rfl⟩
     rw [← hfin]
     exact zaH (zfA hnd hnl (i + 1) (by omega) hlt (by omega) (by unfold contB; rw [hbb]; omega))
    by_cases hhi : 191 < (byteAt s (at_ + (i + 1))).toNat
    ·refine GO ?_
     refine ⟨?_, rfl⟩
     rw [← hfin]
     exact zaH (zfA hnd hnl (i + 1) (by omega) hlt (by omega) (by unfold contB; rw [hbb]; omega))
    ·refine GO ?_
     exact ⟨i + 1, ⟨rfl, rfl, rfl, rfl, v_int (by omega), trivial⟩, ⟨rfl, by omega, fun j h1 h2 => by
      rcases (show j < i + 1 ∨ j = i + 1 by omega) with h | h
      ·exact hj j h1 h
      ·subst h; unfold contB; rw [hbb]; omega⟩, by dsimp only; omega⟩
   ·have hji : ∀ j, 1 ≤ j → j < 3 → contB l j := fun j h1 h2 => hj j h1 (by omega)
    refine GO ?_
    refine Cut.bothI (by omega) (by omega) (by omega) ?_
    have hx : L (s.extract at_ (at_ + 3)) = l.take 3 := by rw [L_extract, ← List.take_drop, hld]
    have hxs : (s.extract at_ (at_ + 3)).size = 3 := by rw [← L_len, hx, List.length_take]; omega
    rw [show (((at_ : Nat) : Int)).toNat = at_ by omega, show (((at_ : Nat) : Int) + 3).toNat = at_ + 3 by omega]
    refine GO ?_
    refine CallS.of (Tryz.call222 _ _) (zcL (s.extract at_ (at_ + 3)) (by omega) (by omega)) ?_
    rintro e w1 ⟨rfl, rfl⟩
    rw [hx]
    refine RT ?_
    have hrl := zmb (l := l) hnd hnl hji
    have hro := rl_ok (l := l) hnd hnl hji
    generalize runeU (l.take 3) = r at *
    generalize hri : ((r : Nat) : Int) = ri at *
    by_cases q1 : ri < 2048
    ·refine GO ?_
     refine ⟨?_, rfl⟩
     rw [← hfin]
     exact zaH (hrl (.inl (by have : lowN 3 = 2048 := rfl; omega)))
    by_cases q2 : 1114111 < ri
    ·refine GO ?_
     refine ⟨?_, rfl⟩
     rw [← hfin]
     exact zaH (hrl (.inr (.inl (by omega))))
    by_cases q3 : 55296 ≤ ri
    ·by_cases q4 : ri ≤ 57343
     ·refine GO ?_
      refine ⟨?_, rfl⟩
      rw [← hfin]
      exact zaH (hrl (.inr (.inr (by omega))))
     ·refine GO ?_
      refine ⟨?_, rfl⟩
      rw [← hfin]
      exact zaH (by first | exact hro (by have : lowN 3 = 2048 := rfl; omega) | (exfalso; omega))
    ·refine GO ?_
     refine ⟨?_, rfl⟩
     rw [← hfin]
     exact zaH (by first | exact hro (by have : lowN 3 = 2048 := rfl; omega) | (exfalso; omega))
 by_cases hD : 240 ≤ b ∧ b ≤ 244
 ·rw [if_neg hB, if_neg hC, if_pos hD] at hnd
  obtain ⟨hD1, hD2⟩ := hD
  refine GO ?_
  by_cases hlen : s.size < at_ + 4
  ·refine GO ?_
   refine ⟨?_, rfl⟩
   rw [← hfin]
   exact zaH (zjc (.inr (by rw [hnd]; omega)))
  ·have hnl : ¬ (4 = 1 ∨ l.length < 4) := by omega
   refine GO ?_
   refine Loop.intro (ι := Nat) (fun i => [(0, .string s), (1, .int .i64 (at_ : Nat)), (6, .int .i64 4), (7, .int .i64 65536), (8, .int .i64 ((i + 1 : Nat) : Int))])
    (fun i wr => w = wr ∧ i + 1 ≤ 4 ∧ ∀ j, 1 ≤ j → j < i + 1 → contB l j) (fun i => 4 - i) 0 ⟨rfl, rfl, rfl, rfl, rfl, trivial⟩ ⟨rfl, by omega, fun j h1 h2 => by omega⟩ ?_
   rintro i g wr ⟨rfl, hi, hj⟩
   refine GW ?_
   by_cases hlt : i + 1 < 4
   ·have hbb : l.getD (i + 1) 0 = byteAt s (at_ + (i + 1)) := by rw [← hld]; exact zde (L s) at_ (i + 1)
    have hb1 := UInt8.toNat_lt (byteAt s (at_ + (i + 1)))
    by_cases hlo : (byteAt s (at_ + (i + 1))).toNat < 128
    ·refine GO ?_
     refine ⟨?_, rfl⟩
     rw [← hfin]
     exact zaH (zfA hnd hnl (i + 1) (by omega) hlt (by omega) (by unfold contB; rw [hbb]; omega))
    by_cases hhi : 191 < (byteAt s (at_ + (i + 1))).toNat
    ·refine GO ?_
     refine ⟨?_, rfl⟩
     rw [← hfin]
     exact zaH (zfA hnd hnl (i + 1) (by omega) hlt (by omega) (by unfold contB; rw [hbb]; omega))
    ·refine GO ?_
     exact ⟨i + 1, ⟨rfl, rfl, rfl, rfl, v_int (by omega), trivial⟩, ⟨rfl, by omega, fun j h1 h2 => by
      rcases (show j < i + 1 ∨ j = i + 1 by omega) with h | h
      ·exact hj j h1 h
      ·subst h; unfold contB; rw [hbb]; omega⟩, by dsimp only; omega⟩
   ·have hji : ∀ j, 1 ≤ j → j < 4 → contB l j := fun j h1 h2 => hj j h1 (by omega)
    refine GO ?_
    refine Cut.bothI (by omega) (by omega) (by omega) ?_
    have hx : L (s.extract at_ (at_ + 4)) = l.take 4 := by rw [L_extract, ← List.take_drop, hld]
    have hxs : (s.extract at_ (at_ + 4)).size = 4 := by rw [← L_len, hx, List.length_take]; omega
    rw [show (((at_ : Nat) : Int)).toNat = at_ by omega, show (((at_ : Nat) : Int) + 4).toNat = at_ + 4 by omega]
    refine GO ?_
    refine CallS.of (Tryz.call222 _ _) (zcL (s.extract at_ (at_ + 4)) (by omega) (by omega)) ?_
    rintro e w1 ⟨rfl, rfl⟩
    rw [hx]
    refine RT ?_
    have hrl := zmb (l := l) hnd hnl hji
    have hro := rl_ok (l := l) hnd hnl hji
    generalize runeU (l.take 4) = r at *
    generalize hri : ((r : Nat) : Int) = ri at *
    by_cases q1 : ri < 65536
    ·refine GO ?_
     refine ⟨?_, rfl⟩
     rw [← hfin]
     exact zaH (hrl (.inl (by have : lowN 4 = 65536 := rfl; omega)))
    by_cases q2 : 1114111 < ri
    ·refine GO ?_
     refine ⟨?_, rfl⟩
     rw [← hfin]
     exact zaH (hrl (.inr (.inl (by omega))))
    by_cases q3 : 55296 ≤ ri
    ·by_cases q4 : ri ≤ 57343
     ·refine GO ?_
      refine ⟨?_, rfl⟩
      rw [← hfin]
      exact zaH (hrl (.inr (.inr (by omega))))
     ·refine GO ?_
      refine ⟨?_, rfl⟩
      rw [← hfin]
      exact zaH (by first | exact hro (by have : lowN 4 = 65536 := rfl; omega) | (exfalso; omega))
    ·refine GO ?_
     refine ⟨?_, rfl⟩
     rw [← hfin]
     exact zaH (by first | exact hro (by have : lowN 4 = 65536 := rfl; omega) | (exfalso; omega))
 ·rw [if_neg hB, if_neg hC, if_neg hD] at hnd
  have fin : (Ending.returned (.int .i64 1) = .returned (.int .i64 (((decodeL l).2 : Nat) : Int))) ∧ w = w := by
   refine ⟨?_, rfl⟩
   rw [← hfin]
   exact zaH (zjc (.inl hnd))
  by_cases q1 : b < 194
  ·refine GO ?_
   exact ⟨fin.1, rfl⟩
  by_cases q2 : 244 < b
  ·refine GO ?_
   exact ⟨fin.1, rfl⟩
  exfalso; omega
end
end Go.Proofs.YtohhkegmbgancaaGreatDoor
