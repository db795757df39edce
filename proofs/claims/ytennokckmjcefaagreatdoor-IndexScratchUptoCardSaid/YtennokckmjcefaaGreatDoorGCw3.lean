/- Helper lemmas that the proved statement rests on; no conditions of their own. -/
import Derived.Test.YtennokckmjcefaaGreatDoorGShf2
set_option linter.unusedVariables false
set_option maxHeartbeats 4000000
set_option maxRecDepth 100000
namespace Go.Proofs.YtennokckmjcefaaGreatDoor
open Go.RowKit Go.Pw Go.Vc Go.Cs Go.Lib
def spF (x : Int × Int × Int × Int) : List Value := [.int .i32 x.1, .int .i32 x.2.1, .int .i32 x.2.2.1, .int .i32 x.2.2.2]
def FoldTab (w : World) : Prop := ∃ b o c, w.cell? ⟨1, 0, none⟩ = some (.slice (some ⟨b, o, none⟩) 17 c) ∧ ∀ i, i < 17 → At w b (o + i * 4) (spF (foldSp i))
theorem FoldTab.keep {w w' : World} (h : FoldTab w) (k : Kp w w' n_) : FoldTab w' := by
 obtain ⟨b, o, c, h1, h2⟩ := h
 exact ⟨b, o, c, by rw [k.cell (cell_lt h1) id]; exact h1, fun i hi => zbK (h2 i hi) k⟩
section
variable {w : World}
theorem znM (i : Nat) (hi : i < 17) (r : Int) : Calls Tryz.prog 250 #[.agg (spF (foldSp i)).toArray, .int .i32 r] w fun e w' => e = .returned (.int .i64 (cmpF i r)) ∧ Kp w w' n_ := by
 unfold cmpF spF
 generalize foldSp i = x
 obtain ⟨lo, hi', st, mo⟩ := x
 dsimp only
 refine zaa (args := [.agg #[.int .i32 lo, .int .i32 hi', .int .i32 st, .int .i32 mo], .int .i32 r]) Tryz.func250 rfl NL ?_; refine GW ?_
 have k0 : Kp w (w.alloc (.cells #[.int .i32 lo, .int .i32 hi', .int .i32 st, .int .i32 mo] 256)) n_ := (Kp.refl _ _).alloc _
 have hA := zfc (heap_alloc_new w (.cells #[.int .i32 lo, .int .i32 hi', .int .i32 st, .int .i32 mo] 256))
 have c0 : (w.alloc (.cells #[.int .i32 lo, .int .i32 hi', .int .i32 st, .int .i32 mo] 256)).cell? ⟨w.heap.size, 0, none⟩ = some (.int .i32 lo) := hA 0 _ rfl
 have c1 : (w.alloc (.cells #[.int .i32 lo, .int .i32 hi', .int .i32 st, .int .i32 mo] 256)).cell? ⟨w.heap.size, 0 + 1, none⟩ = some (.int .i32 hi') := hA 1 _ rfl
 generalize w.alloc (.cells #[.int .i32 lo, .int .i32 hi', .int .i32 st, .int .i32 mo] 256) = w1 at *
 by_cases h1 : hi' < r
 ·refine GO ?_
  exact ⟨by rw [if_pos h1], k0⟩
 ·by_cases h2 : r < lo
  ·refine GO ?_
   exact ⟨by rw [if_neg h1, if_pos h2], k0⟩
  ·refine GO ?_
   exact ⟨by rw [if_neg h1, if_neg h2], k0⟩
theorem zrE (b o c : Nat) (hT : ∀ i, i < 17 → At w b (o + i * 4) (spF (foldSp i))) (r : Int) : Calls Tryz.prog 249 #[.slice (some ⟨b, o, none⟩) 17 c, .int .i32 r, .func (.func 250) #[] #[]] w fun e w' =>
  ∃ k, e = .returned (.tuple #[.int .i64 (k : Nat), .bool (decide (k < 17 ∧ cmpF k r = 0))]) ∧ Pos (fun i => cmpF i r) 17 k ∧ Kp w w' n_ := by
 refine zaa (args := [.slice (some ⟨b, o, none⟩) 17 c, .int .i32 r, .func (.func 250) #[] #[]]) Tryz.func249 rfl NL ?_; refine GW ?_
 refine Loop.intro (ι := Nat × Nat) (fun p => [(0, .slice (some ⟨b, o, none⟩) 17 c), (1, .int .i32 r), (2, .func (.func 250) #[] #[]), (8, .int .i64 17), (9, .int .i64 p.1), (10, .int .i64 p.2)])
  (fun p wr => Kp w wr n_ ∧ p.1 ≤ p.2 ∧ p.2 ≤ 17 ∧ (∀ m, m < p.1 → cmpF m r < 0) ∧ ∀ m, p.2 ≤ m → m < 17 → 0 ≤ cmpF m r) (fun p => p.2 - p.1) (0, 17) ⟨rfl, rfl, rfl, rfl, rfl, rfl, trivial⟩
  ⟨Kp.refl _ _, by omega, Nat.le_refl _, fun m hm => by omega, fun m h1 h2 => by omega⟩ ?_
 rintro ⟨i, j⟩ g wr ⟨hK, hij, hj, hlo, hhi⟩
 dsimp only at hij hj hlo hhi ⊢
 refine GW ?_
 by_cases hlt : i < j
 ·refine GO ?_
  rw [zhP i j (by omega)]
  have hm1 : i ≤ (i + j) / 2 := by omega
  have hm2 : (i + j) / 2 < j := by omega
  generalize (i + j) / 2 = h at *
  refine GO ?_
  refine Load.agg (spF (foldSp h)) (by rfl) (by rfl) (by rfl) (zbK (hT h (by omega)) hK) ?_
  refine GO ?_
  refine CallS.of (Tryz.call250 _ _) (znM h (by omega) r) ?_
  rintro e w1 ⟨rfl, k1⟩
  refine RT ?_
  by_cases hc : cmpF h r < 0
  ·refine GO ?_
   refine ⟨(h + 1, j), ⟨rfl, rfl, rfl, rfl, v_int (by simp), rfl, trivial⟩, ⟨hK.trans0 k1, by dsimp only; omega, hj, fun m hm => ?_, hhi⟩, by dsimp only; omega⟩
   by_cases e : m = h
   ·rw [e]; exact hc
   ·exact ziC m h (by dsimp only at hm; omega) (by omega) r hc
  ·refine GO ?_
   refine ⟨(i, h), ⟨rfl, rfl, rfl, rfl, rfl, rfl, trivial⟩, ⟨hK.trans0 k1, by dsimp only; omega, by dsimp only; omega, hlo, fun m m1 m2 => ?_⟩, by dsimp only; omega⟩
   dsimp only at m1
   by_cases e : m = h
   ·rw [e]; omega
   ·have hx : ¬ cmpF m r < 0 := fun hn => hc (ziC h m (by omega) m2 r hn)
    omega
 ·have hji : j = i := by omega
  subst hji
  have hpos : Pos (fun i => cmpF i r) 17 j := ⟨hj, hlo, hhi⟩
  by_cases h17 : j < 17
  ·refine GO ?_
   refine Load.agg (spF (foldSp j)) (by rfl) (by rfl) (by rfl) (zbK (hT j h17) hK) ?_
   refine GO ?_
   refine CallS.of (Tryz.call250 _ _) (znM j h17 r) ?_
   rintro e w1 ⟨rfl, k1⟩
   refine RT ?_
   refine GO ?_
   exact ⟨j, by rw [show decide (j < 17 ∧ cmpF j r = 0) = (cmpF j r == 0) by by_cases h0 : cmpF j r = 0 <;> simp [h0, h17]], hpos, hK.trans0 k1⟩
  ·refine GO ?_
   exact ⟨j, by rw [show decide (j < 17 ∧ cmpF j r = 0) = false by simp [h17]], hpos, hK⟩
theorem zgQ (n : Nat) (hn : n ≤ 1114111) (hT : FoldTab w) : Calls Tryz.prog 213 #[.int .i32 (n : Int)] w fun e w' => e = .returned (.int .i32 ((lowC n : Nat) : Int)) ∧ Kp w w' n_ := by
 obtain ⟨b, o, c, hg, ht⟩ := hT
 refine zaa (args := [.int .i32 (n : Int)]) Tryz.func213 rfl NL ?_; refine GW ?_
 refine GO ?_
 refine CallS.of (Tryz.call249 _ _) (zrE b o c ht (n : Int)) ?_
 rintro e w1 ⟨k, rfl, hp, k1⟩
 refine RT ?_
 have hg1 := (k1.cell (p := ⟨1, 0, none⟩) (cell_lt hg) id).trans hg
 have hg2 : w1.drew.cell? ⟨1, 0, none⟩ = _ := hg1
 by_cases hf : k < 17 ∧ cmpF k (n : Int) = 0
 ·have hz := znh k n hf.2
  have hl := znT k hf.1 n hz
  have hft := zgT ⟨k, hf.1⟩
  simp only at hft
  have c0 : w1.drew.cell? ⟨b, o + k * 4, none⟩ = some (.int .i32 (foldSp k).1) := (zbK (ht k hf.1) k1) 0 _ rfl
  have c2 : w1.drew.cell? ⟨b, o + k * 4 + 2, none⟩ = some (.int .i32 (foldSp k).2.2.1) := (zbK (ht k hf.1) k1) 2 _ rfl
  have c3 : w1.drew.cell? ⟨b, o + k * 4 + 3, none⟩ = some (.int .i32 (foldSp k).2.2.2) := (zbK (ht k hf.1) k1) 3 _ rfl
  rw [decide_eq_true hf]
  have hs : (foldSp k).2.2.1 = 1 ∨ (foldSp k).2.2.1 = 2 := by omega
  generalize (foldSp k).1 = lo at *
  generalize (foldSp k).2.1 = hi at *
  generalize (foldSp k).2.2.1 = st at *
  generalize (foldSp k).2.2.2 = mo at *
  rcases hs with rfl | rfl
  ·refine GO ?_
   rw [Int.tmod_eq_emod_of_nonneg (by omega)]
   refine GO ?_
   exact ⟨by rw [hl, if_pos (by omega)], k1.drew⟩
  ·refine GO ?_
   rw [Int.tmod_eq_emod_of_nonneg (by omega)]
   by_cases hm : ((n : Int) - lo) % 2 = 0
   ·refine GO ?_
    exact ⟨by rw [hl, if_pos hm], k1.drew⟩
   ·refine GO ?_
    exact ⟨by rw [hl, if_neg hm], k1.drew⟩
 ·have hl := zsE n fun m hm => zpD k n hp hf m hm
  rw [decide_eq_false hf]
  refine GO ?_
  exact ⟨by rw [hl], k1.drew⟩
theorem zpT {B b bi p : Nat} {s : ByteArray} {l : List UInt8} {o : Obj} (h : Bld w B b l) (hi : w.heap[bi]? = some (.stringIter s p)) : Bld (setO w bi o) B b l := by
 have key : ∀ p', BuilderAtF 93 5 B b p' (Go.Lib.byteCells l) w → BuilderAtF 93 5 B b p' (Go.Lib.byteCells l) (setO w bi o) := by
  rintro p' ⟨hB, v, hb, hown, hne⟩
  have hbb : b ≠ bi := fun e => by subst e; rw [hi] at hb; cases hb
  refine ⟨hB, v, ?_, ?_, hne⟩
  ·rw [(zbT o).block b (zbo hb) (fun e => hbb e)]; exact hb
  ·refine hown.kept (row := some bi) ⟨rfl, rfl, rfl, by simp [setO], fun k hk hn => (zbT o).block k hk fun e => hn (congrArg some e)⟩ (Or.inr ?_)
   rcases hown.2 with ⟨rfl, _⟩ | ⟨g, cap, cur, fz, rfl, _, hg, _⟩
   ·simp [Value.ownBlock]
   ·intro e
    simp only [Value.ownBlock, Option.some.injEq] at e
    subst e
    rw [hi] at hg; cases hg
 rcases h with h | h
 ·exact .inl (key _ h)
 ·exact .inr (key _ h)
theorem zmO {b bi p : Nat} {s : ByteArray} {w' : World} (h : w.heap[bi]? = some (.stringIter s p)) (hk : OthersKept 5 (some b) w w') (hne : bi ≠ b) : w'.heap[bi]? = some (.stringIter s p) :=
 hk bi _ h (fun e => hne (by injection e)) fun c fz e => by cases e
theorem zba {B b : Nat} {l : List UInt8} {w' : World} (h : Bld w B b l) (k : Kp w w' n_) : Bld w' B b l := by
 have key : ∀ p', BuilderAtF 93 5 B b p' (Go.Lib.byteCells l) w → BuilderAtF 93 5 B b p' (Go.Lib.byteCells l) w' := by
  rintro p' ⟨hB, v, hb, hown, hne⟩
  refine ⟨hB, v, (k.block b (zbo hb) id).trans hb, ?_, hne⟩
  refine hown.kept (row := none) ⟨k.os, k.tape, k.output, k.size, fun i hi _ => k.block i hi id⟩ ?_
  cases v.ownBlock <;> simp
 rcases h with h | h
 ·exact .inl (key _ h)
 ·exact .inr (key _ h)
theorem zfo (s p : ByteArray) (w : World) : Calls Tryz.prog 111 #[.string s, .string p] w fun e w' => e = .returned (.bool (hasPrefix (L s) (L p))) ∧ w = w' :=
 (Any.strings_HasPrefix lays99 s p w).mono fun e w' ⟨h1, h2⟩ => ⟨h1, h2.symm⟩
theorem zjS (s : ByteArray) (i : Nat) (hi : i < s.size) (hc : (decodeL ((L s).drop i)).1 = 65533) : hasPrefix (L (s.extract i s.size)) [239, 191, 189] = !decide ((decodeL ((L s).drop i)).2 = 1) := by
 rw [L_from]
 have hne : (L s).drop i ≠ [] := by
  rw [← L_from]; exact L_ne (by simp; omega)
 unfold hasPrefix
 generalize (L s).drop i = l at *
 rcases bad_or l hne with h | ⟨c, hs, hd, ht⟩
 ·rw [h]
  cases hp : List.isPrefixOf [239, 191, 189] l
  ·rfl
  ·exfalso
   obtain ⟨t, e⟩ := List.isPrefixOf_iff_prefix.1 hp
   have he : enc 65533 = [239, 191, 189] := by decide
   have := zdw l 65533 zlq (by rw [he, ← e]; rfl)
   rw [h] at this
   exact zkm _ this
 ·rw [hd] at hc ⊢
  simp only at hc
  subst hc
  have he : enc 65533 = [239, 191, 189] := by decide
  rw [he] at ht ⊢
  have : List.isPrefixOf [239, 191, 189] l = true := by
   rw [List.isPrefixOf_iff_prefix, ← ht]; exact List.take_prefix _ _
  rw [this]; rfl
theorem zny (s : ByteArray) (hT : FoldTab w) (hs : s.size ≤ 100000000) : Calls Tryz.prog 147 #[.string s] w fun e w' => e = .returned (.string (str (foldL (L s)))) ∧ Kp w w' n_ := by
 have hl := L_len s
 refine zaa (args := [.string s]) Tryz.func147 rfl NL ?_; refine GW ?_
 have hb0 := zek w w.heap.size (Nat.le_refl _)
 have K0 : Kp w (w.alloc (.cells #[.pointer none, .slice none 0 0] 93)) n_ := (Kp.refl _ _).alloc _
 have hz0 : (w.alloc (.cells #[.pointer none, .slice none 0 0] 93)).heap.size = w.heap.size + 1 := by simp
 generalize w.alloc (.cells #[.pointer none, .slice none 0 0] 93) = w0 at *
 refine RunV.rangeS Tryz.underlying9 ?_
 refine GW ?_
 rw [hz0]
 have hi0 : (w0.alloc (.stringIter s 0)).heap[w.heap.size + 1]? = some (.stringIter s 0) := by rw [← hz0]; exact heap_alloc_new _ _
 have hb1 : Bld (w0.alloc (.stringIter s 0)) w.heap.size w.heap.size [] := by
  rcases hb0 with h | h
  ·exact .inl (h.alloc _)
  ·exact .inr (h.alloc _)
 have K1 := K0.alloc (.stringIter s 0)
 generalize w0.alloc (.stringIter s 0) = w1 at *
 refine Loop.intro (ι := Nat × List UInt8) (fun i => [(0, .string s), (3, .pointer (some ⟨w.heap.size, 0, none⟩)), (7, .pointer (some ⟨w.heap.size + 1, 0, none⟩))])
  (fun i wr => Kp w wr n_ ∧ i.1 ≤ s.size ∧ Bld wr w.heap.size w.heap.size i.2 ∧ wr.heap[w.heap.size + 1]? = some (.stringIter s i.1) ∧ foldL (L s) = i.2 ++ foldL ((L s).drop i.1) ∧ i.2.length = i.1) (fun i => s.size - i.1) (0, []) ⟨rfl, rfl, rfl, trivial⟩
  ⟨K1, Nat.zero_le _, hb1, hi0, rfl, rfl⟩ ?_
 rintro ⟨n, d⟩ g wr ⟨hK, hn, hb, hi, he, hdl⟩
 dsimp only at hn hb hi he hdl ⊢
 refine GW ?_
 by_cases hlt : n < s.size
 ·refine RunV.nextS hi hlt ?_
  have hne : (L s).drop n ≠ [] := by rw [← L_from]; exact L_ne (by simp; omega)
  have hw := decodeL_width ((L s).drop n)
  have hle := decodeL_le _ hne
  have hru := decodeL_rune ((L s).drop n)
  rw [List.length_drop] at hle
  rw [zbl _ hne, List.drop_drop] at he
  have hh := zdz _ hne
  have hpre := zjS s n hlt
  have hb2 : Bld (setO wr (w.heap.size + 1) (.stringIter s (n + (decodeL ((L s).drop n)).2))) w.heap.size w.heap.size d := zpT hb hi
  have hi2 : (setO wr (w.heap.size + 1) (.stringIter s (n + (decodeL ((L s).drop n)).2))).heap[w.heap.size + 1]? = some (.stringIter s (n + (decodeL ((L s).drop n)).2)) := zeL _ (zbo hi)
  have K2 : Kp w (setO wr (w.heap.size + 1) (.stringIter s (n + (decodeL ((L s).drop n)).2))) n_ := hK.trans (zbT _) fun i hi h => by have h : i = w.heap.size + 1 := h; omega
  generalize setO wr (w.heap.size + 1) (.stringIter s (n + (decodeL ((L s).drop n)).2)) = w2 at *
  have hdr : (L s).drop n ≠ [] := hne
  have key : ∀ (x : List UInt8) (w' : World), x.length = (decodeL ((L s).drop n)).2 → head1 ((L s).drop n) = x → Bld w' w.heap.size w.heap.size (d ++ x) → Below w.heap.size w2 w' → OthersKept 5 (some w.heap.size) w2 w' →
    (Kp w w' n_ ∧ n + (decodeL ((L s).drop n)).2 ≤ s.size ∧ Bld w' w.heap.size w.heap.size (d ++ x) ∧ w'.heap[w.heap.size + 1]? = some (.stringIter s (n + (decodeL ((L s).drop n)).2)) ∧ foldL (L s) = (d ++ x) ++ foldL ((L s).drop (n + (decodeL ((L s).drop n)).2)) ∧ (d ++ x).length = n + (decodeL ((L s).drop n)).2) := by
   intro x w' hx hhx hbx hbe hok
   refine ⟨K2.below' hbe (Nat.le_refl _), by omega, hbx, zmO hi2 hok (by omega), by rw [he, hhx, List.append_assoc], by rw [List.length_append, hx, hdl]⟩
  by_cases hc : (decodeL ((L s).drop n)).1 = 65533
  ·have hpre := hpre hc
   refine GO ?_
   refine CallS.of (Tryz.call111 _ _) (zfo (s.extract n s.size) ⟨#[239, 191, 189]⟩ w2) ?_
   rintro e w' ⟨rfl, rfl⟩
   rw [show hasPrefix (L (s.extract n s.size)) (L ⟨#[239, 191, 189]⟩) = !decide ((decodeL ((L s).drop n)).2 = 1) from hpre]
   by_cases hk : (decodeL ((L s).drop n)).2 = 1
   ·rw [decide_eq_true hk]
    refine RT ?_
    refine GO ?_
    obtain ⟨x, hx0, hx1, hx2, hx3⟩ := zop s n hlt
    have hx0 : byteAt s n = x := hx0
    rw [hx0]
    refine CallS.of (Tryz.call123 _ _) (zdp x w2 hb2 (by omega) K2.size) ?_
    rintro e w3 ⟨rfl, hb3, hbe, hok⟩
    refine RT ?_
    have := key [x] w3 (by rw [hk]; rfl) (by unfold head1; rw [if_pos ⟨hc, hk⟩, hx3]; rfl) hb3 hbe hok
    exact ⟨(n + (decodeL ((L s).drop n)).2, d ++ [x]), ⟨rfl, rfl, rfl, trivial⟩, this, by dsimp only; omega⟩
   ·rw [decide_eq_false hk]
    refine RT ?_
    refine GO ?_
    refine CallS.of (Tryz.call213 _ _) (zgQ (decodeL ((L s).drop n)).1 hru (hT.keep K2)) ?_
    rintro e w3 ⟨rfl, k3⟩
    refine RT ?_
    have hb3 : Bld w3 w.heap.size w.heap.size d := zba hb2 k3
    have hlo := zqP _ hru
    refine CallS.of (Tryz.call212 _ _) (zfy ((lowC (decodeL ((L s).drop n)).1 : Nat) : Int) (by omega) (by omega) w3 hb3 (by omega) (Nat.le_trans K2.size k3.size)) ?_
    rintro e w4 ⟨⟨q, rfl⟩, hb4, hbe, hok⟩
    refine RT ?_
    have hh1 : head1 ((L s).drop n) = enc (lowC (decodeL ((L s).drop n)).1) := by unfold head1; rw [if_neg (by omega)]
    have := key (enc (lowC (decodeL ((L s).drop n)).1)) w4 (by rw [← hh1]; exact hh) hh1 hb4 (k3.below.mono K2.size |>.trans hbe) (fun k o h1 h2 h3 => hok k o ((k3.block k (zbo h1) id).trans h1) h2 h3)
    exact ⟨(n + (decodeL ((L s).drop n)).2, d ++ enc (lowC (decodeL ((L s).drop n)).1)), ⟨rfl, rfl, rfl, trivial⟩, this, by dsimp only; omega⟩
  ·refine GO ?_
   refine CallS.of (Tryz.call213 _ _) (zgQ (decodeL ((L s).drop n)).1 hru (hT.keep K2)) ?_
   rintro e w3 ⟨rfl, k3⟩
   refine RT ?_
   have hb3 : Bld w3 w.heap.size w.heap.size d := zba hb2 k3
   have hlo := zqP _ hru
   refine CallS.of (Tryz.call212 _ _) (zfy ((lowC (decodeL ((L s).drop n)).1 : Nat) : Int) (by omega) (by omega) w3 hb3 (by omega) (Nat.le_trans K2.size k3.size)) ?_
   rintro e w4 ⟨⟨q, rfl⟩, hb4, hbe, hok⟩
   refine RT ?_
   have hh1 : head1 ((L s).drop n) = enc (lowC (decodeL ((L s).drop n)).1) := by unfold head1; rw [if_neg (by omega)]
   have := key (enc (lowC (decodeL ((L s).drop n)).1)) w4 (by rw [← hh1]; exact hh) hh1 hb4 (k3.below.mono K2.size |>.trans hbe) (fun k o h1 h2 h3 => hok k o ((k3.block k (zbo h1) id).trans h1) h2 h3)
   exact ⟨(n + (decodeL ((L s).drop n)).2, d ++ enc (lowC (decodeL ((L s).drop n)).1)), ⟨rfl, rfl, rfl, trivial⟩, this, by dsimp only; omega⟩
 ·refine RunV.nextE hi hlt ?_
  refine GO ?_
  have hn0 : (L s).drop n = [] := List.drop_eq_nil_of_le (by omega)
  rw [hn0, znD, List.append_nil] at he
  refine CallS.of (Tryz.call71 _ _) (zdh wr hb hK.size) ?_
  rintro e w3 ⟨rfl, _, hbe, _⟩
  refine RT ?_
  exact ⟨zsa (by rw [he]), hK.below' hbe (Nat.le_refl _)⟩
end
theorem or32 : ∀ x : Fin 192, IntKind.i64.wrap (((BitVec.ofInt IntKind.i64.bits ((x.val : Nat) : Int) ||| BitVec.ofInt IntKind.i64.bits 32).toNat : Nat) : Int) = (((x.val ||| 32 : Nat)) : Int) := by decide +kernel
theorem zsR : ∀ x : Fin 192, (97 ≤ (x.val ||| 32) ∧ (x.val ||| 32) ≤ 122) ↔ (65 ≤ x.val ∧ x.val ≤ 90) ∨ (97 ≤ x.val ∧ x.val ≤ 122) := by decide +kernel
theorem zom (r : Nat) (h : r < 192) : kindN r = if (48 ≤ r ∧ r ≤ 57) ∨ (65 ≤ r ∧ r ≤ 90) ∨ (97 ≤ r ∧ r ≤ 122) then 1 else 0 := by
 unfold kindN
 rw [if_neg (by omega), if_pos h]
 repeat' split
 all_goals omega
section
variable {w : World}
theorem zkL (r : Int) (hT : CutTab w) : Calls Tryz.prog 149 #[.int .i64 r] w fun e w' => e = .returned (.int .i64 ((kindI r : Nat) : Int)) ∧ Kp w w' n_ := by
 refine zaa (args := [.int .i64 r]) Tryz.func149 rfl NL ?_; refine GW ?_
 unfold kindI
 by_cases h0 : r < 0
 ·refine GO ?_
  exact ⟨by rw [if_pos h0]; rfl, Kp.refl _ _⟩
 rw [if_neg h0]
 obtain ⟨n, rfl⟩ : ∃ n : Nat, r = n := ⟨r.toNat, by omega⟩
 rw [Int.toNat_natCast]
 by_cases h1 : 1114111 < n
 ·refine GO ?_
  exact ⟨zch (by unfold kindN; rw [if_pos h1]; rfl), Kp.refl _ _⟩
 by_cases h2 : n < 192
 ·have e1 := or32 ⟨n, h2⟩
  have e2 := zsR ⟨n, h2⟩
  have e3 := zom n h2
  simp only at e1 e2
  generalize (n ||| 32) = m at *
  by_cases h3 : 48 ≤ n
  ·by_cases h4 : n ≤ 57
   ·refine GO ?_
    exact ⟨zch (by rw [e3, if_pos (by omega)]; rfl), Kp.refl _ _⟩
   ·refine GO ?_
    rw [e1]
    by_cases h5 : 97 ≤ m
    ·by_cases h6 : m ≤ 122
     ·refine GO ?_
      exact ⟨zch (by rw [e3, if_pos (.inr (e2.1 ⟨h5, h6⟩))]; rfl), Kp.refl _ _⟩
     ·refine GO ?_
      exact ⟨zch (by rw [e3, if_neg (by rintro (h | h); omega; exact h6 (e2.2 h).2)]; rfl), Kp.refl _ _⟩
    ·refine GO ?_
     exact ⟨zch (by rw [e3, if_neg (by rintro (h | h); omega; exact h5 (e2.2 h).1)]; rfl), Kp.refl _ _⟩
  ·refine GO ?_
   rw [e1]
   by_cases h5 : 97 ≤ m
   ·by_cases h6 : m ≤ 122
    ·refine GO ?_
     exact ⟨zch (by rw [e3, if_pos (.inr (e2.1 ⟨h5, h6⟩))]; rfl), Kp.refl _ _⟩
    ·refine GO ?_
     exact ⟨zch (by rw [e3, if_neg (by rintro (h | h); omega; exact h6 (e2.2 h).2)]; rfl), Kp.refl _ _⟩
   ·refine GO ?_
    exact ⟨zch (by rw [e3, if_neg (by rintro (h | h); omega; exact h5 (e2.2 h).1)]; rfl), Kp.refl _ _⟩
 ·obtain ⟨b, o, c, hg, ht⟩ := hT
  refine GO ?_
  refine CallS.of (Tryz.call214 _ _) (zsX b o c ht (n : Int)) ?_
  rintro e w1 ⟨k, rfl, hp, k1⟩
  refine RT ?_
  have hg1 := (k1.cell (p := ⟨0, 0, none⟩) (cell_lt hg) id).trans hg
  by_cases hf : k < 19 ∧ cmpC k (n : Int) = 0
  ·have hz := zmt k n hf.2 hf.1
   have hk := zma k hf.1 n (by omega) (by omega) hz
   have hc : w1.cell? ⟨b, o + k * 3 + 2, none⟩ = some (.int .i64 (cutSp k).2.2) := (zbK (ht k hf.1) k1) 2 _ rfl
   rw [decide_eq_true hf]
   refine GO ?_
   exact ⟨zch hk.symm, k1⟩
  ·have hk := zqm n (by omega) (by omega) fun m hm => zpN k n hp hf m hm
   rw [decide_eq_false hf]
   refine GO ?_
   exact ⟨zch (by rw [hk]; rfl), k1⟩
end
section
end
section
end
theorem _root_.Go.Pw.Kp.ofGrown {w w' : World} {row : Option Nat} (h : w.grownBy w' row) : Kp w w' (fun k => row = some k) :=
 ⟨h.os, h.tape, h.output, h.size, fun k hk hn => h.block k hk fun e => hn e.symm⟩
abbrev Wd := List UInt8 × Nat × Nat
def wordCells (x : Wd) : List Value := [.string (str x.1), .int .i64 (x.2.1 : Nat), .int .i64 (x.2.2 : Nat)]
def Wds (w : World) (B : Nat) (v : Value) (l : List Wd) : Prop := w.ownsRow B 116 3 v l.length (l.flatMap wordCells)
theorem wordInfo : (Tryz.prog.info? 116).map (fun i => (i.zero, i.size, i.bytes)) = some (some (.agg #[.string ⟨#[]⟩, .int .i64 0, .int .i64 0]), 3, 32) := by kernel_rfl
theorem zlX (s : ByteArray) (a b : Int) (w : World) : (Instr.build 116 [(0, .string s), (1, .int .i64 a), (2, .int .i64 b)].toArray).run Tryz.prog w = .ok (.agg #[.string s, .int .i64 a, .int .i64 b]) w := by
 simp [Instr.build, Instr.fill, go_sem, Tryz.runUnderlying116]
theorem zil (s : ByteArray) (a b : Int) (w : World) : (Instr.buildSlice 113 1 [(0, .agg #[.string s, .int .i64 a, .int .i64 b])].toArray).run Tryz.prog w = .ok (.slice (some ⟨w.heap.size, 0, none⟩) 1 1) (w.alloc (.cells #[.string s, .int .i64 a, .int .i64 b] 116)) := by
 simp [Instr.buildSlice, go_sem, Tryz.runUnderlying113]
theorem zpW {w : World} {K : Value → World → Prop} {B : Nat} {v : Value} {l : List Wd} {cs : Array Bool} (h : Wds w B v l) (hB : B ≤ w.heap.size) (x : Wd) (hl : l.length ≤ 1000000000)
  (k : ∀ v' w', Wds w' B v' (l ++ [x]) → (w.alloc (.cells (wordCells x).toArray 116)).grownBy w' v.ownBlock → K v' w') :
  RunN Tryz.prog (builtin .append #[113, 113] 113 cs [v, .slice (some ⟨w.heap.size, 0, none⟩) 1 1].toArray) (w.alloc (.cells (wordCells x).toArray 116)) K := by
 refine RunN.app Tryz.underlying113 wordInfo rfl (by decide) (zac h ((Kp.refl _ _).alloc _)) (Nat.le_trans hB ((Kp.refl w n_).alloc _).size) ⟨w.heap.size, 0, none⟩ 1 1 (wordCells x) rfl (zgi _ _ _) (by simp [wordCells, Value.oneCell']) (by omega) (by omega) fun v' w' h2 h3 => k v' w' ?_ h3
 unfold Wds
 rw [List.length_append, List.flatMap_append]
 simpa using h2
structure WSt (w0 w : World) (bs bo bf : Nat) (s : ByteArray) (v : Value) (l : List Wd) (fr : Int) : Prop where
 k : Kp w0 w n_
 hbs : w0.heap.size ≤ bs
 hbo : w0.heap.size ≤ bo
 hbf : w0.heap.size ≤ bf
 cs : Var1 w bs 9 (.string s)
 co : Var1 w bo 113 v
 cf : Var1 w bf 3 (.int .i64 fr)
 row : Wds w w0.heap.size v l
section
variable {w0 w : World} {bs bo bf : Nat} {s : ByteArray} {v : Value} {l : List Wd} {fr : Int}
theorem WSt.setFrom (h : WSt w0 w bs bo bf s v l fr) (x : Int) : WSt w0 (w.setCell ⟨bf, 0, none⟩ (.int .i64 x)) bs bo bf s v l x :=
 ⟨h.k.setCell (p := ⟨bf, 0, none⟩) (.inr h.hbf) _, h.hbs, h.hbo, h.hbf, h.cs.set_ne (h.cs.ne h.cf (by decide)), h.co.set_ne (h.co.ne h.cf (by decide)), h.cf.set _,
  zak h.row ((Kp.refl w (one_ bf)).setCell (p := ⟨bf, 0, none⟩) (.inl rfl) _) fun b hb e => h.cf.ne_own h.row (by decide) (by rw [hb]; exact congrArg some e)⟩
theorem WSt.iter {bi : Nat} {t : ByteArray} {p : Nat} {o : Obj} (h : WSt w0 w bs bo bf s v l fr) (hi : w.heap[bi]? = some (.stringIter t p)) (hb : w0.heap.size ≤ bi) : WSt w0 (setO w bi o) bs bo bf s v l fr := by
 have k := zbT (w := w) (b := bi) o
 have ne : ∀ {b : Nat} {T : TypeId} {u : Value}, Var1 w b T u → ¬ one_ bi b := fun hv e => by
  have e : _ = bi := e
  unfold Var1 at hv
  rw [e, hi] at hv; cases hv
 refine ⟨h.k.trans k fun i hi' e => ?_, h.hbs, h.hbo, h.hbf, h.cs.keep k (ne h.cs), h.co.keep k (ne h.co), h.cf.keep k (ne h.cf), zak h.row k fun b hb e => ?_⟩
 ·have e : i = bi := e
  omega
 ·have e : b = bi := e
  rcases h.row.2 with ⟨hn, _⟩ | ⟨g, cap, cur, hn, _, hg, _⟩
  ·rw [hn] at hb; cases hb
  ·rw [hn] at hb
   injection hb with hb
   have hb : g = b := hb
   rw [hb, e, hi] at hg; cases hg
theorem WSt.keep {w' : World} (h : WSt w0 w bs bo bf s v l fr) (k : Kp w w' n_) : WSt w0 w' bs bo bf s v l fr :=
 ⟨h.k.trans0 k, h.hbs, h.hbo, h.hbf, h.cs.keep k id, h.co.keep k id, h.cf.keep k id, zac h.row k⟩
def IterKept (w w' : World) : Prop := ∀ (bi : Nat) (t : ByteArray) (p : Nat), w.heap[bi]? = some (.stringIter t p) → w'.heap[bi]? = some (.stringIter t p)
theorem IterKept.trans {a b c : World} (h : IterKept a b) (k : IterKept b c) : IterKept a c := fun bi t p hi => k bi t p (h bi t p hi)
theorem IterKept.set {w : World} {b : Nat} {T : TypeId} {v : Value} (h : Var1 w b T v) (u : Value) : IterKept w (w.setCell ⟨b, 0, none⟩ u) := fun bi t p hi => by
 rw [RowKit.Below.heap_setCell _ _ _ _ (fun e => by have e : bi = b := e; subst e; unfold Var1 at h; rw [hi] at h; cases h)]
 exact hi
theorem IterKept.keep {w w' : World} (k : Kp w w' n_) : IterKept w w' := fun bi t p hi => (k.block bi (zbo hi) id).trans hi
theorem zct (h : WSt w0 w bs bo bf s v l fr) (hT : FoldTab w0) (hs : s.size ≤ 100000000) (m : Nat) (hto : m ≤ s.size) (hf : fr ≤ m) (h1 : -1 ≤ fr) (hl : l.length ≤ 100000000) :
  Calls Tryz.prog 146 #[.int .i64 (m : Int), .pointer (some ⟨bf, 0, none⟩), .pointer (some ⟨bo, 0, none⟩), .pointer (some ⟨bs, 0, none⟩)] w fun e w' =>
   e = .returned (.tuple #[]) ∧ (∃ v', WSt w0 w' bs bo bf s v' (if fr < 0 then l else l ++ [(foldL (cutL (L s) (fr.toNat, m)), fr.toNat, m)]) (-1)) ∧ IterKept w w' := by
 have cf := h.cf.cell
 refine zaa (args := [.int .i64 (m : Int), .pointer (some ⟨bf, 0, none⟩), .pointer (some ⟨bo, 0, none⟩), .pointer (some ⟨bs, 0, none⟩)]) Tryz.func146 rfl NL ?_; refine GW ?_
 refine GO ?_
 by_cases h0 : fr < 0
 ·refine GO ?_
  refine Store.one (by rfl) ⟨rfl, by simp, by simp⟩ cf h.cf.frozen ?_
  refine GW ?_
  exact ⟨rfl, ⟨v, by rw [if_pos h0]; exact h.setFrom (-1)⟩, IterKept.set h.cf _⟩
 ·refine GO ?_
  obtain ⟨n, rfl⟩ : ∃ n : Nat, fr = n := ⟨fr.toNat, by omega⟩
  obtain ⟨va, vc, rfl⟩ := zab h.row
  refine Draw.heldEnd (fun u => Kp w u (fun k => (Value.slice va l.length vc).ownBlock = some k)) (fun _ => true) (by simp) (by decide +kernel) (by decide +kernel) (Kp.refl _ _).drew ?_
  have f1 : ∀ u, Kp w u (fun k => (Value.slice va l.length vc).ownBlock = some k) → u.cell? ⟨bf, 0, none⟩ = some (.int .i64 (n : Int)) := fun u k => (h.cf.keep k (h.cf.ne_own h.row (by decide))).cell
  have f2 : ∀ u, Kp w u (fun k => (Value.slice va l.length vc).ownBlock = some k) → u.cell? ⟨bo, 0, none⟩ = some (.slice va l.length vc) := fun u k => (h.co.keep k (h.co.ne_own h.row (by decide))).cell
  have f3 : ∀ u, Kp w u (fun k => (Value.slice va l.length vc).ownBlock = some k) → u.cell? ⟨bs, 0, none⟩ = some (.string s) := fun u k => (h.cs.keep k (h.cs.ne_own h.row (by decide))).cell
  refine GW ?_
  refine Held.one (by rfl) (fun u ku => f2 u ku) ?_
  refine GW ?_
  refine Held.one (by rfl) (fun u ku => f3 u ku) ?_
  refine GW ?_
  refine Held.one (by rfl) (fun u ku => f1 u ku) ?_
  refine GO ?_
  have hx : (s.extract n m).size ≤ 100000000 := by simp; omega
  have hLx : L (s.extract n m) = cutL (L s) (n, m) := L_extract s n m
  refine CallS.of (Tryz.call147 _ _) (zny (s.extract n m) (hT.keep h.k.drew) hx) ?_
  rintro e w1 ⟨rfl, k1⟩
  rw [hLx]
  refine RT ?_
  have K1 : Kp w w1 (fun k => (Value.slice va l.length vc).ownBlock = some k) := (Kp.refl w _).drew.trans' (Kp.of_none k1)
  refine ⟨K1, ?_⟩
  refine GW ?_
  refine Held.one (by rfl) (fun u ku => f1 u ku) ?_
  refine GW ?_
  refine RunV.of (zlX _ _ _ _) ?_
  refine GW ?_
  refine RunV.of (zil _ _ _ _) ?_
  refine ⟨K1.alloc _, ?_⟩
  refine GW ?_
  have k0 : Kp w w1 n_ := (Kp.refl w _).drew.trans0 k1
  refine zpW (zac h.row k0) (Nat.le_trans h.k.size k0.size) (foldL (cutL (L s) (n, m)), n, m) (by omega) fun v' w2 h2 hg2 => ?_
  obtain ⟨a2, c2, rfl⟩ : ∃ a c, v' = .slice a (l.length + 1) c := by
   obtain ⟨a, c, e⟩ := zab h2
   exact ⟨a, c, by rw [e, List.length_append]; rfl⟩
  have K2 : Kp w w2 (fun k => (Value.slice va l.length vc).ownBlock = some k) := (K1.alloc _).trans' (Kp.ofGrown hg2)
  have k02 : Kp w0 w2 n_ := ((h.k.trans0 k0).alloc _).own (zac (zac h.row k0) ((Kp.refl _ _).alloc _)) (Nat.le_refl _) hg2
  refine ⟨K2, ?_⟩
  have s2 := h.cs.keep K2 (h.cs.ne_own h.row (by decide))
  have o2 := h.co.keep K2 (h.co.ne_own h.row (by decide))
  have q2 := h.cf.keep K2 (h.cf.ne_own h.row (by decide))
  refine GW ?_
  refine Store.one (by rfl) ⟨rfl, by simp, by simp⟩ o2.cell o2.frozen ?_
  have st : WSt w0 (w2.setCell ⟨bo, 0, none⟩ (.slice a2 (l.length + 1) c2)) bs bo bf s (.slice a2 (l.length + 1) c2) (l ++ [(foldL (cutL (L s) (n, m)), n, m)]) n :=
   ⟨k02.setCell (p := ⟨bo, 0, none⟩) (.inr h.hbo) _, h.hbs, h.hbo, h.hbf, s2.set_ne (s2.ne o2 (by decide)), o2.set _, q2.set_ne (q2.ne o2 (by decide)),
    zak h2 ((Kp.refl w2 (one_ bo)).setCell (p := ⟨bo, 0, none⟩) (.inl rfl) _) fun b hb e => o2.ne_own h2 (by decide) (by rw [hb]; exact congrArg some e)⟩
  have it2 : IterKept w w2 := fun bi t p hi => (K2.block bi (zbo hi) (fun e => by
   have e : (Value.slice va l.length vc).ownBlock = some bi := e
   rcases h.row.2 with ⟨hn, _⟩ | ⟨g, cap, cur, hn, _, hg, _⟩
   ·rw [hn] at e; cases e
   ·rw [hn] at e
    injection e with e
    have e : g = bi := e
    rw [e, hi] at hg
    cases hg)).trans hi
  have it3 : IterKept w2 (w2.setCell ⟨bo, 0, none⟩ (.slice a2 (l.length + 1) c2)) := IterKept.set o2 _
  generalize w2.setCell ⟨bo, 0, none⟩ (.slice a2 (l.length + 1) c2) = w3 at *
  refine GW ?_
  refine Store.one (by rfl) ⟨rfl, by simp, by simp⟩ st.cf.cell st.cf.frozen ?_
  refine GW ?_
  refine ⟨rfl, ⟨.slice a2 (l.length + 1) c2, ?_⟩, (it2.trans it3).trans (IterKept.set st.cf _)⟩
  rw [if_neg h0, Int.toNat_natCast]
  exact st.setFrom (-1)
end
section
variable {w : World}
theorem zcn (L0 : List UInt8) (ps : List (Nat × Nat)) (f : Option Nat) (m : Nat) :
  (if frI f < 0 then ps.map (mk L0) else ps.map (mk L0) ++ [(foldL (cutL L0 ((frI f).toNat, m)), (frI f).toNat, m)]) = (ps ++ close f m).map (mk L0) := by
 cases f with
 | none => rw [if_pos (by simp [frI])]; simp [close]
 | some a => rw [if_neg (by simp [frI])]; simp [close, frI, mk]
theorem zoC (s : ByteArray) (hC : CutTab w) (hF : FoldTab w) (hs : s.size ≤ 10000000) : Calls Tryz.prog 86 #[.string s] w fun e w' => ∃ v, e = .returned v ∧ Wds w' w.heap.size v (wordsL (L s)) ∧ Kp w w' n_ := by
 have hl := L_len s
 refine zaa (args := [.string s]) Tryz.func86 rfl NL ?_; refine GW ?_
 have v1 := Var1.alloc_new w 9 (.string s)
 have k1 : Kp w (w.alloc (.cells #[.string s] 9)) n_ := (Kp.refl _ _).alloc _
 have z1 : (w.alloc (.cells #[.string s] 9)).heap.size = w.heap.size + 1 := by simp
 generalize w.alloc (.cells #[.string s] 9) = w1 at *
 have v2 := Var1.alloc_new w1 113 (.slice none 0 0)
 have k2 : Kp w1 (w1.alloc (.cells #[.slice none 0 0] 113)) n_ := (Kp.refl _ _).alloc _
 have z2 : (w1.alloc (.cells #[.slice none 0 0] 113)).heap.size = w.heap.size + 2 := by simp [z1]
 generalize w1.alloc (.cells #[.slice none 0 0] 113) = w2 at *
 have v3 := Var1.alloc_new w2 3 (.int .i64 0)
 have k3 : Kp w2 (w2.alloc (.cells #[.int .i64 0] 3)) n_ := (Kp.refl _ _).alloc _
 have z3 : (w2.alloc (.cells #[.int .i64 0] 3)).heap.size = w.heap.size + 3 := by simp [z2]
 generalize w2.alloc (.cells #[.int .i64 0] 3) = w3 at *
 rw [z1, z2] at *
 have st0 : WSt w w3 w.heap.size (w.heap.size + 1) (w.heap.size + 2) s (.slice none 0 0) [] 0 :=
  ⟨(k1.trans0 k2).trans0 k3, Nat.le_refl _, by omega, by omega, (v1.keep k2 id).keep k3 id, v2.keep k3 id, v3, World.ownsRow_nil _ _ _ _⟩
 refine Store.one (by rfl) ⟨rfl, by simp, by simp⟩ v3.cell v3.frozen ?_
 have st1 := st0.setFrom (-1)
 have z4 : (w3.setCell ⟨w.heap.size + 2, 0, none⟩ (.int .i64 (-1))).heap.size = w.heap.size + 3 := by simp [World.setCell, z3]
 generalize w3.setCell ⟨w.heap.size + 2, 0, none⟩ (.int .i64 (-1)) = w4 at *
 have c1 := st1.cs.cell
 refine GO ?_
 refine RunV.rangeS Tryz.underlying9 ?_
 have hi5 := heap_alloc_new w4 (.stringIter s 0)
 have st5 := st1.keep ((Kp.refl w4 n_).alloc (.stringIter s 0))
 rw [z4] at *
 generalize w4.alloc (.stringIter s 0) = w5 at *
 refine GW ?_
 refine Loop.intro (ι := Nat × Value × List (Nat × Nat) × Option Nat) (fun i => [(1, .pointer (some ⟨w.heap.size, 0, none⟩)), (3, .pointer (some ⟨w.heap.size + 1, 0, none⟩)), (4, .pointer (some ⟨w.heap.size + 2, 0, none⟩)),
   (5, .func (.func 146) #[] #[.pointer (some ⟨w.heap.size + 2, 0, none⟩), .pointer (some ⟨w.heap.size + 1, 0, none⟩), .pointer (some ⟨w.heap.size, 0, none⟩)]), (12, .pointer (some ⟨w.heap.size + 3, 0, none⟩))])
  (fun i wr => i.1 ≤ s.size ∧ WSt w wr w.heap.size (w.heap.size + 1) (w.heap.size + 2) s i.2.1 (i.2.2.1.map (mk (L s))) (frI i.2.2.2) ∧ wr.heap[w.heap.size + 3]? = some (.stringIter s i.1) ∧
   wd (us (L s)) 0 none = i.2.2.1 ++ wd (us ((L s).drop i.1)) i.1 i.2.2.2 ∧ i.2.2.1.length ≤ 2 * i.1 ∧ ∀ a, i.2.2.2 = some a → a ≤ i.1) (fun i => s.size - i.1) (0, .slice none 0 0, [], none) ⟨rfl, rfl, rfl, by simp [upd], rfl, trivial⟩
  ⟨Nat.zero_le _, st5, hi5, rfl, Nat.le_refl _, fun a h => by cases h⟩ ?_
 rintro ⟨n, v, ps, f⟩ g wr ⟨hn, st, hi, he, hpl, hfa⟩
 dsimp only at hn st hi he hpl hfa ⊢
 refine GW ?_
 have hfr1 : -1 ≤ frI f := by
  cases f with
  | none => exact Int.le_refl _
  | some a => exact Int.le_trans (by decide) (Int.natCast_nonneg a)
 have hfrn : frI f ≤ n := by
  cases f with
  | none => exact Int.le_trans (by decide) (Int.natCast_nonneg n)
  | some a => exact Int.ofNat_le.2 (hfa a rfl)
 by_cases hlt : n < s.size
 ·refine RunV.nextS hi hlt ?_
  have hne : (L s).drop n ≠ [] := by rw [← L_from]; exact L_ne (by simp; omega)
  have hw := decodeL_width ((L s).drop n)
  have hle := decodeL_le _ hne
  have hsc := zpr _ hne
  have hru := decodeL_rune ((L s).drop n)
  rw [List.length_drop] at hle
  rw [zcL _ hne, List.drop_drop] at he
  have hwh : (decodeL ((L s).drop n)).1 ≠ 65533 → (decodeL ((L s).drop n)).2 = (enc (decodeL ((L s).drop n)).1).length := fun hc => by
   rcases dec_whole _ hne with h | h
   ·rw [h] at hc; exact (hc rfl).elim
   ·exact h.2.2.1
  have hel := zdr (decodeL ((L s).drop n)).1
  have st2 := st.iter (o := .stringIter s (n + (decodeL ((L s).drop n)).2)) hi (by omega)
  have hi2 : (setO wr (w.heap.size + 3) (.stringIter s (n + (decodeL ((L s).drop n)).2))).heap[w.heap.size + 3]? = some (.stringIter s (n + (decodeL ((L s).drop n)).2)) := zeL _ (zbo hi)
  generalize setO wr (w.heap.size + 3) (.stringIter s (n + (decodeL ((L s).drop n)).2)) = w2 at *
  rw [zhw] at he
  generalize (decodeL ((L s).drop n)).1 = c at *
  generalize (decodeL ((L s).drop n)).2 = k at *
  refine GO ?_
  refine CallS.of (Tryz.call148 _ _) (zmB (c : Int) w2) ?_
  rintro e w3 ⟨rfl, rfl⟩
  rw [zmc c hsc]
  refine RT ?_
  refine GO ?_
  rw [wrap_i64 _ (by omega)]
  refine CallS.of (Tryz.call149 _ _) (zkL (c : Int) (hC.keep st2.k)) ?_
  rintro e w3 ⟨rfl, k3⟩
  have hki : kindI (c : Int) = kindN c := by unfold kindI; rw [if_neg (by omega)]; rfl
  rw [hki]
  have hk2 := zls c
  have hkb : c = 65533 → kindN c = 0 := fun h => by rw [h]; exact zkd
  refine RT ?_
  have st3 := st2.keep k3
  have hi3 := IterKept.keep k3 _ _ _ hi2
  have hcl : (close f n).length ≤ 1 := by cases f <;> simp [close]
  have hlen : (ps.map (mk (L s))).length ≤ 100000000 := by rw [List.length_map]; omega
  generalize hq : kindN c = q at *
  have zero : ∀ (w6 : World) (v' : Value), q = 0 → WSt w w6 w.heap.size (w.heap.size + 1) (w.heap.size + 2) s v' ((ps ++ close f n).map (mk (L s))) (-1) → w6.heap[w.heap.size + 3]? = some (.stringIter s (n + k)) →
    n + k ≤ s.size ∧ WSt w w6 w.heap.size (w.heap.size + 1) (w.heap.size + 2) s v' ((ps ++ close f n).map (mk (L s))) (frI none) ∧ w6.heap[w.heap.size + 3]? = some (.stringIter s (n + k)) ∧
    wd (us (L s)) 0 none = (ps ++ close f n) ++ wd (us ((L s).drop (n + k))) (n + k) none ∧ (ps ++ close f n).length ≤ 2 * (n + k) ∧ ∀ a, (none : Option Nat) = some a → a ≤ n + k := by
   intro w6 v' h0 h6 hi6
   refine ⟨by omega, h6, hi6, by rw [he, h0, wd_0, List.append_assoc], by rw [List.length_append]; omega, fun a h => by cases h⟩
  by_cases hc : c = 65533
  ·have h0 : q = 0 := hkb hc
   refine GO ?_
   refine CallS.of (Tryz.call146 _ _) (zct st3 hF (by omega) n hn hfrn hfr1 hlen) ?_
   rintro e w6 ⟨rfl, ⟨v', st6⟩, hk6⟩
   rw [zcn] at st6
   refine RT ?_
   refine GO ?_
   exact ⟨(n + k, v', ps ++ close f n, none), ⟨rfl, rfl, rfl, rfl, rfl, trivial⟩, zero w6 v' h0 st6 (hk6 _ _ _ hi3), by dsimp only; omega⟩
  have hkk := hwh hc
  have h012 : q = 0 ∨ q = 1 ∨ q = 2 := by omega
  rcases h012 with h0 | h1 | h2
  ·refine GO ?_
   refine CallS.of (Tryz.call146 _ _) (zct st3 hF (by omega) n hn hfrn hfr1 hlen) ?_
   rintro e w6 ⟨rfl, ⟨v', st6⟩, hk6⟩
   rw [zcn] at st6
   refine RT ?_
   refine GO ?_
   exact ⟨(n + k, v', ps ++ close f n, none), ⟨rfl, rfl, rfl, rfl, rfl, trivial⟩, zero w6 v' h0 st6 (hk6 _ _ _ hi3), by dsimp only; omega⟩
  ·have c3 := st3.cf.cell
   subst h1
   cases f with
   | none =>
    have c3 : w3.cell? ⟨w.heap.size + 2, 0, none⟩ = some (.int .i64 (-1)) := c3
    refine GO ?_
    refine Store.one (by rfl) ⟨rfl, by simp, by simp⟩ c3 st3.cf.frozen ?_
    have st6 := st3.setFrom (n : Int)
    have hi6 := IterKept.set st3.cf (.int .i64 (n : Int)) _ _ _ hi3
    generalize w3.setCell ⟨w.heap.size + 2, 0, none⟩ (.int .i64 (n : Int)) = w6 at *
    refine GO ?_
    exact ⟨(n + k, v, ps, some n), ⟨rfl, rfl, rfl, rfl, rfl, trivial⟩, ⟨by dsimp only; omega, st6, hi6, by rw [he, wd_1n], by dsimp only; omega, fun a h => by injection h with h; dsimp only; omega⟩, by dsimp only; omega⟩
   | some a =>
    have ha := hfa a rfl
    have c3 : w3.cell? ⟨w.heap.size + 2, 0, none⟩ = some (.int .i64 (a : Int)) := c3
    rw [wd_1s] at he
    by_cases h40 : 40 < n + k - a
    ·rw [if_pos h40] at he
     refine GO ?_
     refine CallS.of (Tryz.call146 _ _) (zct st3 hF (by omega) n hn hfrn hfr1 hlen) ?_
     rintro e w6 ⟨rfl, ⟨v', st6⟩, hk6⟩
     rw [zcn] at st6
     refine RT ?_
     have c6 := st6.cf.cell
     refine GO ?_
     refine Store.one (by rfl) ⟨rfl, by simp, by simp⟩ c6 st6.cf.frozen ?_
     have st7 := st6.setFrom (n : Int)
     have hi7 := IterKept.set st6.cf (.int .i64 (n : Int)) _ _ _ (hk6 _ _ _ hi3)
     generalize w6.setCell ⟨w.heap.size + 2, 0, none⟩ (.int .i64 (n : Int)) = w7 at *
     refine GO ?_
     exact ⟨(n + k, v', ps ++ close (some a) n, some n), ⟨rfl, rfl, rfl, rfl, rfl, trivial⟩, ⟨by dsimp only; omega, st7, hi7, by rw [he, List.append_assoc]; rfl, by rw [List.length_append]; dsimp only; omega, fun x h => by injection h with h; dsimp only; omega⟩, by dsimp only; omega⟩
    ·rw [if_neg h40] at he
     refine GO ?_
     exact ⟨(n + k, v, ps, some a), ⟨rfl, rfl, rfl, rfl, rfl, trivial⟩, ⟨by dsimp only; omega, st3, hi3, he, by dsimp only; omega, fun x h => by injection h with h; dsimp only; omega⟩, by dsimp only; omega⟩
  ·subst h2
   refine GO ?_
   refine CallS.of (Tryz.call146 _ _) (zct st3 hF (by omega) n hn hfrn hfr1 hlen) ?_
   rintro e w6 ⟨rfl, ⟨v', st6⟩, hk6⟩
   rw [zcn] at st6
   refine RT ?_
   have c6 := st6.cf.cell
   refine GO ?_
   refine Store.one (by rfl) ⟨rfl, by simp, by simp⟩ c6 st6.cf.frozen ?_
   have st7 := st6.setFrom (frI (some n))
   have hi7 := IterKept.set st6.cf (.int .i64 (n : Int)) _ _ _ (hk6 _ _ _ hi3)
   have st7 : WSt w (w6.setCell ⟨w.heap.size + 2, 0, none⟩ (.int .i64 (n : Int))) w.heap.size (w.heap.size + 1) (w.heap.size + 2) s v' ((ps ++ close f n).map (mk (L s))) (frI (some n)) := st7
   generalize w6.setCell ⟨w.heap.size + 2, 0, none⟩ (.int .i64 (n : Int)) = w7 at *
   refine GO ?_
   rw [show ((n : Int) + ((enc c).length : Int)) = ((n + k : Nat) : Int) by omega]
   refine CallS.of (Tryz.call146 _ _) (zct st7 hF (by omega) (n + k) (by omega) (Int.ofNat_le.2 (Nat.le_add_right n k)) (Int.le_trans (by decide) (Int.natCast_nonneg n)) (by rw [List.length_map, List.length_append]; omega)) ?_
   rintro e w8 ⟨rfl, ⟨v8, st8⟩, hk8⟩
   rw [zcn] at st8
   refine RT ?_
   refine GO ?_
   exact ⟨(n + k, v8, (ps ++ close f n) ++ close (some n) (n + k), none), ⟨rfl, rfl, rfl, rfl, rfl, trivial⟩, ⟨by dsimp only; omega, st8, hk8 _ _ _ hi7, by rw [he, wd_2]; simp [close], by rw [List.length_append, List.length_append]; show ps.length + (close f n).length + 1 ≤ _; dsimp only; omega, fun x h => by cases h⟩, by dsimp only; omega⟩
 ·refine RunV.nextE hi hlt ?_
  have hn0 : (L s).drop n = [] := List.drop_eq_nil_of_le (by omega)
  have hnn : n = s.size := by omega
  have c1 := st.cs.cell
  have c3 := st.co.cell
  refine GO ?_
  rw [hnn] at hfrn
  refine CallS.of (Tryz.call146 _ _) (zct st hF (by omega) s.size (Nat.le_refl _) hfrn hfr1 (by rw [List.length_map]; omega)) ?_
  rintro e w6 ⟨rfl, ⟨v', st6⟩, _⟩
  rw [zcn] at st6
  obtain ⟨a6, c6, rfl⟩ := zab st6.row
  refine RT ?_
  have o6 := st6.co.cell
  refine GO ?_
  rw [hn0, zfV, hnn] at he
  refine ⟨_, rfl, ?_, st6.k⟩
  rw [zoZ, he]
  exact st6.row
end
end Go.Proofs.YtennokckmjcefaaGreatDoor
