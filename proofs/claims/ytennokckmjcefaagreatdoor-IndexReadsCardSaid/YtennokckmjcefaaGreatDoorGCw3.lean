/- Helper lemmas; no conditions of their own. -/
import Derived.Test.YtennokckmjcefaaGreatDoorGAg0
set_option linter.unusedVariables false
set_option maxHeartbeats 2000000
set_option maxRecDepth 100000
namespace Go.Proofs.YtennokckmjcefaaGreatDoor
open Go.RowKit Go.Pw Go.Vc Go.Cs Go.Lib
def spF (x : Int × Int × Int × Int) : List Value := [.int .i32 x.1, .int .i32 x.2.1, .int .i32 x.2.2.1, .int .i32 x.2.2.2]
def zcv (w : World) : Prop := ∃ b o c, w.cell? ⟨1, 0, none⟩ = some (.slice (some ⟨b, o, none⟩) 17 c) ∧ ∀ i, i < 17 → At w b (o + i * 4) (spF (foldSp i))
theorem zcv.keep {w w' : World} (h : zcv w) (k : Kp w w' n_) : zcv w' := by
 obtain ⟨b, o, c, h1, h2⟩ := h
 exact ⟨b, o, c, by rw [k.cell (zeN h1) id]; exact h1, fun i hi => zbe (h2 i hi) k⟩
section
variable {w : World}
theorem zoo (i : Nat) (hi : i < 17) (r : Int) : Calls Tryz.prog 250 #[.agg (spF (foldSp i)).toArray, .int .i32 r] w fun e w' => e = .returned (.int .i64 (cmpF i r)) ∧ Kp w w' n_ := by
 unfold cmpF spF
 generalize foldSp i = x
 obtain ⟨lo, hi', st, mo⟩ := x
 dsimp only
 refine zaa (args := [.agg #[.int .i32 lo, .int .i32 hi', .int .i32 st, .int .i32 mo], .int .i32 r]) Tryz.func250 rfl NL ?_; refine GW ?_
 have k0 : Kp w (w.alloc (.cells #[.int .i32 lo, .int .i32 hi', .int .i32 st, .int .i32 mo] 256)) n_ := (Yb _ _).alloc _
 have hA := zfi (heap_alloc_new w (.cells #[.int .i32 lo, .int .i32 hi', .int .i32 st, .int .i32 mo] 256))
 have c0 : (w.alloc (.cells #[.int .i32 lo, .int .i32 hi', .int .i32 st, .int .i32 mo] 256)).cell? ⟨w.heap.size, 0, none⟩ = some (.int .i32 lo) := hA 0 _ rfl
 have c1 : (w.alloc (.cells #[.int .i32 lo, .int .i32 hi', .int .i32 st, .int .i32 mo] 256)).cell? ⟨w.heap.size, 0 + 1, none⟩ = some (.int .i32 hi') := hA 1 _ rfl
 generalize w.alloc (.cells #[.int .i32 lo, .int .i32 hi', .int .i32 st, .int .i32 mo] 256) = w1 at *
 by_cases h1 : hi' < r
 ·refine GO ?_
  exact ⟨by rw [if_pos h1], k0⟩
 by_cases h2 : r < lo
 ·refine GO ?_
  exact ⟨by rw [if_neg h1, if_pos h2], k0⟩
 refine GO ?_
 exact ⟨by rw [if_neg h1, if_neg h2], k0⟩
theorem zst (b o c : Nat) (hT : ∀ i, i < 17 → At w b (o + i * 4) (spF (foldSp i))) (r : Int) : Calls Tryz.prog 249 #[.slice (some ⟨b, o, none⟩) 17 c, .int .i32 r, .func (.func 250) #[] #[]] w fun e w' =>
  ∃ k, e = .returned (.tuple #[.int .i64 (k : Nat), .bool (decide (k < 17 ∧ cmpF k r = 0))]) ∧ Pos (fun i => cmpF i r) 17 k ∧ Kp w w' n_ := by
 refine zaa (args := [.slice (some ⟨b, o, none⟩) 17 c, .int .i32 r, .func (.func 250) #[] #[]]) Tryz.func249 rfl NL ?_; refine GW ?_
 refine Yc (ι := Nat × Nat) (fun p => [(0, .slice (some ⟨b, o, none⟩) 17 c), (1, .int .i32 r), (2, .func (.func 250) #[] #[]), (8, .int .i64 17), (9, .int .i64 p.1), (10, .int .i64 p.2)])
  (fun p wr => Kp w wr n_ ∧ p.1 ≤ p.2 ∧ p.2 ≤ 17 ∧ (∀ m, m < p.1 → cmpF m r < 0) ∧ ∀ m, p.2 ≤ m → m < 17 → 0 ≤ cmpF m r) (fun p => p.2 - p.1) (0, 17) FR
  ⟨Yb _ _, OM, yag _, fun m hm => OM, fun m h1 h2 => OM⟩ ?_
 rintro ⟨i, j⟩ g wr ⟨hK, hij, hj, hlo, hhi⟩
 dsimp only at hij hj hlo hhi ⊢
 refine GW ?_
 by_cases hlt : i < j
 ·refine GO ?_
  rw [zid i j OM]
  have hm1 : i ≤ (i + j) / 2 := OM
  have hm2 : (i + j) / 2 < j := OM
  generalize (i + j) / 2 = h at *
  refine GO ?_
  refine Load.agg (spF (foldSp h)) (by rfl) (by rfl) (by rfl) (zbe (hT h OM) hK) ?_
  refine GO ?_
  refine Ya (Tryz.call250 _ _) (zoo h OM r) ?_
  rintro e w1 ⟨rfl, k1⟩
  refine RT ?_
  by_cases hc : cmpF h r < 0
  ·refine GO ?_
   refine ⟨(h + 1, j), FR, ⟨hK.trans0 k1, DO, hj, fun m hm => ?_, hhi⟩, DO⟩
   by_cases e : m = h
   ·rw [e]; exact hc
   exact ziN m h (by dsimp only at hm; omega) OM r hc
  refine GO ?_
  refine ⟨(i, h), FR, ⟨hK.trans0 k1, DO, DO, hlo, fun m m1 m2 => ?_⟩, DO⟩
  dsimp only at m1
  by_cases e : m = h
  ·rw [e]; omega
  have hx : ¬ cmpF m r < 0 := fun hn => hc (ziN h m OM m2 r hn)
  omega
 have hji : j = i := OM
 subst hji
 have hpos : Pos (fun i => cmpF i r) 17 j := ⟨hj, hlo, hhi⟩
 by_cases h17 : j < 17
 ·refine GO ?_
  refine Load.agg (spF (foldSp j)) (by rfl) (by rfl) (by rfl) (zbe (hT j h17) hK) ?_
  refine GO ?_
  refine Ya (Tryz.call250 _ _) (zoo j h17 r) ?_
  rintro e w1 ⟨rfl, k1⟩
  refine RT ?_
  refine GO ?_
  exact ⟨j, by rw [show decide (j < 17 ∧ cmpF j r = 0) = (cmpF j r == 0) by by_cases h0 : cmpF j r = 0 <;> simp [h0, h17]], hpos, hK.trans0 k1⟩
 refine GO ?_
 exact ⟨j, by rw [show decide (j < 17 ∧ cmpF j r = 0) = false by simp [h17]], hpos, hK⟩
theorem zgU (n : Nat) (hn : n ≤ 1114111) (hT : zcv w) : Calls Tryz.prog 213 #[.int .i32 (n : Int)] w fun e w' => e = .returned (.int .i32 ((lowC n : Nat) : Int)) ∧ Kp w w' n_ := by
 obtain ⟨b, o, c, hg, ht⟩ := hT
 refine zaa (args := [.int .i32 (n : Int)]) Tryz.func213 rfl NL ?_; refine GW ?_
 refine GO ?_
 refine Ya (Tryz.call249 _ _) (zst b o c ht (n : Int)) ?_
 rintro e w1 ⟨k, rfl, hp, k1⟩
 refine RT ?_
 have hg1 := (k1.cell (p := ⟨1, 0, none⟩) (zeN hg) id).trans hg
 have hg2 : w1.drew.cell? ⟨1, 0, none⟩ = _ := hg1
 by_cases hf : k < 17 ∧ cmpF k (n : Int) = 0
 ·have hz := znD k n hf.2
  have hl := zow k hf.1 n hz
  have hft := zgX ⟨k, hf.1⟩
  simp only at hft
  have c0 : w1.drew.cell? ⟨b, o + k * 4, none⟩ = some (.int .i32 (foldSp k).1) := (zbe (ht k hf.1) k1) 0 _ rfl
  have c2 : w1.drew.cell? ⟨b, o + k * 4 + 2, none⟩ = some (.int .i32 (foldSp k).2.2.1) := (zbe (ht k hf.1) k1) 2 _ rfl
  have c3 : w1.drew.cell? ⟨b, o + k * 4 + 3, none⟩ = some (.int .i32 (foldSp k).2.2.2) := (zbe (ht k hf.1) k1) 3 _ rfl
  rw [decide_eq_true hf]
  have hs : (foldSp k).2.2.1 = 1 ∨ (foldSp k).2.2.1 = 2 := OM
  generalize (foldSp k).1 = lo at *
  generalize (foldSp k).2.1 = hi at *
  generalize (foldSp k).2.2.1 = st at *
  generalize (foldSp k).2.2.2 = mo at *
  rcases hs with rfl | rfl
  ·refine GO ?_
   rw [Int.tmod_eq_emod_of_nonneg OM]
   refine GO ?_
   exact ⟨by rw [hl, if_pos OM], k1.drew⟩
  refine GO ?_
  rw [Int.tmod_eq_emod_of_nonneg OM]
  by_cases hm : ((n : Int) - lo) % 2 = 0
  ·refine GO ?_
   exact ⟨by rw [hl, if_pos hm], k1.drew⟩
  refine GO ?_
  exact ⟨by rw [hl, if_neg hm], k1.drew⟩
 have hl := ztt n fun m hm => zqa k n hp hf m hm
 rw [decide_eq_false hf]
 refine GO ?_
 exact ⟨by rw [hl], k1.drew⟩
theorem zqr {B b bi p : Nat} {s : ByteArray} {l : List UInt8} {o : Obj} (h : Bld w B b l) (hi : w.heap[bi]? = some (.stringIter s p)) : Bld (setO w bi o) B b l := by
 have key : ∀ p', BuilderAtF 93 5 B b p' (Go.Lib.byteCells l) w → BuilderAtF 93 5 B b p' (Go.Lib.byteCells l) (setO w bi o) := by
  rintro p' ⟨hB, v, hb, hown, hne⟩
  have hbb : b ≠ bi := fun e => by subst e; rw [hi] at hb; cases hb
  refine ⟨hB, v, ?_, ?_, hne⟩
  ·rw [(zdu o).block b (zbD hb) (fun e => hbb e)]; exact hb
  refine hown.kept (row := some bi) ⟨rfl, rfl, rfl, by simp [setO], fun k hk hn => (zdu o).block k hk fun e => hn (congrArg some e)⟩ (Or.inr ?_)
  rcases hown.2 with ⟨rfl, _⟩ | ⟨g, cap, cur, fz, rfl, _, hg, _⟩
  ·simp [Value.ownBlock]
  intro e
  simp only [Value.ownBlock, Option.some.injEq] at e
  subst e
  rw [hi] at hg; cases hg
 rcases h with h | h
 ·exact .inl (key _ h)
 exact .inr (key _ h)
theorem iter_keep {b bi p : Nat} {s : ByteArray} {w' : World} (h : w.heap[bi]? = some (.stringIter s p)) (hk : OthersKept 5 (some b) w w') (hne : bi ≠ b) : w'.heap[bi]? = some (.stringIter s p) :=
 hk bi _ h (fun e => hne (by injection e)) fun c fz e => by cases e
theorem zbb {B b : Nat} {l : List UInt8} {w' : World} (h : Bld w B b l) (k : Kp w w' n_) : Bld w' B b l := by
 have key : ∀ p', BuilderAtF 93 5 B b p' (Go.Lib.byteCells l) w → BuilderAtF 93 5 B b p' (Go.Lib.byteCells l) w' := by
  rintro p' ⟨hB, v, hb, hown, hne⟩
  refine ⟨hB, v, (k.block b (zbD hb) id).trans hb, ?_, hne⟩
  refine hown.kept (row := none) ⟨k.os, k.tape, k.output, k.size, fun i hi _ => k.block i hi id⟩ ?_
  cases v.ownBlock <;> simp
 rcases h with h | h
 ·exact .inl (key _ h)
 exact .inr (key _ h)
theorem zjv (s p : ByteArray) (w : World) : Calls Tryz.prog 111 #[.string s, .string p] w fun e w' => e = .returned (.bool (hasPrefix (L s) (L p))) ∧ w = w' :=
 (Any.strings_HasPrefix ztV s p w).mono fun e w' ⟨h1, h2⟩ => ⟨h1, h2.symm⟩
theorem zke (s : ByteArray) (i : Nat) (hi : i < s.size) (hc : (decodeL ((L s).drop i)).1 = 65533) : hasPrefix (L (s.extract i s.size)) [239, 191, 189] = !decide ((decodeL ((L s).drop i)).2 = 1) := by
 rw [zkC]
 have hne : (L s).drop i ≠ [] := by
  rw [← zkC]; exact L_ne (by simp; omega)
 unfold hasPrefix
 generalize (L s).drop i = l at *
 rcases bad_or l hne with h | ⟨c, hs, hd, ht⟩
 ·rw [h]
  cases hp : List.isPrefixOf [239, 191, 189] l
  ·rfl
  exfalso
  obtain ⟨t, e⟩ := List.isPrefixOf_iff_prefix.1 hp
  have he : enc 65533 = [239, 191, 189] := by decide
  have := zdF l 65533 zlL (by rw [he, ← e]; rfl)
  rw [h] at this
  exact zkB _ this
 rw [hd] at hc ⊢
 simp only at hc
 subst hc
 have he : enc 65533 = [239, 191, 189] := by decide
 rw [he] at ht ⊢
 have : List.isPrefixOf [239, 191, 189] l = true := by
  rw [List.isPrefixOf_iff_prefix, ← ht]; exact List.take_prefix _ _
 rw [this]; rfl
theorem zob (s : ByteArray) (hT : zcv w) (hs : s.size ≤ 100000000) : Calls Tryz.prog 147 #[.string s] w fun e w' => e = .returned (.string (str (foldL (L s)))) ∧ Kp w w' n_ := by
 have hl := L_len s
 refine zaa (args := [.string s]) Tryz.func147 rfl NL ?_; refine GW ?_
 have hb0 := zex w w.heap.size (yag _)
 have K0 : Kp w (w.alloc (.cells #[.pointer none, .slice none 0 0] 93)) n_ := (Yb _ _).alloc _
 have hz0 : (w.alloc (.cells #[.pointer none, .slice none 0 0] 93)).heap.size = w.heap.size + 1 := by simp
 generalize w.alloc (.cells #[.pointer none, .slice none 0 0] 93) = w0 at *
 refine RunV.rangeS Tryz.underlying9 ?_
 refine GW ?_
 rw [hz0]
 have hi0 : (w0.alloc (.stringIter s 0)).heap[w.heap.size + 1]? = some (.stringIter s 0) := by rw [← hz0]; exact heap_alloc_new _ _
 have hb1 : Bld (w0.alloc (.stringIter s 0)) w.heap.size w.heap.size [] := by
  rcases hb0 with h | h
  ·exact .inl (h.alloc _)
  exact .inr (h.alloc _)
 have K1 := K0.alloc (.stringIter s 0)
 generalize w0.alloc (.stringIter s 0) = w1 at *
 refine Yc (ι := Nat × List UInt8) (fun i => [(0, .string s), (3, .pointer (some ⟨w.heap.size, 0, none⟩)), (7, .pointer (some ⟨w.heap.size + 1, 0, none⟩))])
  (fun i wr => Kp w wr n_ ∧ i.1 ≤ s.size ∧ Bld wr w.heap.size w.heap.size i.2 ∧ wr.heap[w.heap.size + 1]? = some (.stringIter s i.1) ∧ foldL (L s) = i.2 ++ foldL ((L s).drop i.1) ∧ i.2.length = i.1) (fun i => s.size - i.1) (0, []) FR
  ⟨K1, yal _, hb1, hi0, rfl, rfl⟩ ?_
 rintro ⟨n, d⟩ g wr ⟨hK, hn, hb, hi, he, hdl⟩
 dsimp only at hn hb hi he hdl ⊢
 refine GW ?_
 by_cases hlt : n < s.size
 ·refine RunV.nextS hi hlt ?_
  have hne : (L s).drop n ≠ [] := by rw [← zkC]; exact L_ne (by simp; omega)
  have hw := decodeL_width ((L s).drop n)
  have hle := decodeL_le _ hne
  have hru := decodeL_rune ((L s).drop n)
  rw [yau] at hle
  rw [zbi _ hne, yaM] at he
  have hh := zdJ _ hne
  have hpre := zke s n hlt
  have hb2 : Bld (setO wr (w.heap.size + 1) (.stringIter s (n + (decodeL ((L s).drop n)).2))) w.heap.size w.heap.size d := zqr hb hi
  have hi2 : (setO wr (w.heap.size + 1) (.stringIter s (n + (decodeL ((L s).drop n)).2))).heap[w.heap.size + 1]? = some (.stringIter s (n + (decodeL ((L s).drop n)).2)) := zkh _ (zbD hi)
  have K2 : Kp w (setO wr (w.heap.size + 1) (.stringIter s (n + (decodeL ((L s).drop n)).2))) n_ := hK.trans (zdu _) fun i hi h => by have h : i = w.heap.size + 1 := h; omega
  generalize setO wr (w.heap.size + 1) (.stringIter s (n + (decodeL ((L s).drop n)).2)) = w2 at *
  have hdr : (L s).drop n ≠ [] := hne
  have key : ∀ (x : List UInt8) (w' : World), x.length = (decodeL ((L s).drop n)).2 → head1 ((L s).drop n) = x → Bld w' w.heap.size w.heap.size (d ++ x) → Below w.heap.size w2 w' → OthersKept 5 (some w.heap.size) w2 w' →
    (Kp w w' n_ ∧ n + (decodeL ((L s).drop n)).2 ≤ s.size ∧ Bld w' w.heap.size w.heap.size (d ++ x) ∧ w'.heap[w.heap.size + 1]? = some (.stringIter s (n + (decodeL ((L s).drop n)).2)) ∧ foldL (L s) = (d ++ x) ++ foldL ((L s).drop (n + (decodeL ((L s).drop n)).2)) ∧ (d ++ x).length = n + (decodeL ((L s).drop n)).2) := by
   intro x w' hx hhx hbx hbe hok
   refine ⟨K2.below' hbe (yag _), OM, hbx, iter_keep hi2 hok OM, by rw [he, hhx, yap], by rw [yaa, hx, hdl]⟩
  by_cases hc : (decodeL ((L s).drop n)).1 = 65533
  ·have hpre := hpre hc
   refine GO ?_
   refine Ya (Tryz.call111 _ _) (zjv (s.extract n s.size) ⟨#[239, 191, 189]⟩ w2) ?_
   rintro e w' ⟨rfl, rfl⟩
   rw [show hasPrefix (L (s.extract n s.size)) (L ⟨#[239, 191, 189]⟩) = !decide ((decodeL ((L s).drop n)).2 = 1) from hpre]
   by_cases hk : (decodeL ((L s).drop n)).2 = 1
   ·rw [decide_eq_true hk]
    refine RT ?_
    refine GO ?_
    obtain ⟨x, hx0, hx1, hx2, hx3⟩ := zoM s n hlt
    have hx0 : zaB s n = x := hx0
    rw [hx0]
    refine Ya (Tryz.call123 _ _) (zdA x w2 hb2 OM K2.size) ?_
    rintro e w3 ⟨rfl, hb3, hbe, hok⟩
    refine RT ?_
    have := key [x] w3 (by rw [hk]; rfl) (by unfold head1; rw [if_pos ⟨hc, hk⟩, hx3]; rfl) hb3 hbe hok
    exact ⟨(n + (decodeL ((L s).drop n)).2, d ++ [x]), FR, this, DO⟩
   rw [decide_eq_false hk]
   refine RT ?_
   refine GO ?_
   refine Ya (Tryz.call213 _ _) (zgU (decodeL ((L s).drop n)).1 hru (hT.keep K2)) ?_
   rintro e w3 ⟨rfl, k3⟩
   refine RT ?_
   have hb3 : Bld w3 w.heap.size w.heap.size d := zbb hb2 k3
   have hlo := zrs _ hru
   refine Ya (Tryz.call212 _ _) (zfG ((lowC (decodeL ((L s).drop n)).1 : Nat) : Int) OM OM w3 hb3 OM (yaw K2.size k3.size)) ?_
   rintro e w4 ⟨⟨q, rfl⟩, hb4, hbe, hok⟩
   refine RT ?_
   have hh1 : head1 ((L s).drop n) = enc (lowC (decodeL ((L s).drop n)).1) := by unfold head1; rw [if_neg OM]
   have := key (enc (lowC (decodeL ((L s).drop n)).1)) w4 (by rw [← hh1]; exact hh) hh1 hb4 (k3.below.mono K2.size |>.trans hbe) (fun k o h1 h2 h3 => hok k o ((k3.block k (zbD h1) id).trans h1) h2 h3)
   exact ⟨(n + (decodeL ((L s).drop n)).2, d ++ enc (lowC (decodeL ((L s).drop n)).1)), FR, this, DO⟩
  refine GO ?_
  refine Ya (Tryz.call213 _ _) (zgU (decodeL ((L s).drop n)).1 hru (hT.keep K2)) ?_
  rintro e w3 ⟨rfl, k3⟩
  refine RT ?_
  have hb3 : Bld w3 w.heap.size w.heap.size d := zbb hb2 k3
  have hlo := zrs _ hru
  refine Ya (Tryz.call212 _ _) (zfG ((lowC (decodeL ((L s).drop n)).1 : Nat) : Int) OM OM w3 hb3 OM (yaw K2.size k3.size)) ?_
  rintro e w4 ⟨⟨q, rfl⟩, hb4, hbe, hok⟩
  refine RT ?_
  have hh1 : head1 ((L s).drop n) = enc (lowC (decodeL ((L s).drop n)).1) := by unfold head1; rw [if_neg OM]
  have := key (enc (lowC (decodeL ((L s).drop n)).1)) w4 (by rw [← hh1]; exact hh) hh1 hb4 (k3.below.mono K2.size |>.trans hbe) (fun k o h1 h2 h3 => hok k o ((k3.block k (zbD h1) id).trans h1) h2 h3)
  exact ⟨(n + (decodeL ((L s).drop n)).2, d ++ enc (lowC (decodeL ((L s).drop n)).1)), FR, this, DO⟩
 refine RunV.nextE hi hlt ?_
 refine GO ?_
 have hn0 : (L s).drop n = [] := yaP OM
 rw [hn0, zoh, yaA] at he
 refine Ya (Tryz.call71 _ _) (zdo wr hb hK.size) ?_
 rintro e w3 ⟨rfl, _, hbe, _⟩
 refine RT ?_
 exact ⟨zom (by rw [he]), hK.below' hbe (yag _)⟩
end
theorem or32 : ∀ x : Fin 192, IntKind.i64.wrap (((BitVec.ofInt IntKind.i64.bits ((x.val : Nat) : Int) ||| BitVec.ofInt IntKind.i64.bits 32).toNat : Nat) : Int) = (((x.val ||| 32 : Nat)) : Int) := by decide +kernel
theorem ztJ : ∀ x : Fin 192, (97 ≤ (x.val ||| 32) ∧ (x.val ||| 32) ≤ 122) ↔ (65 ≤ x.val ∧ x.val ≤ 90) ∨ (97 ≤ x.val ∧ x.val ≤ 122) := by decide +kernel
theorem zoJ (r : Nat) (h : r < 192) : kindN r = if (48 ≤ r ∧ r ≤ 57) ∨ (65 ≤ r ∧ r ≤ 90) ∨ (97 ≤ r ∧ r ≤ 122) then 1 else 0 := by
 unfold kindN
 rw [if_neg OM, if_pos h]
 repeat' split
 all_goals omega
section
variable {w : World}
theorem zqt (r : Int) (hT : zeV w) : Calls Tryz.prog 149 #[.int .i64 r] w fun e w' => e = .returned (.int .i64 ((kindI r : Nat) : Int)) ∧ Kp w w' n_ := by
 refine zaa (args := [.int .i64 r]) Tryz.func149 rfl NL ?_; refine GW ?_
 unfold kindI
 by_cases h0 : r < 0
 ·refine GO ?_
  exact ⟨by rw [if_pos h0]; rfl, Yb _ _⟩
 rw [if_neg h0]
 obtain ⟨n, rfl⟩ : ∃ n : Nat, r = n := ⟨r.toNat, OM⟩
 rw [Int.toNat_natCast]
 by_cases h1 : 1114111 < n
 ·refine GO ?_
  exact ⟨ret_int (by unfold kindN; rw [if_pos h1]; rfl), Yb _ _⟩
 by_cases h2 : n < 192
 ·have e1 := or32 ⟨n, h2⟩
  have e2 := ztJ ⟨n, h2⟩
  have e3 := zoJ n h2
  simp only at e1 e2
  generalize (n ||| 32) = m at *
  by_cases h3 : 48 ≤ n
  ·by_cases h4 : n ≤ 57
   ·refine GO ?_
    exact ⟨ret_int (by rw [e3, if_pos OM]; rfl), Yb _ _⟩
   refine GO ?_
   rw [e1]
   by_cases h5 : 97 ≤ m
   ·by_cases h6 : m ≤ 122
    ·refine GO ?_
     exact ⟨ret_int (by rw [e3, if_pos (.inr (e2.1 ⟨h5, h6⟩))]; rfl), Yb _ _⟩
    refine GO ?_
    exact ⟨ret_int (by rw [e3, if_neg (by rintro (h | h); omega; exact h6 (e2.2 h).2)]; rfl), Yb _ _⟩
   refine GO ?_
   exact ⟨ret_int (by rw [e3, if_neg (by rintro (h | h); omega; exact h5 (e2.2 h).1)]; rfl), Yb _ _⟩
  refine GO ?_
  rw [e1]
  by_cases h5 : 97 ≤ m
  ·by_cases h6 : m ≤ 122
   ·refine GO ?_
    exact ⟨ret_int (by rw [e3, if_pos (.inr (e2.1 ⟨h5, h6⟩))]; rfl), Yb _ _⟩
   refine GO ?_
   exact ⟨ret_int (by rw [e3, if_neg (by rintro (h | h); omega; exact h6 (e2.2 h).2)]; rfl), Yb _ _⟩
  refine GO ?_
  exact ⟨ret_int (by rw [e3, if_neg (by rintro (h | h); omega; exact h5 (e2.2 h).1)]; rfl), Yb _ _⟩
 obtain ⟨b, o, c, hg, ht⟩ := hT
 refine GO ?_
 refine Ya (Tryz.call214 _ _) (ztQ b o c ht (n : Int)) ?_
 rintro e w1 ⟨k, rfl, hp, k1⟩
 refine RT ?_
 have hg1 := (k1.cell (p := ⟨0, 0, none⟩) (zeN hg) id).trans hg
 by_cases hf : k < 19 ∧ cmpC k (n : Int) = 0
 ·have hz := zmT k n hf.2 hf.1
  have hk := zmy k hf.1 n OM OM hz
  have hc : w1.cell? ⟨b, o + k * 3 + 2, none⟩ = some (.int .i64 (cutSp k).2.2) := (zbe (ht k hf.1) k1) 2 _ rfl
  rw [decide_eq_true hf]
  refine GO ?_
  exact ⟨ret_int hk.symm, k1⟩
 have hk := zqQ n OM OM fun m hm => zql k n hp hf m hm
 rw [decide_eq_false hf]
 refine GO ?_
 exact ⟨ret_int (by rw [hk]; rfl), k1⟩
end
section
variable {w : World}
theorem zaF (r lo hi : Int) (w : World) : Calls Tryz.prog 268 #[.int .i64 r, .int .i64 lo, .int .i64 hi] w fun e w' => e = .returned (.bool (decide (lo ≤ r ∧ r ≤ hi))) ∧ w = w' := by
 refine zaa (args := [.int .i64 r, .int .i64 lo, .int .i64 hi]) Tryz.func268 rfl NL ?_; refine GW ?_
 by_cases h1 : lo ≤ r
 ·by_cases h2 : r ≤ hi
  ·refine GO ?_
   exact ⟨by simp [h1, h2], rfl⟩
  refine GO ?_
  exact ⟨by simp [h2], rfl⟩
 refine GO ?_
 exact ⟨by simp [h1], rfl⟩
theorem zaX {r : Int} {k : Nat} {w : World} (h : kindI r = k) : Ending.returned (.int .i64 (k : Int)) = Ending.returned (.int .i64 ((kindI r : Nat) : Int)) ∧ w = w := ⟨by rw [h], rfl⟩
theorem zhe (r : Int) (w : World) : Calls Tryz.prog 263 #[.int .i64 r] w fun e w' => e = .returned (.int .i64 ((kindI r : Nat) : Int)) ∧ w = w' := by
 refine zaa (args := [.int .i64 r]) Tryz.func263 rfl NL ?_; refine GW ?_
 refine Ya (Tryz.call268 _ _) (zaF r 11904 12255 w) ?_
 rintro e w' ⟨rfl, rfl⟩
 refine RT ?_
 by_cases h1 : 11904 ≤ r ∧ r ≤ 12255
 ·rw [decide_eq_true h1]
  refine GO ?_
  refine ⟨zaX (k := 2) ?_⟩
  first | (unfold kindI kindN; repeat (first | rfl | rw [if_neg OM] | rw [if_pos OM])) | skip
 rw [decide_eq_false h1]
 refine GO ?_
 refine Ya (Tryz.call268 _ _) (zaF r 12353 12543 w) ?_
 rintro e w' ⟨rfl, rfl⟩
 refine RT ?_
 by_cases h2 : 12353 ≤ r ∧ r ≤ 12543
 ·rw [decide_eq_true h2]
  refine GO ?_
  refine ⟨zaX (k := 2) ?_⟩
  first | (unfold kindI kindN; repeat (first | rfl | rw [if_neg OM] | rw [if_pos OM])) | skip
 rw [decide_eq_false h2]
 refine GO ?_
 refine Ya (Tryz.call268 _ _) (zaF r 12549 12591 w) ?_
 rintro e w' ⟨rfl, rfl⟩
 refine RT ?_
 by_cases h3 : 12549 ≤ r ∧ r ≤ 12591
 ·rw [decide_eq_true h3]
  refine GO ?_
  refine ⟨zaX (k := 2) ?_⟩
  first | (unfold kindI kindN; repeat (first | rfl | rw [if_neg OM] | rw [if_pos OM])) | skip
 rw [decide_eq_false h3]
 refine GO ?_
 refine Ya (Tryz.call268 _ _) (zaF r 12593 12686 w) ?_
 rintro e w' ⟨rfl, rfl⟩
 refine RT ?_
 by_cases h4 : 12593 ≤ r ∧ r ≤ 12686
 ·rw [decide_eq_true h4]
  refine GO ?_
  refine ⟨zaX (k := 2) ?_⟩
  first | (unfold kindI kindN; repeat (first | rfl | rw [if_neg OM] | rw [if_pos OM])) | skip
 rw [decide_eq_false h4]
 refine GO ?_
 refine Ya (Tryz.call268 _ _) (zaF r 13312 19903 w) ?_
 rintro e w' ⟨rfl, rfl⟩
 refine RT ?_
 by_cases h5 : 13312 ≤ r ∧ r ≤ 19903
 ·rw [decide_eq_true h5]
  refine GO ?_
  refine ⟨zaX (k := 2) ?_⟩
  first | (unfold kindI kindN; repeat (first | rfl | rw [if_neg OM] | rw [if_pos OM])) | skip
 rw [decide_eq_false h5]
 refine GO ?_
 refine Ya (Tryz.call268 _ _) (zaF r 19968 40959 w) ?_
 rintro e w' ⟨rfl, rfl⟩
 refine RT ?_
 by_cases h6 : 19968 ≤ r ∧ r ≤ 40959
 ·rw [decide_eq_true h6]
  refine GO ?_
  refine ⟨zaX (k := 2) ?_⟩
  first | (unfold kindI kindN; repeat (first | rfl | rw [if_neg OM] | rw [if_pos OM])) | skip
 rw [decide_eq_false h6]
 refine GO ?_
 refine Ya (Tryz.call268 _ _) (zaF r 44032 55203 w) ?_
 rintro e w' ⟨rfl, rfl⟩
 refine RT ?_
 by_cases h7 : 44032 ≤ r ∧ r ≤ 55203
 ·rw [decide_eq_true h7]
  refine GO ?_
  refine ⟨zaX (k := 2) ?_⟩
  first | (unfold kindI kindN; repeat (first | rfl | rw [if_neg OM] | rw [if_pos OM])) | skip
 rw [decide_eq_false h7]
 refine GO ?_
 refine Ya (Tryz.call268 _ _) (zaF r 63744 64255 w) ?_
 rintro e w' ⟨rfl, rfl⟩
 refine RT ?_
 by_cases h8 : 63744 ≤ r ∧ r ≤ 64255
 ·rw [decide_eq_true h8]
  refine GO ?_
  refine ⟨zaX (k := 2) ?_⟩
  first | (unfold kindI kindN; repeat (first | rfl | rw [if_neg OM] | rw [if_pos OM])) | skip
 rw [decide_eq_false h8]
 refine GO ?_
 refine Ya (Tryz.call268 _ _) (zaF r 131072 262143 w) ?_
 rintro e w' ⟨rfl, rfl⟩
 refine RT ?_
 by_cases h9 : 131072 ≤ r ∧ r ≤ 262143
 ·rw [decide_eq_true h9]
  refine GO ?_
  refine ⟨zaX (k := 2) ?_⟩
  first | (unfold kindI kindN; repeat (first | rfl | rw [if_neg OM] | rw [if_pos OM])) | skip
 rw [decide_eq_false h9]
 refine GO ?_
 refine Ya (Tryz.call268 _ _) (zaF r 48 57 w) ?_
 rintro e w' ⟨rfl, rfl⟩
 refine RT ?_
 by_cases h10 : 48 ≤ r ∧ r ≤ 57
 ·rw [decide_eq_true h10]
  refine GO ?_
  refine ⟨zaX (k := 1) ?_⟩
  first | (unfold kindI kindN; repeat (first | rfl | rw [if_neg OM] | rw [if_pos OM])) | skip
 rw [decide_eq_false h10]
 refine GO ?_
 refine Ya (Tryz.call268 _ _) (zaF r 65 90 w) ?_
 rintro e w' ⟨rfl, rfl⟩
 refine RT ?_
 by_cases h11 : 65 ≤ r ∧ r ≤ 90
 ·rw [decide_eq_true h11]
  refine GO ?_
  refine ⟨zaX (k := 1) ?_⟩
  first | (unfold kindI kindN; repeat (first | rfl | rw [if_neg OM] | rw [if_pos OM])) | skip
 rw [decide_eq_false h11]
 refine GO ?_
 refine Ya (Tryz.call268 _ _) (zaF r 97 122 w) ?_
 rintro e w' ⟨rfl, rfl⟩
 refine RT ?_
 by_cases h12 : 97 ≤ r ∧ r ≤ 122
 ·rw [decide_eq_true h12]
  refine GO ?_
  refine ⟨zaX (k := 1) ?_⟩
  first | (unfold kindI kindN; repeat (first | rfl | rw [if_neg OM] | rw [if_pos OM])) | skip
 rw [decide_eq_false h12]
 refine GO ?_
 by_cases e1 : r = 215
 ·refine GO ?_
  refine ⟨zaX (k := 0) ?_⟩
  first | (unfold kindI kindN; repeat (first | rfl | rw [if_neg OM] | rw [if_pos OM])) | skip
 by_cases e2 : r = 247
 ·refine GO ?_
  refine ⟨zaX (k := 0) ?_⟩
  first | (unfold kindI kindN; repeat (first | rfl | rw [if_neg OM] | rw [if_pos OM])) | skip
 refine GO ?_
 refine Ya (Tryz.call268 _ _) (zaF r 8192 11263 w) ?_
 rintro e w' ⟨rfl, rfl⟩
 refine RT ?_
 by_cases h13 : 8192 ≤ r ∧ r ≤ 11263
 ·rw [decide_eq_true h13]
  refine GO ?_
  refine ⟨zaX (k := 0) ?_⟩
  first | (unfold kindI kindN; repeat (first | rfl | rw [if_neg OM] | rw [if_pos OM])) | skip
 rw [decide_eq_false h13]
 refine GO ?_
 refine Ya (Tryz.call268 _ _) (zaF r 12288 12351 w) ?_
 rintro e w' ⟨rfl, rfl⟩
 refine RT ?_
 by_cases h14 : 12288 ≤ r ∧ r ≤ 12351
 ·rw [decide_eq_true h14]
  refine GO ?_
  refine ⟨zaX (k := 0) ?_⟩
  first | (unfold kindI kindN; repeat (first | rfl | rw [if_neg OM] | rw [if_pos OM])) | skip
 rw [decide_eq_false h14]
 refine GO ?_
 refine Ya (Tryz.call268 _ _) (zaF r 55296 63743 w) ?_
 rintro e w' ⟨rfl, rfl⟩
 refine RT ?_
 by_cases h15 : 55296 ≤ r ∧ r ≤ 63743
 ·rw [decide_eq_true h15]
  refine GO ?_
  refine ⟨zaX (k := 0) ?_⟩
  first | (unfold kindI kindN; repeat (first | rfl | rw [if_neg OM] | rw [if_pos OM])) | skip
 rw [decide_eq_false h15]
 refine GO ?_
 refine Ya (Tryz.call268 _ _) (zaF r 65024 65039 w) ?_
 rintro e w' ⟨rfl, rfl⟩
 refine RT ?_
 by_cases h16 : 65024 ≤ r ∧ r ≤ 65039
 ·rw [decide_eq_true h16]
  refine GO ?_
  refine ⟨zaX (k := 0) ?_⟩
  first | (unfold kindI kindN; repeat (first | rfl | rw [if_neg OM] | rw [if_pos OM])) | skip
 rw [decide_eq_false h16]
 refine GO ?_
 refine Ya (Tryz.call268 _ _) (zaF r 65072 65135 w) ?_
 rintro e w' ⟨rfl, rfl⟩
 refine RT ?_
 by_cases h17 : 65072 ≤ r ∧ r ≤ 65135
 ·rw [decide_eq_true h17]
  refine GO ?_
  refine ⟨zaX (k := 0) ?_⟩
  first | (unfold kindI kindN; repeat (first | rfl | rw [if_neg OM] | rw [if_pos OM])) | skip
 rw [decide_eq_false h17]
 refine GO ?_
 refine Ya (Tryz.call268 _ _) (zaF r 65280 65295 w) ?_
 rintro e w' ⟨rfl, rfl⟩
 refine RT ?_
 by_cases h18 : 65280 ≤ r ∧ r ≤ 65295
 ·rw [decide_eq_true h18]
  refine GO ?_
  refine ⟨zaX (k := 0) ?_⟩
  first | (unfold kindI kindN; repeat (first | rfl | rw [if_neg OM] | rw [if_pos OM])) | skip
 rw [decide_eq_false h18]
 refine GO ?_
 refine Ya (Tryz.call268 _ _) (zaF r 65520 65535 w) ?_
 rintro e w' ⟨rfl, rfl⟩
 refine RT ?_
 by_cases h19 : 65520 ≤ r ∧ r ≤ 65535
 ·rw [decide_eq_true h19]
  refine GO ?_
  refine ⟨zaX (k := 0) ?_⟩
  first | (unfold kindI kindN; repeat (first | rfl | rw [if_neg OM] | rw [if_pos OM])) | skip
 rw [decide_eq_false h19]
 refine GO ?_
 refine Ya (Tryz.call268 _ _) (zaF r 126976 129791 w) ?_
 rintro e w' ⟨rfl, rfl⟩
 refine RT ?_
 by_cases h20 : 126976 ≤ r ∧ r ≤ 129791
 ·rw [decide_eq_true h20]
  refine GO ?_
  refine ⟨zaX (k := 0) ?_⟩
  first | (unfold kindI kindN; repeat (first | rfl | rw [if_neg OM] | rw [if_pos OM])) | skip
 rw [decide_eq_false h20]
 refine GO ?_
 by_cases e3 : r < 192
 ·refine GO ?_
  refine ⟨zaX (k := 0) ?_⟩
  by_cases e0 : r < 0
  rotate_left
  all_goals
   first | (unfold kindI kindN; repeat (first | rfl | rw [if_neg OM] | rw [if_pos OM])) | skip
 by_cases e4 : 1114111 < r
 ·refine GO ?_
  refine ⟨zaX (k := 0) ?_⟩
  first | (unfold kindI kindN; repeat (first | rfl | rw [if_neg OM] | rw [if_pos OM])) | skip
 refine GO ?_
 refine ⟨zaX (k := 1) ?_⟩
 first | (unfold kindI kindN; repeat (first | rfl | rw [if_neg OM] | rw [if_pos OM])) | skip
end
section
theorem zaz (r lo hi : Int) (w : World) : Calls Tryz.prog 269 #[.int .i64 r, .int .i64 lo, .int .i64 hi] w fun e w' => e = .returned (.bool (decide (lo ≤ r ∧ r ≤ hi))) ∧ w = w' := by
 refine zaa (args := [.int .i64 r, .int .i64 lo, .int .i64 hi]) Tryz.func269 rfl NL ?_; refine GW ?_
 by_cases h1 : lo ≤ r
 ·by_cases h2 : r ≤ hi
  ·refine GO ?_
   exact ⟨by simp [h1, h2], rfl⟩
  refine GO ?_
  exact ⟨by simp [h2], rfl⟩
 refine GO ?_
 exact ⟨by simp [h1], rfl⟩
end
theorem _root_.Go.Pw.Kp.ofGrown {w w' : World} {row : Option Nat} (h : w.grownBy w' row) : Kp w w' (fun k => row = some k) :=
 ⟨h.os, h.tape, h.output, h.size, fun k hk hn => h.block k hk fun e => hn e.symm⟩
abbrev Wd := List UInt8 × Nat × Nat
def wordCells (x : Wd) : List Value := [.string (str x.1), .int .i64 (x.2.1 : Nat), .int .i64 (x.2.2 : Nat)]
def Wds (w : World) (B : Nat) (v : Value) (l : List Wd) : Prop := w.ownsRow B 116 3 v l.length (l.flatMap wordCells)
theorem zqu : (Tryz.prog.info? 116).map (fun i => (i.zero, i.size, i.bytes)) = some (some (.agg #[.string ⟨#[]⟩, .int .i64 0, .int .i64 0]), 3, 32) := by kernel_rfl
theorem zmv (s : ByteArray) (a b : Int) (w : World) : (Instr.build 116 [(0, .string s), (1, .int .i64 a), (2, .int .i64 b)].toArray).run Tryz.prog w = .ok (.agg #[.string s, .int .i64 a, .int .i64 b]) w := by
 simp [Instr.build, Instr.fill, go_sem, Tryz.runUnderlying116]
theorem zcs (s : ByteArray) (a b : Int) (w : World) : (Instr.buildSlice 113 1 [(0, .agg #[.string s, .int .i64 a, .int .i64 b])].toArray).run Tryz.prog w = .ok (.slice (some ⟨w.heap.size, 0, none⟩) 1 1) (w.alloc (.cells #[.string s, .int .i64 a, .int .i64 b] 116)) := by
 simp [Instr.buildSlice, go_sem, Tryz.runUnderlying113]
theorem zfd {w : World} {K : Value → World → Prop} {B : Nat} {v : Value} {l : List Wd} {cs : Array Bool} (h : Wds w B v l) (hB : B ≤ w.heap.size) (x : Wd) (hl : l.length ≤ 1000000000)
  (k : ∀ v' w', Wds w' B v' (l ++ [x]) → (w.alloc (.cells (wordCells x).toArray 116)).grownBy w' v.ownBlock → K v' w') :
  RunN Tryz.prog (builtin .append #[113, 113] 113 cs [v, .slice (some ⟨w.heap.size, 0, none⟩) 1 1].toArray) (w.alloc (.cells (wordCells x).toArray 116)) K := by
 refine RunN.app Tryz.underlying113 zqu rfl (by decide) (own_keep0 h ((Yb _ _).alloc _)) (yaw hB ((Yb w n_).alloc _).size) ⟨w.heap.size, 0, none⟩ 1 1 (wordCells x) rfl (zgj _ _ _) (by simp [wordCells, Value.oneCell']) OM OM fun v' w' h2 h3 => k v' w' ?_ h3
 unfold Wds
 rw [yaa, yaC]
 simpa using h2
structure WSt (w0 w : World) (bs bo bf : Nat) (s : ByteArray) (v : Value) (l : List Wd) (fr : Int) : Prop where
 k : Kp w0 w n_
 hbs : w0.heap.size ≤ bs
 hbo : w0.heap.size ≤ bo
 hbf : w0.heap.size ≤ bf
 cs : Var1 w bs 9 (.string s)
 co : Var1 w bo 113 v
 cf : Var1 w bf 3 (.int .i64 fr)
 row : Wds w w0.heap.size v l
section
variable {w0 w : World} {bs bo bf : Nat} {s : ByteArray} {v : Value} {l : List Wd} {fr : Int}
theorem WSt.setFrom (h : WSt w0 w bs bo bf s v l fr) (x : Int) : WSt w0 (w.setCell ⟨bf, 0, none⟩ (.int .i64 x)) bs bo bf s v l x :=
 ⟨h.k.setCell (p := ⟨bf, 0, none⟩) (.inr h.hbf) _, h.hbs, h.hbo, h.hbf, h.cs.set_ne (h.cs.ne h.cf (by decide)), h.co.set_ne (h.co.ne h.cf (by decide)), h.cf.set _,
  own_keep h.row ((Yb w (one_ bf)).setCell (p := ⟨bf, 0, none⟩) (.inl rfl) _) fun b hb e => h.cf.ne_own h.row (by decide) (by rw [hb]; exact congrArg some e)⟩
theorem WSt.iter {bi : Nat} {t : ByteArray} {p : Nat} {o : Obj} (h : WSt w0 w bs bo bf s v l fr) (hi : w.heap[bi]? = some (.stringIter t p)) (hb : w0.heap.size ≤ bi) : WSt w0 (setO w bi o) bs bo bf s v l fr := by
 have k := zdu (w := w) (b := bi) o
 have ne : ∀ {b : Nat} {T : TypeId} {u : Value}, Var1 w b T u → ¬ one_ bi b := fun hv e => by
  have e : _ = bi := e
  unfold Var1 at hv
  rw [e, hi] at hv; cases hv
 refine ⟨h.k.trans k fun i hi' e => ?_, h.hbs, h.hbo, h.hbf, h.cs.keep k (ne h.cs), h.co.keep k (ne h.co), h.cf.keep k (ne h.cf), own_keep h.row k fun b hb e => ?_⟩
 ·have e : i = bi := e
  omega
 have e : b = bi := e
 rcases h.row.2 with ⟨hn, _⟩ | ⟨g, cap, cur, hn, _, hg, _⟩
 ·rw [hn] at hb; cases hb
 rw [hn] at hb
 injection hb with hb
 have hb : g = b := hb
 rw [hb, e, hi] at hg; cases hg
theorem WSt.keep {w' : World} (h : WSt w0 w bs bo bf s v l fr) (k : Kp w w' n_) : WSt w0 w' bs bo bf s v l fr :=
 ⟨h.k.trans0 k, h.hbs, h.hbo, h.hbf, h.cs.keep k id, h.co.keep k id, h.cf.keep k id, own_keep0 h.row k⟩
def zaL (w w' : World) : Prop := ∀ (bi : Nat) (t : ByteArray) (p : Nat), w.heap[bi]? = some (.stringIter t p) → w'.heap[bi]? = some (.stringIter t p)
theorem zaL.trans {a b c : World} (h : zaL a b) (k : zaL b c) : zaL a c := fun bi t p hi => k bi t p (h bi t p hi)
theorem zaL.set {w : World} {b : Nat} {T : TypeId} {v : Value} (h : Var1 w b T v) (u : Value) : zaL w (w.setCell ⟨b, 0, none⟩ u) := fun bi t p hi => by
 rw [RowKit.Below.heap_setCell _ _ _ _ (fun e => by have e : bi = b := e; subst e; unfold Var1 at h; rw [hi] at h; cases h)]
 exact hi
theorem zaL.keep {w w' : World} (k : Kp w w' n_) : zaL w w' := fun bi t p hi => (k.block bi (zbD hi) id).trans hi
theorem zcI (h : WSt w0 w bs bo bf s v l fr) (hT : zcv w0) (hs : s.size ≤ 100000000) (m : Nat) (hto : m ≤ s.size) (hf : fr ≤ m) (h1 : -1 ≤ fr) (hl : l.length ≤ 100000000) :
  Calls Tryz.prog 146 #[.int .i64 (m : Int), .pointer (some ⟨bf, 0, none⟩), .pointer (some ⟨bo, 0, none⟩), .pointer (some ⟨bs, 0, none⟩)] w fun e w' =>
   e = .returned (.tuple #[]) ∧ (∃ v', WSt w0 w' bs bo bf s v' (if fr < 0 then l else l ++ [(foldL (cutL (L s) (fr.toNat, m)), fr.toNat, m)]) (-1)) ∧ zaL w w' := by
 have cf := h.cf.cell
 refine zaa (args := [.int .i64 (m : Int), .pointer (some ⟨bf, 0, none⟩), .pointer (some ⟨bo, 0, none⟩), .pointer (some ⟨bs, 0, none⟩)]) Tryz.func146 rfl NL ?_; refine GW ?_
 refine GO ?_
 by_cases h0 : fr < 0
 ·refine GO ?_
  refine Store.one (by rfl) ⟨rfl, by simp, by simp⟩ cf h.cf.frozen ?_
  refine GW ?_
  exact ⟨rfl, ⟨v, by rw [if_pos h0]; exact h.setFrom (-1)⟩, zaL.set h.cf _⟩
 refine GO ?_
 obtain ⟨n, rfl⟩ : ∃ n : Nat, fr = n := ⟨fr.toNat, OM⟩
 obtain ⟨va, vc, rfl⟩ := zab h.row
 refine Yh (fun u => Kp w u (fun k => (Value.slice va l.length vc).ownBlock = some k)) (fun _ => true) (by simp) (by decide +kernel) (by decide +kernel) (Yb _ _).drew ?_
 have f1 : ∀ u, Kp w u (fun k => (Value.slice va l.length vc).ownBlock = some k) → u.cell? ⟨bf, 0, none⟩ = some (.int .i64 (n : Int)) := fun u k => (h.cf.keep k (h.cf.ne_own h.row (by decide))).cell
 have f2 : ∀ u, Kp w u (fun k => (Value.slice va l.length vc).ownBlock = some k) → u.cell? ⟨bo, 0, none⟩ = some (.slice va l.length vc) := fun u k => (h.co.keep k (h.co.ne_own h.row (by decide))).cell
 have f3 : ∀ u, Kp w u (fun k => (Value.slice va l.length vc).ownBlock = some k) → u.cell? ⟨bs, 0, none⟩ = some (.string s) := fun u k => (h.cs.keep k (h.cs.ne_own h.row (by decide))).cell
 refine GW ?_
 refine Yf (by rfl) (fun u ku => f2 u ku) ?_
 refine GW ?_
 refine Yf (by rfl) (fun u ku => f3 u ku) ?_
 refine GW ?_
 refine Yf (by rfl) (fun u ku => f1 u ku) ?_
 refine GO ?_
 have hx : (s.extract n m).size ≤ 100000000 := by simp; omega
 have hLx : L (s.extract n m) = cutL (L s) (n, m) := zcn s n m
 refine Ya (Tryz.call147 _ _) (zob (s.extract n m) (hT.keep h.k.drew) hx) ?_
 rintro e w1 ⟨rfl, k1⟩
 rw [hLx]
 refine RT ?_
 have K1 : Kp w w1 (fun k => (Value.slice va l.length vc).ownBlock = some k) := (Yb w _).drew.trans' (Kp.of_none k1)
 refine ⟨K1, ?_⟩
 refine GW ?_
 refine Yf (by rfl) (fun u ku => f1 u ku) ?_
 refine GW ?_
 refine Ye (zmv _ _ _ _) ?_
 refine GW ?_
 refine Ye (zcs _ _ _ _) ?_
 refine ⟨K1.alloc _, ?_⟩
 refine GW ?_
 have k0 : Kp w w1 n_ := (Yb w _).drew.trans0 k1
 refine zfd (own_keep0 h.row k0) (yaw h.k.size k0.size) (foldL (cutL (L s) (n, m)), n, m) OM fun v' w2 h2 hg2 => ?_
 obtain ⟨a2, c2, rfl⟩ : ∃ a c, v' = .slice a (l.length + 1) c := by
  obtain ⟨a, c, e⟩ := zab h2
  exact ⟨a, c, by rw [e, yaa]; rfl⟩
 have K2 : Kp w w2 (fun k => (Value.slice va l.length vc).ownBlock = some k) := (K1.alloc _).trans' (Kp.ofGrown hg2)
 have k02 : Kp w0 w2 n_ := ((h.k.trans0 k0).alloc _).own (own_keep0 (own_keep0 h.row k0) ((Yb _ _).alloc _)) (yag _) hg2
 refine ⟨K2, ?_⟩
 have s2 := h.cs.keep K2 (h.cs.ne_own h.row (by decide))
 have o2 := h.co.keep K2 (h.co.ne_own h.row (by decide))
 have q2 := h.cf.keep K2 (h.cf.ne_own h.row (by decide))
 refine GW ?_
 refine Store.one (by rfl) ⟨rfl, by simp, by simp⟩ o2.cell o2.frozen ?_
 have st : WSt w0 (w2.setCell ⟨bo, 0, none⟩ (.slice a2 (l.length + 1) c2)) bs bo bf s (.slice a2 (l.length + 1) c2) (l ++ [(foldL (cutL (L s) (n, m)), n, m)]) n :=
  ⟨k02.setCell (p := ⟨bo, 0, none⟩) (.inr h.hbo) _, h.hbs, h.hbo, h.hbf, s2.set_ne (s2.ne o2 (by decide)), o2.set _, q2.set_ne (q2.ne o2 (by decide)),
   own_keep h2 ((Yb w2 (one_ bo)).setCell (p := ⟨bo, 0, none⟩) (.inl rfl) _) fun b hb e => o2.ne_own h2 (by decide) (by rw [hb]; exact congrArg some e)⟩
 have it2 : zaL w w2 := fun bi t p hi => (K2.block bi (zbD hi) (fun e => by
  have e : (Value.slice va l.length vc).ownBlock = some bi := e
  rcases h.row.2 with ⟨hn, _⟩ | ⟨g, cap, cur, hn, _, hg, _⟩
  ·rw [hn] at e; cases e
  rw [hn] at e
  injection e with e
  have e : g = bi := e
  rw [e, hi] at hg
  cases hg)).trans hi
 have it3 : zaL w2 (w2.setCell ⟨bo, 0, none⟩ (.slice a2 (l.length + 1) c2)) := zaL.set o2 _
 generalize w2.setCell ⟨bo, 0, none⟩ (.slice a2 (l.length + 1) c2) = w3 at *
 refine GW ?_
 refine Store.one (by rfl) ⟨rfl, by simp, by simp⟩ st.cf.cell st.cf.frozen ?_
 refine GW ?_
 refine ⟨rfl, ⟨.slice a2 (l.length + 1) c2, ?_⟩, (it2.trans it3).trans (zaL.set st.cf _)⟩
 rw [if_neg h0, Int.toNat_natCast]
 exact st.setFrom (-1)
end
end Go.Proofs.YtennokckmjcefaaGreatDoor
