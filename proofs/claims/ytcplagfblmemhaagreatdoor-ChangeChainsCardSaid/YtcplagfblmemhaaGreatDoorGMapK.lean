/- Helper text of this claim: lemmas and contracts that the proved statement rests on; no conditions of its own. -/
import Derived.Laws.RangeString
import Derived.Laws.StructEq
import Derived.Maps.AppendAt
import Derived.Lib.AppendStr
import Derived.Test.YtcplagfblmemhaaGreatDoorGAg2
namespace Go.Vc
set_option linter.unusedVariables false
set_option maxHeartbeats 1000000
open Go Go.Pw Go.RowKit
set_option linter.unusedVariables false
theorem zjB (a b : ByteArray) : (a == b) = decide (a = b) := by
 obtain ⟨a⟩ := a
 obtain ⟨b⟩ := b
 have e : ((ByteArray.mk a == ByteArray.mk b) : Bool) = (a == b) := rfl
 rw [e]
 by_cases h : a = b <;> simp [h]
abbrev SM := List (ByteArray × Value)
def SM.get : SM → ByteArray → Option Value
 | [], _ => none
 | (s, v) :: r, k => if k = s then some v else SM.get r k
def SM.put : SM → ByteArray → Value → SM
 | [], k, x => [(k, x)]
 | (s, v) :: r, k, x => if k = s then (s, x) :: r else (s, v) :: SM.put r k x
def SM.del : SM → ByteArray → SM
 | [], _ => []
 | (s, v) :: r, k => if k = s then r else (s, v) :: SM.del r k
def entP (e : MapEntry) : Value × Value := (e.key, e.val)
def smP (p : ByteArray × Value) : Value × Value := (.string p.1, p.2)
def SMap (w : World) (b : Nat) (m : SM) : Prop := ∃ es clock, w.heap[b]? = some (.map es clock) ∧ es.toList.map entP = m.map smP
theorem findNow_str (k : ByteArray) : ∀ (es : List MapEntry) (m : SM) (i : Nat), es.map entP = m.map smP →
  (m.get k = none ∧ Instr.findNow .string (.string k) es i = some none ∧ (∀ x, m.put k x = m ++ [(k, x)]) ∧ m.del k = m) ∨
  ∃ v j, m.get k = some v ∧ j < es.length ∧ Instr.findNow .string (.string k) es i = some (some (i + j, v)) ∧ (es[j]?).map (·.key) = some (.string k) ∧ (∀ x, (es.modify j fun e => { e with key := .string k, val := x }).map entP = (m.put k x).map smP) ∧ (es.eraseIdx j).map entP = (m.del k).map smP
 | [], m, i, h => by
  have : m = [] := by cases m with | nil => rfl | cons a r => simp at h
  subst this
  exact .inl ⟨rfl, rfl, fun _ => rfl, rfl⟩
 | e :: es, [], i, h => by simp at h
 | e :: es, (s, v) :: r, i, h => by
  simp only [List.map_cons, List.cons.injEq] at h
  obtain ⟨h1, h2⟩ := h
  simp only [entP, smP, Prod.mk.injEq] at h1
  obtain ⟨h3, h4⟩ := h1
  by_cases hk : k = s
  ·right
   subst hk
   refine ⟨v, 0, by simp [SM.get], by simp, ?_, by simp [h3], fun x => ?_, ?_⟩
   ·simp [Instr.findNow, h3, Instr.sameNow, h4, zjB]
   ·simp [SM.put, entP, smP, h2]
   ·simp [SM.del, h2]
  ·rcases findNow_str k es r (i + 1) h2 with ⟨a1, a2, a3, a4⟩ | ⟨v', j, a1, a2, a3, a4, a5, a6⟩
   ·left
    refine ⟨by simp [SM.get, hk, a1], ?_, fun x => by simp [SM.put, hk, a3], by simp [SM.del, hk, a4]⟩
    simp [Instr.findNow, h3, Instr.sameNow, hk, a2, zjB]
   ·right
    refine ⟨v', j + 1, by simp [SM.get, hk, a1], Nat.succ_lt_succ a2, ?_, by simpa using a4, fun x => ?_, ?_⟩
    ·simp [Instr.findNow, h3, Instr.sameNow, hk, a3, zjB]; omega
    ·simp only [List.modify_succ_cons, List.map_cons, SM.put, if_neg hk, a5 x]
     simp [entP, smP, h3, h4]
    ·simp only [List.eraseIdx_cons_succ, List.map_cons, SM.del, if_neg hk, a6]
     simp [entP, smP, h3, h4]
section
variable {P : Program} {w : World} {b : Nat} {m : SM} {t kt et : TypeId} {K : Value → World → Prop}
theorem checkKey_str' (hk : P.underlying kt = some .string) (e : Bool) (s : ByteArray) (n : Nat) : (Instr.checkKey e (n + 1) kt (.string s)).run P w = .ok () w := by
 unfold Instr.checkKey
 simp [zaA hk]
theorem zex (hk : P.underlying kt = some .string) (e : Bool) (s : ByteArray) : (Instr.checkKey e 10000 kt (.string s)).run P w = .ok () w := checkKey_str' hk e s 9999
def setO (w : World) (b : Nat) (o : Obj) : World := { w with heap := w.heap.set! b o }
theorem zeM (o : Obj) (hb : b < w.heap.size) : (setO w b o).heap[b]? = some o := by
 simp [setO, hb]
theorem zbO (o : Obj) : Kp w (setO w b o) (one_ b) :=
 ⟨rfl, rfl, rfl, by simp [setO], fun k hk hn => by
  have : b ≠ k := fun e => hn e.symm
  simp [setO, this]⟩
theorem RunU.upd {K : World → Prop} (ht : P.underlying t = some (.map kt et)) (hk : P.underlying kt = some .string) (h : SMap w b m) (s : ByteArray) (x : Value) (k : ∀ w', SMap w' b (m.put s x) → Kp w w' (one_ b) → K w') :
  RunU P (Instr.mapUpdate t (.map (some b)) (.string s) x) w K := by
 obtain ⟨es, clock, hb, he⟩ := h
 have hlt : b < w.heap.size := by
  rcases Nat.lt_or_ge b w.heap.size with h' | h'
  ·exact h'
  ·rw [Array.getElem?_eq_none h'] at hb; cases hb
 rcases findNow_str s es.toList m 0 he with ⟨a1, a2, a3, _⟩ | ⟨v, j, a1, a2, a3, a4, a5, _⟩
 ·refine ⟨setO w b (.map (es.push { key := .string s, val := x, born := clock }) (clock + 1)), ?_, k _ ⟨_, _, zeM _ hlt, ?_⟩ (zbO _)⟩
  ·simp [Instr.mapUpdate, zaA ht, getObj, setObj, Sem.run, hb, zex hk, Instr.findKey, zaA hk, a2, setO]
  ·simp [a3, he, entP, smP]
 ·have e : (es.toList[j]?).map (·.key) = some (.string s) := a4
  have e2 : ((es[j]?).map (·.key)).getD (.string s) = .string s := by
   rw [← Array.getElem?_toList, e]; rfl
  refine ⟨setO w b (.map (es.modify j fun e => { e with key := .string s, val := x }) clock), ?_, k _ ⟨_, _, zeM _ hlt, ?_⟩ (zbO _)⟩
  ·simp [Instr.mapUpdate, zaA ht, getObj, setObj, Sem.run, hb, zex hk, Instr.findKey, zaA hk, a3, setO, e2, Instr.keyThatStays, Instr.sameBits, zjB]
  ·rw [Array.toList_modify]; exact a5 x
end
end Go.Vc
namespace Go.Vc
set_option linter.unusedVariables false
set_option maxHeartbeats 1000000
theorem SM.put_new : ∀ (m : SM) (k : ByteArray) (x : Value) (ks : List ByteArray), m.map (·.1) = ks → ¬ k ∈ ks → m.put k x = m ++ [(k, x)]
 | [], k, x, _, _, _ => rfl
 | (s, v) :: r, k, x, _, rfl, hn => by
  simp only [List.map_cons, List.mem_cons, not_or] at hn
  simp only [SM.put, if_neg hn.1, SM.put_new r k x _ rfl hn.2]; rfl
end Go.Vc
namespace Go.Vc
set_option linter.unusedVariables false
set_option maxHeartbeats 1000000
open Go.Cs
end Go.Vc
namespace Go.Vc
set_option linter.unusedVariables false
set_option maxHeartbeats 1000000
open Go Go.Pw Go.RowKit Go.Cs Go.Lib
set_option linter.unusedVariables false
section
variable {P : Program} {w : World} {K : Value → World → Prop}
theorem RunV.rangeS {t : TypeId} {s : ByteArray} (h : P.underlying t = some .string) (k : K (.pointer (some ⟨w.heap.size, 0, none⟩)) (w.alloc (.stringIter s 0))) : RunV P (Instr.range t (.string s)) w K :=
 ⟨_, _, run_range_string w t s h, k⟩
theorem RunV.nextS {b pos : Nat} {s : ByteArray} {ty : TypeId} (h : w.heap[b]? = some (.stringIter s pos)) (hp : pos < s.size)
  (k : K (.tuple #[.bool true, .int .i64 (pos : Nat), .int .i32 ((decodeL ((L s).drop pos)).1 : Nat)]) (setO w b (.stringIter s (pos + (decodeL ((L s).drop pos)).2)))) :
  RunV P (Instr.next (.pointer (some ⟨b, 0, none⟩)) true ty) w K := by
 refine ⟨_, _, ?_, k⟩
 have e : Utf8.decode s pos = decodeL ((L s).drop pos) := (Lib.decodeL_drop s pos).symm
 simp only [Instr.next, getObj, setObj, Sem.run_bind, Sem.run, h, Result.andThen, hp, if_true, e]
 simp [goInt, setO]
theorem RunV.nextE {b pos : Nat} {s : ByteArray} {ty : TypeId} (h : w.heap[b]? = some (.stringIter s pos)) (hp : ¬ pos < s.size) (k : K (.tuple #[.bool false]) w) : RunV P (Instr.next (.pointer (some ⟨b, 0, none⟩)) true ty) w K := by
 refine ⟨_, _, ?_, k⟩
 simp [Instr.next, getObj, Sem.run, h, hp]
theorem zbT {b : Nat} {o : Obj} (h : w.heap[b]? = some o) : b < w.heap.size := by
 rcases Nat.lt_or_ge b w.heap.size with h' | h'
 ·exact h'
 ·rw [Array.getElem?_eq_none h'] at h; cases h
end
end Go.Vc
namespace Go.Proofs.YtcplagfblmemhaaGreatDoor
set_option linter.unusedVariables false
set_option maxHeartbeats 1000000
open Go.RowKit Go.Pw Go.Vc Go.Cs Go.Lib
set_option linter.unusedVariables false
set_option maxRecDepth 100000
def spF (x : Int × Int × Int × Int) : List Value := [.int .i32 x.1, .int .i32 x.2.1, .int .i32 x.2.2.1, .int .i32 x.2.2.2]
def FoldTab (w : World) : Prop := ∃ b o c, w.cell? ⟨2, 0, none⟩ = some (.slice (some ⟨b, o, none⟩) 17 c) ∧ ∀ i, i < 17 → At w b (o + i * 4) (spF (foldSp i))
theorem FoldTab.keep {w w' : World} (h : FoldTab w) (k : Kp w w' n_) : FoldTab w' := by
 obtain ⟨b, o, c, h1, h2⟩ := h
 exact ⟨b, o, c, by rw [k.cell (cell_lt h1) id]; exact h1, fun i hi => zds (h2 i hi) k⟩
section
variable {w : World}
theorem zlI (i : Nat) (hi : i < 17) (r : Int) : Calls Tryz.prog 185 #[.agg (spF (foldSp i)).toArray, .int .i32 r] w fun e w' => e = .returned (.int .i64 (cmpF i r)) ∧ Kp w w' n_ := by
 unfold cmpF spF
 generalize foldSp i = x
 obtain ⟨lo, hi', st, mo⟩ := x
 dsimp only
 refine zaa (args := [.agg #[.int .i32 lo, .int .i32 hi', .int .i32 st, .int .i32 mo], .int .i32 r]) Tryz.func185 rfl NL ?_; refine GW ?_
 have k0 : Kp w (w.alloc (.cells #[.int .i32 lo, .int .i32 hi', .int .i32 st, .int .i32 mo] 245)) n_ := (Kp.refl _ _).alloc _
 have hA := zeE (heap_alloc_new w (.cells #[.int .i32 lo, .int .i32 hi', .int .i32 st, .int .i32 mo] 245))
 have c0 : (w.alloc (.cells #[.int .i32 lo, .int .i32 hi', .int .i32 st, .int .i32 mo] 245)).cell? ⟨w.heap.size, 0, none⟩ = some (.int .i32 lo) := hA 0 _ rfl
 have c1 : (w.alloc (.cells #[.int .i32 lo, .int .i32 hi', .int .i32 st, .int .i32 mo] 245)).cell? ⟨w.heap.size, 0 + 1, none⟩ = some (.int .i32 hi') := hA 1 _ rfl
 generalize w.alloc (.cells #[.int .i32 lo, .int .i32 hi', .int .i32 st, .int .i32 mo] 245) = w1 at *
 by_cases h1 : hi' < r
 ·refine GO ?_
  exact ⟨by rw [if_pos h1], k0⟩
 ·by_cases h2 : r < lo
  ·refine GO ?_
   exact ⟨by rw [if_neg h1, if_pos h2], k0⟩
  ·refine GO ?_
   exact ⟨by rw [if_neg h1, if_neg h2], k0⟩
theorem zpF (b o c : Nat) (hT : ∀ i, i < 17 → At w b (o + i * 4) (spF (foldSp i))) (r : Int) : Calls Tryz.prog 184 #[.slice (some ⟨b, o, none⟩) 17 c, .int .i32 r, .func (.func 185) #[] #[]] w fun e w' =>
  ∃ k, e = .returned (.tuple #[.int .i64 (k : Nat), .bool (decide (k < 17 ∧ cmpF k r = 0))]) ∧ Pos (fun i => cmpF i r) 17 k ∧ Kp w w' n_ := by
 refine zaa (args := [.slice (some ⟨b, o, none⟩) 17 c, .int .i32 r, .func (.func 185) #[] #[]]) Tryz.func184 rfl NL ?_; refine GW ?_
 refine Loop.intro (ι := Nat × Nat) (fun p => [(0, .slice (some ⟨b, o, none⟩) 17 c), (1, .int .i32 r), (2, .func (.func 185) #[] #[]), (8, .int .i64 17), (9, .int .i64 p.1), (10, .int .i64 p.2)])
  (fun p wr => Kp w wr n_ ∧ p.1 ≤ p.2 ∧ p.2 ≤ 17 ∧ (∀ m, m < p.1 → cmpF m r < 0) ∧ ∀ m, p.2 ≤ m → m < 17 → 0 ≤ cmpF m r) (fun p => p.2 - p.1) (0, 17) ⟨rfl, rfl, rfl, rfl, rfl, rfl, trivial⟩
  ⟨Kp.refl _ _, by omega, Nat.le_refl _, fun m hm => by omega, fun m h1 h2 => by omega⟩ ?_
 rintro ⟨i, j⟩ g wr ⟨hK, hij, hj, hlo, hhi⟩
 dsimp only at hij hj hlo hhi ⊢
 refine GW ?_
 by_cases hlt : i < j
 ·refine GO ?_
  rw [zie i j (by omega)]
  have hm1 : i ≤ (i + j) / 2 := by omega
  have hm2 : (i + j) / 2 < j := by omega
  generalize (i + j) / 2 = h at *
  refine GO ?_
  refine Load.agg (spF (foldSp h)) (by rfl) (by rfl) (by rfl) (zds (hT h (by omega)) hK) ?_
  refine GO ?_
  refine CallS.of (Tryz.call185 _ _) (zlI h (by omega) r) ?_
  rintro e w1 ⟨rfl, k1⟩
  refine RT ?_
  by_cases hc : cmpF h r < 0
  ·refine GO ?_
   refine ⟨(h + 1, j), ⟨rfl, rfl, rfl, rfl, v_int (by simp), rfl, trivial⟩, ⟨hK.trans0 k1, by dsimp only; omega, hj, fun m hm => ?_, hhi⟩, by dsimp only; omega⟩
   by_cases e : m = h
   ·rw [e]; exact hc
   ·exact zhR m h (by dsimp only at hm; omega) (by omega) r hc
  ·refine GO ?_
   refine ⟨(i, h), ⟨rfl, rfl, rfl, rfl, rfl, rfl, trivial⟩, ⟨hK.trans0 k1, by dsimp only; omega, by dsimp only; omega, hlo, fun m m1 m2 => ?_⟩, by dsimp only; omega⟩
   dsimp only at m1
   by_cases e : m = h
   ·rw [e]; omega
   ·have hx : ¬ cmpF m r < 0 := fun hn => hc (zhR h m (by omega) m2 r hn)
    omega
 ·have hji : j = i := by omega
  subst hji
  have hpos : Pos (fun i => cmpF i r) 17 j := ⟨hj, hlo, hhi⟩
  by_cases h17 : j < 17
  ·refine GO ?_
   refine Load.agg (spF (foldSp j)) (by rfl) (by rfl) (by rfl) (zds (hT j h17) hK) ?_
   refine GO ?_
   refine CallS.of (Tryz.call185 _ _) (zlI j h17 r) ?_
   rintro e w1 ⟨rfl, k1⟩
   refine RT ?_
   refine GO ?_
   exact ⟨j, by rw [show decide (j < 17 ∧ cmpF j r = 0) = (cmpF j r == 0) by by_cases h0 : cmpF j r = 0 <;> simp [h0, h17]], hpos, hK.trans0 k1⟩
  ·refine GO ?_
   exact ⟨j, by rw [show decide (j < 17 ∧ cmpF j r = 0) = false by simp [h17]], hpos, hK⟩
theorem zfS (n : Nat) (hn : n ≤ 1114111) (hT : FoldTab w) : Calls Tryz.prog 172 #[.int .i32 (n : Int)] w fun e w' => e = .returned (.int .i32 ((lowC n : Nat) : Int)) ∧ Kp w w' n_ := by
 obtain ⟨b, o, c, hg, ht⟩ := hT
 refine zaa (args := [.int .i32 (n : Int)]) Tryz.func172 rfl NL ?_; refine GW ?_
 refine GO ?_
 refine CallS.of (Tryz.call184 _ _) (zpF b o c ht (n : Int)) ?_
 rintro e w1 ⟨k, rfl, hp, k1⟩
 refine RT ?_
 have hg1 := (k1.cell (p := ⟨2, 0, none⟩) (cell_lt hg) id).trans hg
 have hg2 : w1.drew.cell? ⟨2, 0, none⟩ = _ := hg1
 by_cases hf : k < 17 ∧ cmpF k (n : Int) = 0
 ·have hz := zkQ k n hf.2
  have hl := zlt k hf.1 n hz
  have hft := zgz ⟨k, hf.1⟩
  simp only at hft
  have c0 : w1.drew.cell? ⟨b, o + k * 4, none⟩ = some (.int .i32 (foldSp k).1) := (zds (ht k hf.1) k1) 0 _ rfl
  have c2 : w1.drew.cell? ⟨b, o + k * 4 + 2, none⟩ = some (.int .i32 (foldSp k).2.2.1) := (zds (ht k hf.1) k1) 2 _ rfl
  have c3 : w1.drew.cell? ⟨b, o + k * 4 + 3, none⟩ = some (.int .i32 (foldSp k).2.2.2) := (zds (ht k hf.1) k1) 3 _ rfl
  rw [decide_eq_true hf]
  have hs : (foldSp k).2.2.1 = 1 ∨ (foldSp k).2.2.1 = 2 := by omega
  generalize (foldSp k).1 = lo at *
  generalize (foldSp k).2.1 = hi at *
  generalize (foldSp k).2.2.1 = st at *
  generalize (foldSp k).2.2.2 = mo at *
  rcases hs with rfl | rfl
  ·refine GO ?_
   rw [Int.tmod_eq_emod_of_nonneg (by omega)]
   refine GO ?_
   exact ⟨by rw [hl, if_pos (by omega)], k1.drew⟩
  ·refine GO ?_
   rw [Int.tmod_eq_emod_of_nonneg (by omega)]
   by_cases hm : ((n : Int) - lo) % 2 = 0
   ·refine GO ?_
    exact ⟨by rw [hl, if_pos hm], k1.drew⟩
   ·refine GO ?_
    exact ⟨by rw [hl, if_neg hm], k1.drew⟩
 ·have hl := zpT n fun m hm => znA k n hp hf m hm
  rw [decide_eq_false hf]
  refine GO ?_
  exact ⟨by rw [hl], k1.drew⟩
theorem znJ {B b bi p : Nat} {s : ByteArray} {l : List UInt8} {o : Obj} (h : Bld w B b l) (hi : w.heap[bi]? = some (.stringIter s p)) : Bld (setO w bi o) B b l := by
 have key : ∀ p', BuilderAtF 136 5 B b p' (Go.Lib.byteCells l) w → BuilderAtF 136 5 B b p' (Go.Lib.byteCells l) (setO w bi o) := by
  rintro p' ⟨hB, v, hb, hown, hne⟩
  have hbb : b ≠ bi := fun e => by subst e; rw [hi] at hb; cases hb
  refine ⟨hB, v, ?_, ?_, hne⟩
  ·rw [(zbO o).block b (zbT hb) (fun e => hbb e)]; exact hb
  ·refine hown.kept (row := some bi) ⟨rfl, rfl, rfl, by simp [setO], fun k hk hn => (zbO o).block k hk fun e => hn (congrArg some e)⟩ (Or.inr ?_)
   rcases hown.2 with ⟨rfl, _⟩ | ⟨g, cap, cur, fz, rfl, _, hg, _⟩
   ·simp [Value.ownBlock]
   ·intro e
    simp only [Value.ownBlock, Option.some.injEq] at e
    subst e
    rw [hi] at hg; cases hg
 rcases h with h | h
 ·exact .inl (key _ h)
 ·exact .inr (key _ h)
theorem zmf {b bi p : Nat} {s : ByteArray} {w' : World} (h : w.heap[bi]? = some (.stringIter s p)) (hk : OthersKept 5 (some b) w w') (hne : bi ≠ b) : w'.heap[bi]? = some (.stringIter s p) :=
 hk bi _ h (fun e => hne (by injection e)) fun c fz e => by cases e
theorem zeD {B b : Nat} {l : List UInt8} {w' : World} (h : Bld w B b l) (k : Kp w w' n_) : Bld w' B b l := by
 have key : ∀ p', BuilderAtF 136 5 B b p' (Go.Lib.byteCells l) w → BuilderAtF 136 5 B b p' (Go.Lib.byteCells l) w' := by
  rintro p' ⟨hB, v, hb, hown, hne⟩
  refine ⟨hB, v, (k.block b (zbT hb) id).trans hb, ?_, hne⟩
  refine hown.kept (row := none) ⟨k.os, k.tape, k.output, k.size, fun i hi _ => k.block i hi id⟩ ?_
  cases v.ownBlock <;> simp
 rcases h with h | h
 ·exact .inl (key _ h)
 ·exact .inr (key _ h)
theorem zir (s p : ByteArray) (w : World) : Calls Tryz.prog 170 #[.string s, .string p] w fun e w' => e = .returned (.bool (hasPrefix (L s) (L p))) ∧ w = w' :=
 (Any.strings_HasPrefix lays99 s p w).mono fun e w' ⟨h1, h2⟩ => ⟨h1, h2.symm⟩
theorem ziB (s : ByteArray) (i : Nat) (hi : i < s.size) (hc : (decodeL ((L s).drop i)).1 = 65533) : hasPrefix (L (s.extract i s.size)) [239, 191, 189] = !decide ((decodeL ((L s).drop i)).2 = 1) := by
 rw [L_from]
 have hne : (L s).drop i ≠ [] := by
  rw [← L_from]; exact L_ne (by simp; omega)
 unfold hasPrefix
 generalize (L s).drop i = l at *
 rcases bad_or l hne with h | ⟨c, hs, hd, ht⟩
 ·rw [h]
  cases hp : List.isPrefixOf [239, 191, 189] l
  ·rfl
  ·exfalso
   obtain ⟨t, e⟩ := List.isPrefixOf_iff_prefix.1 hp
   have he : enc 65533 = [239, 191, 189] := by decide
   have := zha l 65533 zjK (by rw [he, ← e]; rfl)
   rw [h] at this
   exact zoO _ this
 ·rw [hd] at hc ⊢
  simp only at hc
  subst hc
  have he : enc 65533 = [239, 191, 189] := by decide
  rw [he] at ht ⊢
  have : List.isPrefixOf [239, 191, 189] l = true := by
   rw [List.isPrefixOf_iff_prefix, ← ht]; exact List.take_prefix _ _
  rw [this]; rfl
theorem zdH (s : ByteArray) (hT : FoldTab w) (hs : s.size ≤ 100000000) : Calls Tryz.prog 131 #[.string s] w fun e w' => e = .returned (.string (str (foldL (L s)))) ∧ Kp w w' n_ := by
 have hl := L_len s
 refine zaa (args := [.string s]) Tryz.func131 rfl NL ?_; refine GW ?_
 have hb0 := ziy w w.heap.size (Nat.le_refl _)
 have K0 : Kp w (w.alloc (.cells #[.pointer none, .slice none 0 0] 136)) n_ := (Kp.refl _ _).alloc _
 have hz0 : (w.alloc (.cells #[.pointer none, .slice none 0 0] 136)).heap.size = w.heap.size + 1 := by simp
 generalize w.alloc (.cells #[.pointer none, .slice none 0 0] 136) = w0 at *
 refine RunV.rangeS Tryz.underlying9 ?_
 refine GW ?_
 rw [hz0]
 have hi0 : (w0.alloc (.stringIter s 0)).heap[w.heap.size + 1]? = some (.stringIter s 0) := by rw [← hz0]; exact heap_alloc_new _ _
 have hb1 : Bld (w0.alloc (.stringIter s 0)) w.heap.size w.heap.size [] := by
  rcases hb0 with h | h
  ·exact .inl (h.alloc _)
  ·exact .inr (h.alloc _)
 have K1 := K0.alloc (.stringIter s 0)
 generalize w0.alloc (.stringIter s 0) = w1 at *
 refine Loop.intro (ι := Nat × List UInt8) (fun i => [(0, .string s), (3, .pointer (some ⟨w.heap.size, 0, none⟩)), (7, .pointer (some ⟨w.heap.size + 1, 0, none⟩))])
  (fun i wr => Kp w wr n_ ∧ i.1 ≤ s.size ∧ Bld wr w.heap.size w.heap.size i.2 ∧ wr.heap[w.heap.size + 1]? = some (.stringIter s i.1) ∧ foldL (L s) = i.2 ++ foldL ((L s).drop i.1) ∧ i.2.length = i.1) (fun i => s.size - i.1) (0, []) ⟨rfl, rfl, rfl, trivial⟩
  ⟨K1, Nat.zero_le _, hb1, hi0, rfl, rfl⟩ ?_
 rintro ⟨n, d⟩ g wr ⟨hK, hn, hb, hi, he, hdl⟩
 dsimp only at hn hb hi he hdl ⊢
 refine GW ?_
 by_cases hlt : n < s.size
 ·refine RunV.nextS hi hlt ?_
  have hne : (L s).drop n ≠ [] := by rw [← L_from]; exact L_ne (by simp; omega)
  have hw := decodeL_width ((L s).drop n)
  have hle := decodeL_le _ hne
  have hru := decodeL_rune ((L s).drop n)
  rw [List.length_drop] at hle
  rw [zkq _ hne, List.drop_drop] at he
  have hh := zmh _ hne
  have hpre := ziB s n hlt
  have hb2 : Bld (setO wr (w.heap.size + 1) (.stringIter s (n + (decodeL ((L s).drop n)).2))) w.heap.size w.heap.size d := znJ hb hi
  have hi2 : (setO wr (w.heap.size + 1) (.stringIter s (n + (decodeL ((L s).drop n)).2))).heap[w.heap.size + 1]? = some (.stringIter s (n + (decodeL ((L s).drop n)).2)) := zeM _ (zbT hi)
  have K2 : Kp w (setO wr (w.heap.size + 1) (.stringIter s (n + (decodeL ((L s).drop n)).2))) n_ := hK.trans (zbO _) fun i hi h => by have h : i = w.heap.size + 1 := h; omega
  generalize setO wr (w.heap.size + 1) (.stringIter s (n + (decodeL ((L s).drop n)).2)) = w2 at *
  have hdr : (L s).drop n ≠ [] := hne
  have key : ∀ (x : List UInt8) (w' : World), x.length = (decodeL ((L s).drop n)).2 → head1 ((L s).drop n) = x → Bld w' w.heap.size w.heap.size (d ++ x) → Below w.heap.size w2 w' → OthersKept 5 (some w.heap.size) w2 w' →
    (Kp w w' n_ ∧ n + (decodeL ((L s).drop n)).2 ≤ s.size ∧ Bld w' w.heap.size w.heap.size (d ++ x) ∧ w'.heap[w.heap.size + 1]? = some (.stringIter s (n + (decodeL ((L s).drop n)).2)) ∧ foldL (L s) = (d ++ x) ++ foldL ((L s).drop (n + (decodeL ((L s).drop n)).2)) ∧ (d ++ x).length = n + (decodeL ((L s).drop n)).2) := by
   intro x w' hx hhx hbx hbe hok
   refine ⟨K2.below' hbe (Nat.le_refl _), by omega, hbx, zmf hi2 hok (by omega), by rw [he, hhx, List.append_assoc], by rw [List.length_append, hx, hdl]⟩
  by_cases hc : (decodeL ((L s).drop n)).1 = 65533
  ·have hpre := hpre hc
   refine GO ?_
   refine CallS.of (Tryz.call170 _ _) (zir (s.extract n s.size) ⟨#[239, 191, 189]⟩ w2) ?_
   rintro e w' ⟨rfl, rfl⟩
   rw [show hasPrefix (L (s.extract n s.size)) (L ⟨#[239, 191, 189]⟩) = !decide ((decodeL ((L s).drop n)).2 = 1) from hpre]
   by_cases hk : (decodeL ((L s).drop n)).2 = 1
   ·rw [decide_eq_true hk]
    refine RT ?_
    refine GO ?_
    obtain ⟨x, hx0, hx1, hx2, hx3⟩ := zlJ s n hlt
    have hx0 : byteAt s n = x := hx0
    rw [hx0]
    refine CallS.of (Tryz.call75 _ _) (zdl x w2 hb2 (by omega) K2.size) ?_
    rintro e w3 ⟨rfl, hb3, hbe, hok⟩
    refine RT ?_
    have := key [x] w3 (by rw [hk]; rfl) (by unfold head1; rw [if_pos ⟨hc, hk⟩, hx3]; rfl) hb3 hbe hok
    exact ⟨(n + (decodeL ((L s).drop n)).2, d ++ [x]), ⟨rfl, rfl, rfl, trivial⟩, this, by dsimp only; omega⟩
   ·rw [decide_eq_false hk]
    refine RT ?_
    refine GO ?_
    refine CallS.of (Tryz.call172 _ _) (zfS (decodeL ((L s).drop n)).1 hru (hT.keep K2)) ?_
    rintro e w3 ⟨rfl, k3⟩
    refine RT ?_
    have hb3 : Bld w3 w.heap.size w.heap.size d := zeD hb2 k3
    have hlo := zoH _ hru
    refine CallS.of (Tryz.call171 _ _) (zfA ((lowC (decodeL ((L s).drop n)).1 : Nat) : Int) (by omega) (by omega) w3 hb3 (by omega) (Nat.le_trans K2.size k3.size)) ?_
    rintro e w4 ⟨⟨q, rfl⟩, hb4, hbe, hok⟩
    refine RT ?_
    have hh1 : head1 ((L s).drop n) = enc (lowC (decodeL ((L s).drop n)).1) := by unfold head1; rw [if_neg (by omega)]
    have := key (enc (lowC (decodeL ((L s).drop n)).1)) w4 (by rw [← hh1]; exact hh) hh1 hb4 (k3.below.mono K2.size |>.trans hbe) (fun k o h1 h2 h3 => hok k o ((k3.block k (zbT h1) id).trans h1) h2 h3)
    exact ⟨(n + (decodeL ((L s).drop n)).2, d ++ enc (lowC (decodeL ((L s).drop n)).1)), ⟨rfl, rfl, rfl, trivial⟩, this, by dsimp only; omega⟩
  ·refine GO ?_
   refine CallS.of (Tryz.call172 _ _) (zfS (decodeL ((L s).drop n)).1 hru (hT.keep K2)) ?_
   rintro e w3 ⟨rfl, k3⟩
   refine RT ?_
   have hb3 : Bld w3 w.heap.size w.heap.size d := zeD hb2 k3
   have hlo := zoH _ hru
   refine CallS.of (Tryz.call171 _ _) (zfA ((lowC (decodeL ((L s).drop n)).1 : Nat) : Int) (by omega) (by omega) w3 hb3 (by omega) (Nat.le_trans K2.size k3.size)) ?_
   rintro e w4 ⟨⟨q, rfl⟩, hb4, hbe, hok⟩
   refine RT ?_
   have hh1 : head1 ((L s).drop n) = enc (lowC (decodeL ((L s).drop n)).1) := by unfold head1; rw [if_neg (by omega)]
   have := key (enc (lowC (decodeL ((L s).drop n)).1)) w4 (by rw [← hh1]; exact hh) hh1 hb4 (k3.below.mono K2.size |>.trans hbe) (fun k o h1 h2 h3 => hok k o ((k3.block k (zbT h1) id).trans h1) h2 h3)
   exact ⟨(n + (decodeL ((L s).drop n)).2, d ++ enc (lowC (decodeL ((L s).drop n)).1)), ⟨rfl, rfl, rfl, trivial⟩, this, by dsimp only; omega⟩
 ·refine RunV.nextE hi hlt ?_
  refine GO ?_
  have hn0 : (L s).drop n = [] := List.drop_eq_nil_of_le (by omega)
  rw [hn0, zmm, List.append_nil] at he
  refine CallS.of (Tryz.call76 _ _) (zeC wr hb hK.size) ?_
  rintro e w3 ⟨rfl, _, hbe, _⟩
  refine RT ?_
  exact ⟨zpO (by rw [he]), hK.below' hbe (Nat.le_refl _)⟩
end
section
end
section
end
section
end
theorem _root_.Go.Pw.Kp.ofGrown {w w' : World} {row : Option Nat} (h : w.grownBy w' row) : Kp w w' (fun k => row = some k) :=
 ⟨h.os, h.tape, h.output, h.size, fun k hk hn => h.block k hk fun e => hn e.symm⟩
abbrev Wd := List UInt8 × Nat × Nat
section
variable {w0 w : World} {bs bo bf : Nat} {s : ByteArray} {v : Value} {l : List Wd} {fr : Int}
def IterKept (w w' : World) : Prop := ∀ (bi : Nat) (t : ByteArray) (p : Nat), w.heap[bi]? = some (.stringIter t p) → w'.heap[bi]? = some (.stringIter t p)
theorem IterKept.trans {a b c : World} (h : IterKept a b) (k : IterKept b c) : IterKept a c := fun bi t p hi => k bi t p (h bi t p hi)
theorem IterKept.set {w : World} {b : Nat} {T : TypeId} {v : Value} (h : Var1 w b T v) (u : Value) : IterKept w (w.setCell ⟨b, 0, none⟩ u) := fun bi t p hi => by
 rw [RowKit.Below.heap_setCell _ _ _ _ (fun e => by have e : bi = b := e; subst e; unfold Var1 at h; rw [hi] at h; cases h)]
 exact hi
theorem IterKept.keep {w w' : World} (k : Kp w w' n_) : IterKept w w' := fun bi t p hi => (k.block bi (zbT hi) id).trans hi
end
section
end
def Rd (w : World) (v : Value) (n : Nat) (xs : List Value) : Prop := ∃ a cap, v = .slice a n cap ∧ (0 < n → ∃ g, a = some ⟨g, 0, none⟩ ∧ g < w.heap.size ∧ At w g 0 xs)
theorem Rd.keep {w w' : World} {v : Value} {n : Nat} {xs : List Value} (h : Rd w v n xs) (k : Kp w w' n_) : Rd w' v n xs := by
 obtain ⟨a, cap, rfl, h⟩ := h
 exact ⟨a, cap, rfl, fun h0 => let ⟨g, h1, h3, h4⟩ := h h0; ⟨g, h1, Nat.lt_of_lt_of_le h3 k.size, zds h4 k⟩⟩
def sv (s : List UInt8) : Value := .string (str s)
theorem zfW (a b : List UInt8) : (str a = str b) ↔ a = b := ⟨fun e => by have := congrArg L e; rwa [L_str, L_str] at this, fun e => by rw [e]⟩
section
end
section
end
section
end
end Go.Proofs.YtcplagfblmemhaaGreatDoor
namespace Go.Cs
set_option linter.unusedVariables false
set_option maxHeartbeats 1000000
open Go.Lib
set_option linter.unusedVariables false
end Go.Cs
namespace Go.Proofs.YtcplagfblmemhaaGreatDoor
set_option linter.unusedVariables false
set_option maxHeartbeats 1000000
open Go.RowKit Go.Pw Go.Vc Go.Cs Go.Lib
set_option linter.unusedVariables false
set_option maxRecDepth 100000
section
end
def Rns (w : World) (B : Nat) (v : Value) (l : List Nat) : Prop := w.ownsRow B 3 1 v l.length (l.map fun (c : Nat) => Value.int .i64 (c : Int))
theorem Rns.shape {w : World} {B : Nat} {v : Value} {l : List Nat} (h : Rns w B v l) : ∃ a cap, v = .slice a l.length cap := zac h
section
end
theorem Bytes.shape {w : World} {B : Nat} {v : Value} {l : List UInt8} (h : Bytes w B v l) : ∃ a cap, v = .slice a l.length cap := zac h
theorem Bytes.keep {w w' : World} {B : Nat} {v : Value} {l : List UInt8} (h : Bytes w B v l) (k : Kp w w' n_) : Bytes w' B v l := zab h k
theorem Rns.keep {w w' : World} {B : Nat} {v : Value} {l : List Nat} (h : Rns w B v l) (k : Kp w w' n_) : Rns w' B v l := zab h k
section
end
section
end
section
end
section
variable {w : World}
theorem znT (s : ByteArray) (hT : Tabs w) (hs : s.size ≤ 100000000) : Calls Tryz.prog 133 #[.string s] w fun e w' => e = .returned (.bool (validD (L s))) ∧ Kp w w' n_ := by
 refine zaa (args := [.string s]) Tryz.func133 rfl NL ?_; refine GW ?_
 refine CallS.of (Tryz.call173 _ _) (zpg s w hT (by omega)) ?_
 rintro e w1 ⟨rfl, k1⟩
 refine RT ?_
 exact ⟨rfl, k1⟩
end
section
end
section
end
end Go.Proofs.YtcplagfblmemhaaGreatDoor
namespace Go.Vc
set_option linter.unusedVariables false
set_option maxHeartbeats 1000000
open Go Go.Pw Go.RowKit
set_option linter.unusedVariables false
set_option linter.unusedSectionVars false
theorem zhh (a b : ByteArray) : (a == b) = decide (a = b) := by
 obtain ⟨a⟩ := a
 obtain ⟨b⟩ := b
 have e : ((ByteArray.mk a == ByteArray.mk b) : Bool) = (a == b) := rfl
 rw [e]
 by_cases h : a = b <;> simp [h]
abbrev GM (κ : Type) := List (κ × Value)
section
variable {κ : Type} [DecidableEq κ]
def GM.get : GM κ → κ → Option Value
 | [], _ => none
 | (s, v) :: r, k => if k = s then some v else GM.get r k
def GM.put : GM κ → κ → Value → GM κ
 | [], k, x => [(k, x)]
 | (s, v) :: r, k, x => if k = s then (s, x) :: r else (s, v) :: GM.put r k x
def GM.del : GM κ → κ → GM κ
 | [], _ => []
 | (s, v) :: r, k => if k = s then r else (s, v) :: GM.del r k
def GM.idx : GM κ → κ → Nat → Option (Nat × Value)
 | [], _, _ => none
 | (s, v) :: r, k, i => if k = s then some (i, v) else GM.idx r k (i + 1)
def entG (e : MapEntry) : Value × Value := (e.key, e.val)
def gmP (enc : κ → Value) (p : κ × Value) : Value × Value := (enc p.1, p.2)
structure KeyOk (P : Program) (kt : TypeId) (enc : κ → Value) : Prop where
 check : ∀ e k w, (Instr.checkKey e 10000 kt (enc k)).run P w = .ok () w
 find : ∀ w k (es : List MapEntry) (m : GM κ), es.map entG = m.map (gmP enc) → (Instr.findKey kt (enc k) es).run P w = .ok (m.idx k 0) w
 bits : ∀ k, Instr.sameBits 10000 (enc k) (enc k) = true
def GMap (enc : κ → Value) (w : World) (b : Nat) (m : GM κ) : Prop := ∃ es clock, w.heap[b]? = some (.map es clock) ∧ es.toList.map entG = m.map (gmP enc)
theorem GM.idx_get (k : κ) : ∀ (m : GM κ) (i : Nat), (m.idx k i).map (·.2) = m.get k
 | [], i => rfl
 | (s, v) :: r, i => by
  unfold GM.idx GM.get
  split
  ·rfl
  ·exact GM.idx_get k r (i + 1)
theorem GM.idx_none (k : κ) : ∀ (m : GM κ) (i : Nat), m.idx k i = none → m.get k = none ∧ (∀ x, m.put k x = m ++ [(k, x)]) ∧ m.del k = m
 | [], i, _ => ⟨rfl, fun _ => rfl, rfl⟩
 | (s, v) :: r, i, h => by
  unfold GM.idx at h
  split at h
  ·cases h
  ·rename_i hk
   obtain ⟨h1, h2, h3⟩ := GM.idx_none k r (i + 1) h
   exact ⟨by simp [GM.get, hk, h1], fun x => by simp [GM.put, hk, h2], by simp [GM.del, hk, h3]⟩
theorem GM.idx_some {enc : κ → Value} (k : κ) : ∀ (es : List MapEntry) (m : GM κ) (i j : Nat) (v : Value), es.map entG = m.map (gmP enc) → m.idx k i = some (j, v) →
  ∃ d, j = i + d ∧ d < es.length ∧ m.get k = some v ∧ (es[d]?).map (·.key) = some (enc k) ∧ (∀ x, (es.modify d fun e => { e with key := enc k, val := x }).map entG = (m.put k x).map (gmP enc)) ∧ (es.eraseIdx d).map entG = (m.del k).map (gmP enc)
 | [], m, i, j, v, h, hi => by
  have : m = [] := by cases m with | nil => rfl | cons a r => simp at h
  subst this; simp [GM.idx] at hi
 | e :: es, [], i, j, v, h, hi => by simp at h
 | e :: es, (s, x0) :: r, i, j, v, h, hi => by
  simp only [List.map_cons, List.cons.injEq] at h
  obtain ⟨h1, h2⟩ := h
  simp only [entG, gmP, Prod.mk.injEq] at h1
  obtain ⟨h3, h4⟩ := h1
  unfold GM.idx at hi
  split at hi
  ·rename_i hk
   subst hk
   simp only [Option.some.injEq, Prod.mk.injEq] at hi
   obtain ⟨rfl, rfl⟩ := hi
   refine ⟨0, by simp, by simp, by simp [GM.get], by simp [h3], fun x => ?_, ?_⟩
   ·simp only [List.modify_zero_cons, List.map_cons, GM.put, if_pos, h2]
    simp [entG, gmP]
   ·simp [GM.del, h2]
  ·rename_i hk
   obtain ⟨d, q1, q2, q3, q4, q5, q6⟩ := GM.idx_some k es r (i + 1) j v h2 hi
   refine ⟨d + 1, by omega, Nat.succ_lt_succ q2, by simp [GM.get, hk, q3], by simpa using q4, fun x => ?_, ?_⟩
   ·simp only [List.modify_succ_cons, List.map_cons, GM.put, if_neg hk, q5 x]
    simp [entG, gmP, h3, h4]
   ·simp only [List.eraseIdx_cons_succ, List.map_cons, GM.del, if_neg hk, q6]
    simp [entG, gmP, h3, h4]
theorem GM.get_put (k k' : κ) (x : Value) : ∀ (m : GM κ), (m.put k x).get k' = if k' = k then some x else m.get k'
 | [] => by simp [GM.put, GM.get]
 | (s, v) :: r => by
  unfold GM.put
  by_cases h : k = s
  ·subst h
   rw [if_pos rfl]
   simp only [GM.get]
   split <;> rfl
  ·rw [if_neg h]
   simp only [GM.get]
   by_cases h2 : k' = s
   ·rw [if_pos h2, if_pos h2, if_neg (fun e => h (by rw [← e, h2]))]
   ·rw [if_neg h2, if_neg h2, GM.get_put k k' x r]
variable {enc : κ → Value} {P : Program} {w : World} {b : Nat} {m : GM κ} {t kt et : TypeId} {K : Value → World → Prop}
theorem GMap.lt (h : GMap enc w b m) : b < w.heap.size := by
 obtain ⟨es, cl, hb, he⟩ := h
 rcases Nat.lt_or_ge b w.heap.size with h' | h'
 ·exact h'
 ·rw [Array.getElem?_eq_none h'] at hb; cases hb
theorem GMap.keep {w' : World} {c : Nat → Prop} (h : GMap enc w b m) (k : Kp w w' c) (hc : ¬ c b) : GMap enc w' b m := by
 have hlt := h.lt
 obtain ⟨es, cl, hb, he⟩ := h
 exact ⟨es, cl, (k.block b hlt hc).trans hb, he⟩
theorem GMap.new (w : World) : GMap enc (w.alloc (.map #[] 0)) w.heap.size ([] : GM κ) := ⟨#[], 0, heap_alloc_new w _, rfl⟩
theorem RunV.makeMap {r : Option Value} (hr : r = none) (k : K (.map (some w.heap.size)) (w.alloc (.map #[] 0))) : RunV P (Instr.makeMap t r) w K := by
 subst hr
 exact RunV.of (by simp [Instr.makeMap]) k
theorem RunV.lookG (ok : KeyOk P kt enc) (ht : P.underlying t = some (.map kt et)) {z : Value} (hz : (zeroValue et).run P w = .ok z w) (h : GMap enc w b m) (s : κ) {e : Value} (he : e = enc s) (k : K ((m.get s).getD z) w) :
  RunV P (Instr.lookup t (.map (some b)) e false) w K := by
 subst he
 obtain ⟨es, clock, hb, he⟩ := h
 refine ⟨_, w, ?_, k⟩
 have h1 := GM.idx_get s m 0
 cases hi : m.idx s 0 with
 | none =>
  rw [hi] at h1
  simp [Instr.lookup, zaA ht, getObj, Sem.run, hb, ok.check, ok.find w s es.toList m he, hi, hz, ← h1]
 | some jv =>
  obtain ⟨j, v⟩ := jv
  rw [hi] at h1
  simp [Instr.lookup, zaA ht, getObj, Sem.run, hb, ok.check, ok.find w s es.toList m he, hi, ← h1]
theorem RunV.lookG2 (ok : KeyOk P kt enc) (ht : P.underlying t = some (.map kt et)) {z : Value} (hz : (zeroValue et).run P w = .ok z w) (h : GMap enc w b m) (s : κ) {e : Value} (he : e = enc s) (k : K (.tuple #[(m.get s).getD z, .bool (m.get s).isSome]) w) :
  RunV P (Instr.lookup t (.map (some b)) e true) w K := by
 subst he
 obtain ⟨es, clock, hb, he⟩ := h
 refine ⟨_, w, ?_, k⟩
 have h1 := GM.idx_get s m 0
 cases hi : m.idx s 0 with
 | none =>
  rw [hi] at h1
  simp [Instr.lookup, zaA ht, getObj, Sem.run, hb, ok.check, ok.find w s es.toList m he, hi, hz, ← h1]
 | some jv =>
  obtain ⟨j, v⟩ := jv
  rw [hi] at h1
  simp [Instr.lookup, zaA ht, getObj, Sem.run, hb, ok.check, ok.find w s es.toList m he, hi, ← h1]
def setOG (w : World) (b : Nat) (o : Obj) : World := { w with heap := w.heap.set! b o }
theorem zcm (o : Obj) (hb : b < w.heap.size) : (setOG w b o).heap[b]? = some o := by
 simp [setOG, hb]
theorem zbU (o : Obj) : Kp w (setOG w b o) (one_ b) :=
 ⟨rfl, rfl, rfl, by simp [setOG], fun k hk hn => by
  have : b ≠ k := fun e => hn e.symm
  simp [setOG, this]⟩
theorem RunU.updG {K : World → Prop} (ok : KeyOk P kt enc) (ht : P.underlying t = some (.map kt et)) (h : GMap enc w b m) (s : κ) {e : Value} (he : e = enc s) (x : Value) (k : ∀ w', GMap enc w' b (m.put s x) → Kp w w' (one_ b) → K w') :
  RunU P (Instr.mapUpdate t (.map (some b)) e x) w K := by
 subst he
 have hlt := h.lt
 obtain ⟨es, clock, hb, he⟩ := h
 have hf := ok.find w s es.toList m he
 cases hi : m.idx s 0 with
 | none =>
  rw [hi] at hf
  obtain ⟨a1, a2, a3⟩ := GM.idx_none s m 0 hi
  refine ⟨setOG w b (.map (es.push { key := enc s, val := x, born := clock }) (clock + 1)), ?_, k _ ⟨_, _, zcm _ hlt, ?_⟩ (zbU _)⟩
  ·simp [Instr.mapUpdate, zaA ht, getObj, setObj, Sem.run, hb, ok.check, hf, setOG]
  ·simp [a2, he, entG, gmP]
 | some jv =>
  obtain ⟨j, v⟩ := jv
  rw [hi] at hf
  obtain ⟨d, q1, q2, q3, q4, q5, q6⟩ := GM.idx_some s es.toList m 0 j v he hi
  obtain rfl : j = d := by omega
  have e2 : ((es[j]?).map (·.key)).getD (enc s) = enc s := by
   rw [← Array.getElem?_toList, q4]; rfl
  refine ⟨setOG w b (.map (es.modify j fun e => { e with key := enc s, val := x }) clock), ?_, k _ ⟨_, _, zcm _ hlt, ?_⟩ (zbU _)⟩
  ·simp [Instr.mapUpdate, zaA ht, getObj, setObj, Sem.run, hb, ok.check, hf, setOG, e2, Instr.keyThatStays, ok.bits]
  ·rw [Array.toList_modify]; exact q5 x
theorem RunN.lenG {ty : TypeId} {cs : Array Bool} (ht : P.underlying t = some (.map kt et)) (h : GMap enc w b m) (k : K (.int .i64 (m.length : Nat)) w) : RunN P (builtin .len #[t] ty cs [.map (some b)].toArray) w K := by
 obtain ⟨es, clock, hb, he⟩ := h
 have hl : es.size = m.length := by
  have := congrArg List.length he
  simpa using this
 refine ⟨_, w, ?_, k⟩
 simp [builtin, Builtin.len_, zaA ht, getObj, Sem.run, hb, goInt, hl]
end
section
variable {P : Program} {kt : TypeId}
theorem zhc {κ : Type} [DecidableEq κ] {enc : κ → Value} {u : TypeDesc} (hu : P.underlying kt = some u) (hs : ∀ a b, Instr.sameNow u (enc a) (enc b) = some (decide (a = b))) (w : World) (k : κ) (es : List MapEntry) (m : GM κ) (h : es.map entG = m.map (gmP enc)) :
  (Instr.findKey kt (enc k) es).run P w = .ok (m.idx k 0) w := by
 have key : ∀ (es : List MapEntry) (m : GM κ) (i : Nat), es.map entG = m.map (gmP enc) → Instr.findNow u (enc k) es i = some (m.idx k i) := by
  intro es
  induction es with
  | nil =>
   intro m i h
   have : m = [] := by cases m with | nil => rfl | cons a r => simp at h
   subst this; rfl
  | cons e es ih =>
   intro m i h
   cases m with
   | nil => simp at h
   | cons p r =>
    obtain ⟨s, v⟩ := p
    simp only [List.map_cons, List.cons.injEq] at h
    obtain ⟨h1, h2⟩ := h
    simp only [entG, gmP, Prod.mk.injEq] at h1
    obtain ⟨h3, h4⟩ := h1
    unfold Instr.findNow GM.idx
    rw [h3, hs]
    by_cases hk : k = s
    ·simp [hk, h4]
    ·simp [hk, ih r (i + 1) h2]
 unfold Instr.findKey
 simp [zaA hu, key es m 0 h]
theorem zmc (hk : P.underlying kt = some (.int .i64)) : KeyOk P kt (Value.int .i64) where
 check e k w := by
  show (Instr.checkKey e (9999 + 1) kt _).run P w = _
  unfold Instr.checkKey
  simp [zaA hk]
 find := zhc hk fun a b => by by_cases h : a = b <;> simp [Instr.sameNow, h]
 bits k := by simp [Instr.sameBits]
theorem zib (hk : P.underlying kt = some .string) : KeyOk P kt Value.string where
 check e k w := by
  show (Instr.checkKey e (9999 + 1) kt _).run P w = _
  unfold Instr.checkKey
  simp [zaA hk]
 find := zhc hk fun a b => by simp [Instr.sameNow, zhh]
 bits k := by simp [Instr.sameBits, zhh]
theorem zhV {κ : Type} [DecidableEq κ] {enc : κ → Value} {u : TypeDesc} (hu : P.underlying kt = some u) (hn : ∀ a b, Instr.sameNow u (enc a) (enc b) = none) (heq : ∀ w a b, (Op.equal kt (enc a) (enc b)).run P w = .ok (decide (a = b)) w)
  (hc : ∀ e k w, (Instr.checkKey e 10000 kt (enc k)).run P w = .ok () w) (hb : ∀ k, Instr.sameBits 10000 (enc k) (enc k) = true) : KeyOk P kt enc where
 check := hc
 bits := hb
 find w k es m h := by
  have ask : ∀ (es : List MapEntry) (m : GM κ) (i : Nat), es.map entG = m.map (gmP enc) → (Instr.findAsking kt (enc k) es i).run P w = .ok (m.idx k i) w := by
   intro es
   induction es with
   | nil =>
    intro m i h
    have : m = [] := by cases m with | nil => rfl | cons a r => simp at h
    subst this; rfl
   | cons e es ih =>
    intro m i h
    cases m with
    | nil => simp at h
    | cons p r =>
     obtain ⟨s, v⟩ := p
     simp only [List.map_cons, List.cons.injEq] at h
     obtain ⟨h1, h2⟩ := h
     simp only [entG, gmP, Prod.mk.injEq] at h1
     obtain ⟨h3, h4⟩ := h1
     unfold Instr.findAsking GM.idx
     rw [h3]
     by_cases hk : k = s
     ·simp [heq, hk, h4]
     ·simp [heq, hk, ih r (i + 1) h2]
  unfold Instr.findKey
  cases es with
  | nil =>
   have : m = [] := by cases m with | nil => rfl | cons a r => simp at h
   subst this
   simp [zaA hu, Instr.findNow, GM.idx]
  | cons e es =>
   cases m with
   | nil => simp at h
   | cons p r =>
    have h1 := h
    simp only [List.map_cons, List.cons.injEq] at h1
    have h3 : e.key = enc p.1 := by have := h1.1; simp only [entG, gmP, Prod.mk.injEq] at this; exact this.1
    have : Instr.findNow u (enc k) (e :: es) 0 = none := by unfold Instr.findNow; rw [h3, hn]
    simp [zaA hu, this, ask (e :: es) (p :: r) 0 h]
end
end Go.Vc
