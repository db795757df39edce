/- Helper text of this claim: Ag0, Ag2, Ag1, Shf2, WsB, Cw1, MapK, IterK, Cw3, Cw2, Cr1, Cr2, Cw4, Cw5, Cw6, Cw7, Cr3, Cr4, Cr5, Ct11, Ch2, Ch3, Ch4, Cw8, Cw9, Ch5, Ch6, Cw14, Cr6, MapG, Bw1, Bx8, Bw2, Bw3, Bw4, Bw5, Bw6, Bw7, Bw8, Bw9, Bw10, Bx9, Bw11, Bw12, Aa0, Aa1, Aa2, Aa3, Aa4, Aa5, Aa6, Ag5: lemmas and contracts that the proved statement rests on; no conditions of its own. -/
import Derived.Test.YtcplagfblmemhaaGCs0
import Derived.Test.YtcplagfblmemhaaGOpn
import Derived.Shelf.Small.Strs
import Derived.Shelf.Sort.Plain
import Derived.Shelf.Slices.CompactI
import Derived.Shelf.Slices.CompactS
import Derived.Shelf.Slices.In.SortNone
import Derived.Laws.RangeString
import Derived.Test.YtcplagfblmemhaaKit6
import Derived.Laws.StructEq
import Derived.Maps.AppendAt
import Derived.Lib.AppendStr
import Derived.Lib.IndexAny
-- alias Try
namespace Go.Proofs.Ytcplagfblmemhaa
set_option linter.unusedVariables false
open Go.RowKit Go.Pw Go.Vc Go.Cs Go.Lib
set_option linter.unusedVariables false
set_option maxRecDepth 100000
/-- The header of a slice. -/
structure Sl where
  a : Option Addr
  n : Nat
  c : Nat
abbrev Sl.v (s : Sl) : Value := .slice s.a s.n s.c
/-- A message in memory. -/
structure Mr where
  m : Ml
  b : Sl
  f : Sl
instance : Inhabited Mr := ⟨⟨⟨0, ⟨0, 0, 0, 0, 0, 0, 0, 0, 0, 0, 0, 0, 0, 0, 0, 0, 0, 0, 0, 0, 0, 0, 0, 0, 0, 0, 0, 0, 0, 0, 0, 0⟩, [], [], 0, 0, 0⟩, ⟨none, 0, 0⟩, ⟨none, 0, 0⟩⟩⟩
def dgC (d : Dg) : List Value := [.int .u8 d.d0, .int .u8 d.d1, .int .u8 d.d2, .int .u8 d.d3, .int .u8 d.d4, .int .u8 d.d5, .int .u8 d.d6, .int .u8 d.d7, .int .u8 d.d8, .int .u8 d.d9, .int .u8 d.d10, .int .u8 d.d11, .int .u8 d.d12, .int .u8 d.d13, .int .u8 d.d14, .int .u8 d.d15, .int .u8 d.d16, .int .u8 d.d17, .int .u8 d.d18, .int .u8 d.d19, .int .u8 d.d20, .int .u8 d.d21, .int .u8 d.d22, .int .u8 d.d23, .int .u8 d.d24, .int .u8 d.d25, .int .u8 d.d26, .int .u8 d.d27, .int .u8 d.d28, .int .u8 d.d29, .int .u8 d.d30, .int .u8 d.d31]
def mrC (x : Mr) : List Value := .int .i64 x.m.id :: (dgC x.m.blob ++ [.slice x.b.a x.b.n x.b.c, .slice x.f.a x.f.n x.f.c, .int .i64 x.m.at_, .int .i64 x.m.size, .int .i64 x.m.mod])
def srcC (s : Sc) : List Value := [.string (str s.name), .string (str s.text)]
def snC (s : Sn) : List Value := [.string (str s.key), .int .i64 s.at_]
abbrev inC (z : Int) : List Value := [.int .i64 z]
abbrev txC (s : List UInt8) : List Value := [.string (str s)]
abbrev RowI (w : World) (v : Value) (l : List Int) : Prop := RowO w v inC l
abbrev RowT (w : World) (v : Value) (l : List (List UInt8)) : Prop := RowO w v txC l
abbrev RowS (w : World) (v : Value) (l : List Sc) : Prop := RowO w v srcC l
abbrev RowN (w : World) (v : Value) (l : List Sn) : Prop := RowO w v snC l
abbrev RowMr (w : World) (v : Value) (l : List Mr) : Prop := RowO w v mrC l
/-- A row of one's own. -/
abbrev OwnI (w : World) (B : Nat) (v : Value) (l : List Int) : Prop := w.ownsRow B 3 1 v l.length (l.flatMap inC)
abbrev OwnT (w : World) (B : Nat) (v : Value) (l : List (List UInt8)) : Prop := w.ownsRow B 9 1 v l.length (l.flatMap txC)
/-- Only the row's own block may have turned. -/
abbrev own_ (v : Value) : Nat → Prop := fun k => v.ownBlock = some k
theorem textInfo : (Try.prog.info? 9).map (fun i => (i.zero, i.size, i.bytes)) = some (some (.string ⟨#[]⟩), 1, 16) := by kernel_rfl
theorem RowO.len {α : Type} {w : World} {a : Option Addr} {n c : Nat} {f : α → List Value} {l : List α} (h : RowO w (.slice a n c) f l) : n = l.length := by
  obtain ⟨_, _, e, _⟩ := h
  injection e
theorem at_one {α : Type} {w : World} {g o i : Nat} {l : List α} (f : α → Value) (h : At w g o (l.flatMap fun x => [f x])) (hi : i < l.length) : w.cell? ⟨g, o + i, none⟩ = some (f l[i]) := h i _ (by rw [flat1, List.getElem?_map, List.getElem?_eq_getElem hi]; rfl)
theorem at_int {w : World} {g o i : Nat} {l : List Int} (h : At w g o (l.flatMap inC)) (hi : i < l.length) : w.cell? ⟨g, o + i, none⟩ = some (.int .i64 l[i]) := at_one (Value.int .i64) h hi
theorem at_txt {w : World} {g o i : Nat} {l : List (List UInt8)} (h : At w g o (l.flatMap txC)) (hi : i < l.length) : w.cell? ⟨g, o + i, none⟩ = some (.string (str l[i])) := at_one (fun s => Value.string (str s)) h hi
/-- Where p holds first, or -1. -/
def idxP {α : Type} (p : α → Bool) (l : List α) : Int := match l.findIdx? p with | some i => (i : Nat) | none => -1
theorem idxP_some {α : Type} {p : α → Bool} {l : List α} {i : Nat} (h : i < l.length) (hp : p l[i] = true) (hn : ∀ j (h : j < l.length), j < i → p l[j] = false) : idxP p l = (i : Nat) := by
  unfold idxP
  rw [List.findIdx?_eq_some_iff_getElem.2 ⟨h, hp, fun j hj => by rw [hn j (by omega) hj]; simp⟩]
theorem idxP_none {α : Type} {p : α → Bool} {l : List α} (hn : ∀ j (h : j < l.length), p l[j] = false) : idxP p l = -1 := by
  unfold idxP
  rw [List.findIdx?_eq_none_iff.2 fun x hx => by obtain ⟨i, hi, rfl⟩ := List.getElem_of_mem hx; exact hn i hi]
theorem idxP_any {α : Type} (p : α → Bool) (l : List α) : (0 ≤ idxP p l) ↔ l.any p = true := by
  unfold idxP
  cases h : l.findIdx? p with
  | none =>
    rw [List.findIdx?_eq_none_iff] at h
    simp only [List.any_eq_true]
    exact ⟨fun h => by omega, fun ⟨x, hx, hp⟩ => by rw [h x hx] at hp; cases hp⟩
  | some i =>
    obtain ⟨h1, h2, _⟩ := List.findIdx?_eq_some_iff_getElem.1 h
    exact ⟨fun _ => List.any_eq_true.2 ⟨_, List.getElem_mem h1, h2⟩, fun _ => by simp⟩
theorem infoI : (Try.prog.info? 3).map (fun i => (i.zero, i.size, i.bytes)) = some (some (.int .i64 0), 1, 8) := by kernel_rfl
theorem lenI (x : Int) : (inC x).length = 1 := rfl
theorem lenT (x : (List UInt8)) : (txC x).length = 1 := rfl
end Go.Proofs.Ytcplagfblmemhaa

-- alias Try
namespace Go.Proofs.Ytcplagfblmemhaa
set_option linter.unusedVariables false
open Go.RowKit Go.Pw Go.Vc Go.Cs Go.Lib
set_option linter.unusedVariables false
set_option maxRecDepth 100000
end Go.Proofs.Ytcplagfblmemhaa

-- alias Try
namespace Go.Proofs.Ytcplagfblmemhaa
set_option linter.unusedVariables false
open Go.RowKit Go.Pw Go.Vc Go.Cs Go.Lib
set_option linter.unusedVariables false
set_option maxRecDepth 100000
end Go.Proofs.Ytcplagfblmemhaa

-- alias Try
namespace Go.Proofs.Ytcplagfblmemhaa
set_option linter.unusedVariables false
open Go.Shelf Go.RowKit Go.Pw Go.Vc Go.Cs Go.Lib Go.Sort
set_option linter.unusedVariables false
set_option maxRecDepth 100000
def ren189 : Go.Shelf.Ren := ⟨fun | 125 => 58 | 128 => 71 | 129 => 72 | 189 => 43 | 215 => 80 | 216 => 68 | 257 => 57 | 294 => 62 | 295 => 63 | 296 => 64 | 297 => 65 | 298 => 66 | 299 => 67 | 300 => 69 | 301 => 70 | 328 => 75 | 329 => 76 | 330 => 77 | 331 => 78 | 332 => 79 | 343 => 81 | n => n, fun | 0 => 0 | 3 => 3 | 4 => 4 | 5 => 5 | 9 => 9 | 28 => 38 | 46 => 103 | 51 => 115 | 53 => 117 | 131 => 112 | 182 => 106 | 183 => 107 | 218 => 121 | 222 => 125 | 228 => 127 | 229 => 128 | n => n, fun | n => n⟩
theorem lays189 : Go.Proofs.Lays.n189 Try.prog ren189 := {
  mixed := by kernel_rfl
  f125 := Try.func58.trans (congrArg some (by kernel_rfl))
  f128 := Try.func71.trans (congrArg some (by kernel_rfl))
  f129 := Try.func72.trans (congrArg some (by kernel_rfl))
  f189 := Try.func43.trans (congrArg some (by kernel_rfl))
  f215 := Try.func80.trans (congrArg some (by kernel_rfl))
  f216 := Try.func68.trans (congrArg some (by kernel_rfl))
  f257 := Try.func57.trans (congrArg some (by kernel_rfl))
  f294 := Try.func62.trans (congrArg some (by kernel_rfl))
  f295 := Try.func63.trans (congrArg some (by kernel_rfl))
  f296 := Try.func64.trans (congrArg some (by kernel_rfl))
  f297 := Try.func65.trans (congrArg some (by kernel_rfl))
  f298 := Try.func66.trans (congrArg some (by kernel_rfl))
  f299 := Try.func67.trans (congrArg some (by kernel_rfl))
  f300 := Try.func69.trans (congrArg some (by kernel_rfl))
  f301 := Try.func70.trans (congrArg some (by kernel_rfl))
  f328 := Try.func75.trans (congrArg some (by kernel_rfl))
  f329 := Try.func76.trans (congrArg some (by kernel_rfl))
  f330 := Try.func77.trans (congrArg some (by kernel_rfl))
  f331 := Try.func78.trans (congrArg some (by kernel_rfl))
  f332 := Try.func79.trans (congrArg some (by kernel_rfl))
  f343 := Try.func81.trans (congrArg some (by kernel_rfl))
  t0 := Try.underlying0
  a0 := Try.isAgg0
  z0 := Try.sizeOf0
  v0 := Try.zeroValue0
  t3 := Try.underlying3
  a3 := Try.isAgg3
  z3 := Try.sizeOf3
  v3 := Try.zeroValue3
  t4 := Try.underlying4
  a4 := Try.isAgg4
  z4 := Try.sizeOf4
  v4 := Try.zeroValue4
  t5 := Try.underlying5
  a5 := Try.isAgg5
  z5 := Try.sizeOf5
  v5 := Try.zeroValue5
  t9 := Try.underlying9
  a9 := Try.isAgg9
  z9 := Try.sizeOf9
  v9 := Try.zeroValue9
  t28 := Try.underlying38
  a28 := Try.isAgg38
  z28 := Try.sizeOf38
  v28 := Try.zeroValue38
  t46 := Try.underlying103
  a46 := Try.isAgg103
  z46 := Try.sizeOf103
  v46 := Try.zeroValue103
  t51 := Try.underlying115
  a51 := Try.isAgg115
  z51 := Try.sizeOf115
  v51 := Try.zeroValue115
  t53 := Try.underlying117
  a53 := Try.isAgg117
  z53 := Try.sizeOf117
  v53 := Try.zeroValue117
  t131 := Try.underlying112
  a131 := Try.isAgg112
  z131 := Try.sizeOf112
  v131 := Try.zeroValue112
  t182 := Try.underlying106
  a182 := Try.isAgg106
  z182 := Try.sizeOf106
  v182 := Try.zeroValue106
  t183 := Try.underlying107
  a183 := Try.isAgg107
  z183 := Try.sizeOf107
  v183 := Try.zeroValue107
  t218 := Try.underlying121
  a218 := Try.isAgg121
  z218 := Try.sizeOf121
  v218 := Try.zeroValue121
  t222 := Try.underlying125
  a222 := Try.isAgg125
  z222 := Try.sizeOf125
  v222 := Try.zeroValue125
  t228 := Try.underlying127
  a228 := Try.isAgg127
  z228 := Try.sizeOf127
  v228 := Try.zeroValue127
  t229 := Try.underlying128
  a229 := Try.isAgg128
  z229 := Try.sizeOf128
  v229 := Try.zeroValue128 }
section
variable {w : World} {B g cap : Nat}
/-- slices.Sort on a row of the call's own. -/
theorem srt_I {v : Value} (l : List Int) (ho : OwnI w B v l) (hl : l.length ≤ 17592186044416) : Calls Try.prog 43 #[v] w fun e w' => e = .returned (.tuple #[]) ∧ OwnI w' B v (l.mergeSort fun x y => decide (x ≤ y)) ∧ Keeps w w' (own_ v) := by
  rcases own_blockK ho with ⟨rfl, h0⟩ | ⟨g, cap, cells, rfl, hBg, hv, hnc, hcm, hcl, htk⟩
  · obtain rfl : l = [] := List.eq_nil_of_length_eq_zero h0
    exact (Any.slices_Sort_int_none lays189 none 0 w).mono fun e w' h => ⟨h.1, by rw [h.2, List.mergeSort_nil]; exact ho, by rw [h.2]; exact Keeps.refl _ _⟩
  · have htk : cells.take l.length = l.map (Value.int .i64) := by rw [← flat1]; rw [Nat.mul_one] at htk; exact htk
    refine (Any.slices_Sort_int lays189 g 0 cap l w (holds_own hv htk) hv.lt (by omega)).mono ?_
    rintro e w' ⟨rfl, n, os, rfl⟩
    refine ⟨rfl, ?_, (keeps_put _).mono fun q _ hq => by have hq : q = g := hq; rw [hq]; rfl⟩
    have := own_put (enc := (Value.int .i64)) (q := n) (os := os) ho (l.mergeSort fun x y => decide (x ≤ y)) (List.length_mergeSort _) (Nat.le_refl _)
    rw [← flat1, List.take_of_length_le (by rw [List.length_mergeSort]; exact Nat.le_refl _)] at this
    unfold OwnI
    rw [List.length_mergeSort]
    exact this
end
end Go.Proofs.Ytcplagfblmemhaa

set_option linter.unusedVariables false
namespace Go.Vc
set_option linter.unusedVariables false
open Go Go.Pw Go.RowKit
/-- Bytes in cells from the block's head on, not frozen. -/
def Bs (w : World) (b : Nat) (l : List UInt8) : Prop := At w b 0 (Lib.byteCells l) ∧ ∀ j, j < l.length → w.frozen? ⟨b, 0 + j, none⟩ = false
theorem Bs.store {w : World} {b i : Nat} {l : List UInt8} (h : Bs w b l) (hi : i < l.length) (x : UInt8) : (∃ u, w.cell? ⟨b, 0 + i, none⟩ = some u) ∧ w.frozen? ⟨b, 0 + i, none⟩ = false ∧ Bs (w.setCell ⟨b, 0 + i, none⟩ (.int .u8 (x.toNat : Int))) b (l.set i x) := by
  have hc : w.cell? ⟨b, 0 + i, none⟩ = some (.int .u8 (l[i].toNat : Int)) := h.1 i _ (by simp [Lib.byteCells, hi])
  refine ⟨⟨_, hc⟩, h.2 i hi, fun j v hj => ?_, fun j hj => ?_⟩
  · by_cases e : i = j
    · subst e
      simp [Lib.byteCells, hi] at hj
      rw [cell_set_eq hc, hj]
    · have : (⟨b, 0 + i, none⟩ : Addr) ≠ ⟨b, 0 + j, none⟩ := fun e' => by injection e'; omega
      rw [World.cell?_setCell_other (h := this)]
      refine h.1 j v ?_
      simpa [Lib.byteCells, List.getElem?_set_ne e] using hj
  · rw [World.frozen?_setCell]
    rw [List.length_set] at hj
    exact h.2 j hj
theorem Bs.cell {w : World} {b i : Nat} {l : List UInt8} (h : Bs w b l) (hi : i < l.length) : w.cell? ⟨b, 0 + i, none⟩ = some (.int .u8 (((l.getD i 0).toNat : Nat) : Int)) := h.1 i _ (by simp [Lib.byteCells, hi, List.getD])
theorem Bs.keep {w w' : World} {b : Nat} {l : List UInt8} {c : Nat → Prop} (h : Bs w b l) (k : Keeps w w' c) (hb : b < w.heap.size) (hc : ¬ c b) : Bs w' b l :=
  ⟨fun i v hi => by rw [k.cell (p := ⟨b, 0 + i, none⟩) hb hc]; exact h.1 i v hi, fun j hj => by rw [k.frozen (p := ⟨b, 0 + j, none⟩) hb hc]; exact h.2 j hj⟩
theorem RunV.back {P : Program} {w : World} {src dst e : TypeId} {b cap : Nat} {l : List UInt8} {K : Value → World → Prop} (hs : P.underlying src = some (.slice e)) (he : P.underlying e = some (.int .u8)) (hd : P.underlying dst = some .string)
    (h : Bs w b l) (k : K (.string ⟨l.toArray⟩) w) : RunV P (convert src dst (.slice (some ⟨b, 0, none⟩) l.length cap)) w K :=
  ⟨_, _, run_convert_bytes_back w src dst e ⟨b, 0, none⟩ cap l hs he hd (fun j hj => by rw [add_none]; exact h.1 j _ (by simp [Lib.byteCells, hj])), k⟩
end Go.Vc
namespace Go.Vc
set_option linter.unusedVariables false
open Go
end Go.Vc

-- alias Try
namespace Go.Proofs.Ytcplagfblmemhaa
set_option linter.unusedVariables false
open Go.RowKit Go.Pw Go.Vc Go.Cs Go.Lib
set_option linter.unusedVariables false
set_option maxRecDepth 100000
theorem at_keep {w w' : World} {b o : Nat} {vs : List Value} (h : At w b o vs) (k : Keeps w w' none_) : At w' b o vs := fun i v hi => by
  have := h i v hi
  rw [k.cell (cell_lt this) id]; exact this
section
end
end Go.Proofs.Ytcplagfblmemhaa

/-! Maps from strings: a list of pairs. -/
namespace Go.Vc
set_option linter.unusedVariables false
open Go Go.Pw Go.RowKit
set_option linter.unusedVariables false
theorem ba_beq (a b : ByteArray) : (a == b) = decide (a = b) := by
  obtain ⟨a⟩ := a
  obtain ⟨b⟩ := b
  have e : ((ByteArray.mk a == ByteArray.mk b) : Bool) = (a == b) := rfl
  rw [e]
  by_cases h : a = b <;> simp [h]
abbrev SM := List (ByteArray × Value)
def SM.get : SM → ByteArray → Option Value
  | [], _ => none
  | (s, v) :: r, k => if k = s then some v else SM.get r k
def SM.put : SM → ByteArray → Value → SM
  | [], k, x => [(k, x)]
  | (s, v) :: r, k, x => if k = s then (s, x) :: r else (s, v) :: SM.put r k x
def SM.del : SM → ByteArray → SM
  | [], _ => []
  | (s, v) :: r, k => if k = s then r else (s, v) :: SM.del r k
def entP (e : MapEntry) : Value × Value := (e.key, e.val)
def smP (p : ByteArray × Value) : Value × Value := (.string p.1, p.2)
/-- The block b holds a map with these entries. -/
def SMap (w : World) (b : Nat) (m : SM) : Prop := ∃ es clock, w.heap[b]? = some (.map es clock) ∧ es.toList.map entP = m.map smP
theorem findNow_str (k : ByteArray) : ∀ (es : List MapEntry) (m : SM) (i : Nat), es.map entP = m.map smP →
    (m.get k = none ∧ Instr.findNow .string (.string k) es i = some none ∧ (∀ x, m.put k x = m ++ [(k, x)]) ∧ m.del k = m) ∨
    ∃ v j, m.get k = some v ∧ j < es.length ∧ Instr.findNow .string (.string k) es i = some (some (i + j, v)) ∧ (es[j]?).map (·.key) = some (.string k) ∧ (∀ x, (es.modify j fun e => { e with key := .string k, val := x }).map entP = (m.put k x).map smP) ∧ (es.eraseIdx j).map entP = (m.del k).map smP
  | [], m, i, h => by
    have : m = [] := by cases m with | nil => rfl | cons a r => simp at h
    subst this
    exact .inl ⟨rfl, rfl, fun _ => rfl, rfl⟩
  | e :: es, [], i, h => by simp at h
  | e :: es, (s, v) :: r, i, h => by
    simp only [List.map_cons, List.cons.injEq] at h
    obtain ⟨h1, h2⟩ := h
    simp only [entP, smP, Prod.mk.injEq] at h1
    obtain ⟨h3, h4⟩ := h1
    by_cases hk : k = s
    · right
      subst hk
      refine ⟨v, 0, by simp [SM.get], by simp, ?_, by simp [h3], fun x => ?_, ?_⟩
      · simp [Instr.findNow, h3, Instr.sameNow, h4, ba_beq]
      · simp [SM.put, entP, smP, h2]
      · simp [SM.del, h2]
    · rcases findNow_str k es r (i + 1) h2 with ⟨a1, a2, a3, a4⟩ | ⟨v', j, a1, a2, a3, a4, a5, a6⟩
      · left
        refine ⟨by simp [SM.get, hk, a1], ?_, fun x => by simp [SM.put, hk, a3], by simp [SM.del, hk, a4]⟩
        simp [Instr.findNow, h3, Instr.sameNow, hk, a2, ba_beq]
      · right
        refine ⟨v', j + 1, by simp [SM.get, hk, a1], Nat.succ_lt_succ a2, ?_, by simpa using a4, fun x => ?_, ?_⟩
        · simp [Instr.findNow, h3, Instr.sameNow, hk, a3, ba_beq]; omega
        · simp only [List.modify_succ_cons, List.map_cons, SM.put, if_neg hk, a5 x]
          simp [entP, smP, h3, h4]
        · simp only [List.eraseIdx_cons_succ, List.map_cons, SM.del, if_neg hk, a6]
          simp [entP, smP, h3, h4]
section
variable {P : Program} {w : World} {b : Nat} {m : SM} {t kt et : TypeId} {K : Value → World → Prop}
theorem checkKey_str' (hk : P.underlying kt = some .string) (e : Bool) (s : ByteArray) (n : Nat) : (Instr.checkKey e (n + 1) kt (.string s)).run P w = .ok () w := by
  unfold Instr.checkKey
  simp [und_ok hk]
theorem checkKey_str (hk : P.underlying kt = some .string) (e : Bool) (s : ByteArray) : (Instr.checkKey e 10000 kt (.string s)).run P w = .ok () w := checkKey_str' hk e s 9999
/-- The world with another object in the block b. -/
def setO (w : World) (b : Nat) (o : Obj) : World := { w with heap := w.heap.set! b o }
theorem setO_get (o : Obj) (hb : b < w.heap.size) : (setO w b o).heap[b]? = some o := by
  simp [setO, hb]
theorem setO_keeps (o : Obj) : Keeps w (setO w b o) (one_ b) :=
  ⟨rfl, rfl, rfl, by simp [setO], fun k hk hn => by
    have : b ≠ k := fun e => hn e.symm
    simp [setO, this]⟩
theorem RunU.upd {K : World → Prop} (ht : P.underlying t = some (.map kt et)) (hk : P.underlying kt = some .string) (h : SMap w b m) (s : ByteArray) (x : Value) (k : ∀ w', SMap w' b (m.put s x) → Keeps w w' (one_ b) → K w') :
    RunU P (Instr.mapUpdate t (.map (some b)) (.string s) x) w K := by
  obtain ⟨es, clock, hb, he⟩ := h
  have hlt : b < w.heap.size := by
    rcases Nat.lt_or_ge b w.heap.size with h' | h'
    · exact h'
    · rw [Array.getElem?_eq_none h'] at hb; cases hb
  rcases findNow_str s es.toList m 0 he with ⟨a1, a2, a3, _⟩ | ⟨v, j, a1, a2, a3, a4, a5, _⟩
  · refine ⟨setO w b (.map (es.push { key := .string s, val := x, born := clock }) (clock + 1)), ?_, k _ ⟨_, _, setO_get _ hlt, ?_⟩ (setO_keeps _)⟩
    · simp [Instr.mapUpdate, und_ok ht, getObj, setObj, Sem.run, hb, checkKey_str hk, Instr.findKey, und_ok hk, a2, setO]
    · simp [a3, he, entP, smP]
  · have e : (es.toList[j]?).map (·.key) = some (.string s) := a4
    have e2 : ((es[j]?).map (·.key)).getD (.string s) = .string s := by
      rw [← Array.getElem?_toList, e]; rfl
    refine ⟨setO w b (.map (es.modify j fun e => { e with key := .string s, val := x }) clock), ?_, k _ ⟨_, _, setO_get _ hlt, ?_⟩ (setO_keeps _)⟩
    · simp [Instr.mapUpdate, und_ok ht, getObj, setObj, Sem.run, hb, checkKey_str hk, Instr.findKey, und_ok hk, a3, setO, e2, Instr.keyThatStays, Instr.sameBits, ba_beq]
    · rw [Array.toList_modify]; exact a5 x
end
end Go.Vc
namespace Go.Vc
set_option linter.unusedVariables false
end Go.Vc
namespace Go.Vc
set_option linter.unusedVariables false
open Go.Cs
end Go.Vc

namespace Go.Vc
set_option linter.unusedVariables false
open Go Go.Pw Go.RowKit Go.Cs Go.Lib
set_option linter.unusedVariables false
section
variable {P : Program} {w : World} {K : Value → World → Prop}
theorem lt_of_obj {b : Nat} {o : Obj} (h : w.heap[b]? = some o) : b < w.heap.size := by
  rcases Nat.lt_or_ge b w.heap.size with h' | h'
  · exact h'
  · rw [Array.getElem?_eq_none h'] at h; cases h
end
end Go.Vc

-- alias Try
namespace Go.Proofs.Ytcplagfblmemhaa
set_option linter.unusedVariables false
open Go.RowKit Go.Pw Go.Vc Go.Cs Go.Lib
set_option linter.unusedVariables false
set_option maxRecDepth 100000
section
variable {w : World}
theorem bld_keep {B b : Nat} {l : List UInt8} {w' : World} (h : Bld w B b l) (k : Keeps w w' none_) : Bld w' B b l := by
  have key : ∀ p', BuilderAtF 91 5 B b p' (Go.Lib.byteCells l) w → BuilderAtF 91 5 B b p' (Go.Lib.byteCells l) w' := by
    rintro p' ⟨hB, v, hb, hown, hne⟩
    refine ⟨hB, v, (k.block b (lt_of_obj hb) id).trans hb, ?_, hne⟩
    refine hown.kept (row := none) ⟨k.os, k.tape, k.output, k.size, fun i hi _ => k.block i hi id⟩ ?_
    cases v.ownBlock <;> simp
  rcases h with h | h
  · exact .inl (key _ h)
  · exact .inr (key _ h)
end
end Go.Proofs.Ytcplagfblmemhaa

-- alias Try
namespace Go.Proofs.Ytcplagfblmemhaa
set_option linter.unusedVariables false
open Go.RowKit Go.Pw Go.Vc Go.Cs Go.Lib
set_option linter.unusedVariables false
set_option maxRecDepth 100000
section
end
end Go.Proofs.Ytcplagfblmemhaa

-- alias Try
namespace Go.Proofs.Ytcplagfblmemhaa
set_option linter.unusedVariables false
open Go.RowKit Go.Pw Go.Vc Go.Cs Go.Lib
set_option linter.unusedVariables false
set_option maxRecDepth 100000
section
end
end Go.Proofs.Ytcplagfblmemhaa

-- alias Try
namespace Go.Proofs.Ytcplagfblmemhaa
set_option linter.unusedVariables false
open Go.RowKit Go.Pw Go.Vc Go.Cs Go.Lib
set_option linter.unusedVariables false
set_option maxRecDepth 100000
section
end
end Go.Proofs.Ytcplagfblmemhaa

-- alias Try
namespace Go.Proofs.Ytcplagfblmemhaa
set_option linter.unusedVariables false
open Go.RowKit Go.Pw Go.Vc Go.Cs Go.Lib
set_option linter.unusedVariables false
set_option maxRecDepth 100000
theorem _root_.Go.Pw.Keeps.ofGrown {w w' : World} {row : Option Nat} (h : w.grownBy w' row) : Keeps w w' (fun k => row = some k) :=
  ⟨h.os, h.tape, h.output, h.size, fun k hk hn => h.block k hk fun e => hn e.symm⟩
abbrev Wd := List UInt8 × Nat × Nat
section
variable {w0 w : World} {bs bo bf : Nat} {s : ByteArray} {v : Value} {l : List Wd} {fr : Int}
/-- The iterators are as they were. -/
def IterKept (w w' : World) : Prop := ∀ (bi : Nat) (t : ByteArray) (p : Nat), w.heap[bi]? = some (.stringIter t p) → w'.heap[bi]? = some (.stringIter t p)
theorem IterKept.trans {a b c : World} (h : IterKept a b) (k : IterKept b c) : IterKept a c := fun bi t p hi => k bi t p (h bi t p hi)
theorem IterKept.set {w : World} {b : Nat} {T : TypeId} {v : Value} (h : Var1 w b T v) (u : Value) : IterKept w (w.setCell ⟨b, 0, none⟩ u) := fun bi t p hi => by
  rw [RowKit.Below.heap_setCell _ _ _ _ (fun e => by have e : bi = b := e; subst e; unfold Var1 at h; rw [hi] at h; cases h)]
  exact hi
theorem IterKept.keep {w w' : World} (k : Keeps w w' none_) : IterKept w w' := fun bi t p hi => (k.block bi (lt_of_obj hi) id).trans hi
end
end Go.Proofs.Ytcplagfblmemhaa

-- alias Try
namespace Go.Proofs.Ytcplagfblmemhaa
set_option linter.unusedVariables false
open Go.RowKit Go.Pw Go.Vc Go.Cs Go.Lib
set_option linter.unusedVariables false
set_option maxRecDepth 100000
section
end
end Go.Proofs.Ytcplagfblmemhaa

-- alias Try
namespace Go.Proofs.Ytcplagfblmemhaa
set_option linter.unusedVariables false
open Go.RowKit Go.Pw Go.Vc Go.Cs Go.Lib
set_option linter.unusedVariables false
set_option maxRecDepth 100000
/-- A row that can be read. -/
def Rd (w : World) (v : Value) (n : Nat) (xs : List Value) : Prop := ∃ a cap, v = .slice a n cap ∧ (0 < n → ∃ g, a = some ⟨g, 0, none⟩ ∧ g < w.heap.size ∧ At w g 0 xs)
theorem Rd.keep {w w' : World} {v : Value} {n : Nat} {xs : List Value} (h : Rd w v n xs) (k : Keeps w w' none_) : Rd w' v n xs := by
  obtain ⟨a, cap, rfl, h⟩ := h
  exact ⟨a, cap, rfl, fun h0 => let ⟨g, h1, h3, h4⟩ := h h0; ⟨g, h1, Nat.lt_of_lt_of_le h3 k.size, at_keep h4 k⟩⟩
end Go.Proofs.Ytcplagfblmemhaa

-- alias Try
namespace Go.Proofs.Ytcplagfblmemhaa
set_option linter.unusedVariables false
open Go.RowKit Go.Pw Go.Vc Go.Cs Go.Lib
set_option linter.unusedVariables false
set_option maxRecDepth 100000
end Go.Proofs.Ytcplagfblmemhaa

-- alias Try
namespace Go.Proofs.Ytcplagfblmemhaa
set_option linter.unusedVariables false
open Go.RowKit Go.Pw Go.Vc Go.Cs Go.Lib
set_option linter.unusedVariables false
set_option maxRecDepth 100000
section
end
end Go.Proofs.Ytcplagfblmemhaa

-- alias Try
namespace Go.Proofs.Ytcplagfblmemhaa
set_option linter.unusedVariables false
open Go.RowKit Go.Pw Go.Vc Go.Cs Go.Lib
set_option linter.unusedVariables false
set_option maxRecDepth 100000
section
end
end Go.Proofs.Ytcplagfblmemhaa

-- alias Try
namespace Go.Proofs.Ytcplagfblmemhaa
set_option linter.unusedVariables false
open Go.RowKit Go.Pw Go.Vc Go.Cs Go.Lib
set_option linter.unusedVariables false
set_option maxRecDepth 100000
section
end
end Go.Proofs.Ytcplagfblmemhaa

namespace Go.Cs
set_option linter.unusedVariables false
open Go.Lib
set_option linter.unusedVariables false
end Go.Cs

-- alias Try
namespace Go.Proofs.Ytcplagfblmemhaa
set_option linter.unusedVariables false
open Go.RowKit Go.Pw Go.Vc Go.Cs Go.Lib
set_option linter.unusedVariables false
set_option maxRecDepth 100000
section
end
end Go.Proofs.Ytcplagfblmemhaa

-- alias Try
namespace Go.Proofs.Ytcplagfblmemhaa
set_option linter.unusedVariables false
open Go.RowKit Go.Pw Go.Vc Go.Cs Go.Lib
set_option linter.unusedVariables false
set_option maxRecDepth 100000
/-- A row of code points, the call's own. -/
def Rns (w : World) (B : Nat) (v : Value) (l : List Nat) : Prop := w.ownsRow B 3 1 v l.length (l.map fun (c : Nat) => Value.int .i64 (c : Int))
theorem byteInfo : (Try.prog.info? 5).map (fun i => (i.zero, i.size, i.bytes)) = some (some (.int .u8 0), 1, 1) := by kernel_rfl
theorem Rns.shape {w : World} {B : Nat} {v : Value} {l : List Nat} (h : Rns w B v l) : ∃ a cap, v = .slice a l.length cap := own_shape h
section
end
end Go.Proofs.Ytcplagfblmemhaa

-- alias Try
namespace Go.Proofs.Ytcplagfblmemhaa
set_option linter.unusedVariables false
open Go.RowKit Go.Pw Go.Vc Go.Cs Go.Lib
set_option linter.unusedVariables false
set_option maxRecDepth 100000
theorem Bytes.shape {w : World} {B : Nat} {v : Value} {l : List UInt8} (h : Bytes w B v l) : ∃ a cap, v = .slice a l.length cap := own_shape h
theorem Bytes.keep {w w' : World} {B : Nat} {v : Value} {l : List UInt8} (h : Bytes w B v l) (k : Keeps w w' none_) : Bytes w' B v l := own_keep0 h k
theorem Rns.keep {w w' : World} {B : Nat} {v : Value} {l : List Nat} (h : Rns w B v l) (k : Keeps w w' none_) : Rns w' B v l := own_keep0 h k
section
end
end Go.Proofs.Ytcplagfblmemhaa

-- alias Try
namespace Go.Proofs.Ytcplagfblmemhaa
set_option linter.unusedVariables false
open Go.RowKit Go.Pw Go.Vc Go.Cs Go.Lib
set_option linter.unusedVariables false
set_option maxRecDepth 100000
end Go.Proofs.Ytcplagfblmemhaa

-- alias Try
namespace Go.Proofs.Ytcplagfblmemhaa
set_option linter.unusedVariables false
open Go.RowKit Go.Pw Go.Vc Go.Cs Go.Lib
set_option linter.unusedVariables false
set_option maxRecDepth 100000
section
end
end Go.Proofs.Ytcplagfblmemhaa

-- alias Try
namespace Go.Proofs.Ytcplagfblmemhaa
set_option linter.unusedVariables false
open Go.RowKit Go.Pw Go.Vc Go.Cs Go.Lib
set_option linter.unusedVariables false
set_option maxRecDepth 100000
section
end
end Go.Proofs.Ytcplagfblmemhaa

-- alias Try
namespace Go.Proofs.Ytcplagfblmemhaa
set_option linter.unusedVariables false
open Go.RowKit Go.Pw Go.Vc Go.Cs Go.Lib
set_option linter.unusedVariables false
set_option maxRecDepth 100000
section
end
end Go.Proofs.Ytcplagfblmemhaa

-- alias Try
namespace Go.Proofs.Ytcplagfblmemhaa
set_option linter.unusedVariables false
open Go.RowKit Go.Pw Go.Vc Go.Cs Go.Lib
set_option linter.unusedVariables false
set_option maxRecDepth 100000
section
end
end Go.Proofs.Ytcplagfblmemhaa

-- alias Try
namespace Go.Proofs.Ytcplagfblmemhaa
set_option linter.unusedVariables false
open Go.RowKit Go.Pw Go.Vc Go.Cs Go.Lib
set_option linter.unusedVariables false
set_option maxRecDepth 100000
section
end
end Go.Proofs.Ytcplagfblmemhaa

/-! Maps from keys of any kind: a list of pairs. -/
namespace Go.Vc
set_option linter.unusedVariables false
open Go Go.Pw Go.RowKit
set_option linter.unusedVariables false
set_option linter.unusedSectionVars false
abbrev GM (κ : Type) := List (κ × Value)
section
variable {κ : Type} [DecidableEq κ]
def GM.get : GM κ → κ → Option Value
  | [], _ => none
  | (s, v) :: r, k => if k = s then some v else GM.get r k
def GM.put : GM κ → κ → Value → GM κ
  | [], k, x => [(k, x)]
  | (s, v) :: r, k, x => if k = s then (s, x) :: r else (s, v) :: GM.put r k x
def GM.del : GM κ → κ → GM κ
  | [], _ => []
  | (s, v) :: r, k => if k = s then r else (s, v) :: GM.del r k
/-- Where a key stands. -/
def GM.idx : GM κ → κ → Nat → Option (Nat × Value)
  | [], _, _ => none
  | (s, v) :: r, k, i => if k = s then some (i, v) else GM.idx r k (i + 1)
def entG (e : MapEntry) : Value × Value := (e.key, e.val)
def gmP (enc : κ → Value) (p : κ × Value) : Value × Value := (enc p.1, p.2)
/-- What is asked of a kind of keys. -/
structure KeyOk (P : Program) (kt : TypeId) (enc : κ → Value) : Prop where
  check : ∀ e k w, (Instr.checkKey e 10000 kt (enc k)).run P w = .ok () w
  find : ∀ w k (es : List MapEntry) (m : GM κ), es.map entG = m.map (gmP enc) → (Instr.findKey kt (enc k) es).run P w = .ok (m.idx k 0) w
  bits : ∀ k, Instr.sameBits 10000 (enc k) (enc k) = true
/-- The block b holds a map with these entries. -/
def GMap (enc : κ → Value) (w : World) (b : Nat) (m : GM κ) : Prop := ∃ es clock, w.heap[b]? = some (.map es clock) ∧ es.toList.map entG = m.map (gmP enc)
theorem GM.idx_get (k : κ) : ∀ (m : GM κ) (i : Nat), (m.idx k i).map (·.2) = m.get k
  | [], i => rfl
  | (s, v) :: r, i => by
    unfold GM.idx GM.get
    split
    · rfl
    · exact GM.idx_get k r (i + 1)
theorem GM.idx_none (k : κ) : ∀ (m : GM κ) (i : Nat), m.idx k i = none → m.get k = none ∧ (∀ x, m.put k x = m ++ [(k, x)]) ∧ m.del k = m
  | [], i, _ => ⟨rfl, fun _ => rfl, rfl⟩
  | (s, v) :: r, i, h => by
    unfold GM.idx at h
    split at h
    · cases h
    · rename_i hk
      obtain ⟨h1, h2, h3⟩ := GM.idx_none k r (i + 1) h
      exact ⟨by simp [GM.get, hk, h1], fun x => by simp [GM.put, hk, h2], by simp [GM.del, hk, h3]⟩
theorem GM.idx_some {enc : κ → Value} (k : κ) : ∀ (es : List MapEntry) (m : GM κ) (i j : Nat) (v : Value), es.map entG = m.map (gmP enc) → m.idx k i = some (j, v) →
    ∃ d, j = i + d ∧ d < es.length ∧ m.get k = some v ∧ (es[d]?).map (·.key) = some (enc k) ∧ (∀ x, (es.modify d fun e => { e with key := enc k, val := x }).map entG = (m.put k x).map (gmP enc)) ∧ (es.eraseIdx d).map entG = (m.del k).map (gmP enc)
  | [], m, i, j, v, h, hi => by
    have : m = [] := by cases m with | nil => rfl | cons a r => simp at h
    subst this; simp [GM.idx] at hi
  | e :: es, [], i, j, v, h, hi => by simp at h
  | e :: es, (s, x0) :: r, i, j, v, h, hi => by
    simp only [List.map_cons, List.cons.injEq] at h
    obtain ⟨h1, h2⟩ := h
    simp only [entG, gmP, Prod.mk.injEq] at h1
    obtain ⟨h3, h4⟩ := h1
    unfold GM.idx at hi
    split at hi
    · rename_i hk
      subst hk
      simp only [Option.some.injEq, Prod.mk.injEq] at hi
      obtain ⟨rfl, rfl⟩ := hi
      refine ⟨0, by simp, by simp, by simp [GM.get], by simp [h3], fun x => ?_, ?_⟩
      · simp only [List.modify_zero_cons, List.map_cons, GM.put, if_pos, h2]
        simp [entG, gmP]
      · simp [GM.del, h2]
    · rename_i hk
      obtain ⟨d, q1, q2, q3, q4, q5, q6⟩ := GM.idx_some k es r (i + 1) j v h2 hi
      refine ⟨d + 1, by omega, Nat.succ_lt_succ q2, by simp [GM.get, hk, q3], by simpa using q4, fun x => ?_, ?_⟩
      · simp only [List.modify_succ_cons, List.map_cons, GM.put, if_neg hk, q5 x]
        simp [entG, gmP, h3, h4]
      · simp only [List.eraseIdx_cons_succ, List.map_cons, GM.del, if_neg hk, q6]
        simp [entG, gmP, h3, h4]
theorem GM.get_put (k k' : κ) (x : Value) : ∀ (m : GM κ), (m.put k x).get k' = if k' = k then some x else m.get k'
  | [] => by simp [GM.put, GM.get]
  | (s, v) :: r => by
    unfold GM.put
    by_cases h : k = s
    · subst h
      rw [if_pos rfl]
      simp only [GM.get]
      split <;> rfl
    · rw [if_neg h]
      simp only [GM.get]
      by_cases h2 : k' = s
      · rw [if_pos h2, if_pos h2, if_neg (fun e => h (by rw [← e, h2]))]
      · rw [if_neg h2, if_neg h2, GM.get_put k k' x r]
variable {enc : κ → Value} {P : Program} {w : World} {b : Nat} {m : GM κ} {t kt et : TypeId} {K : Value → World → Prop}
theorem GMap.lt (h : GMap enc w b m) : b < w.heap.size := by
  obtain ⟨es, cl, hb, he⟩ := h
  rcases Nat.lt_or_ge b w.heap.size with h' | h'
  · exact h'
  · rw [Array.getElem?_eq_none h'] at hb; cases hb
theorem GMap.keep {w' : World} {c : Nat → Prop} (h : GMap enc w b m) (k : Keeps w w' c) (hc : ¬ c b) : GMap enc w' b m := by
  have hlt := h.lt
  obtain ⟨es, cl, hb, he⟩ := h
  exact ⟨es, cl, (k.block b hlt hc).trans hb, he⟩
theorem GMap.new (w : World) : GMap enc (w.alloc (.map #[] 0)) w.heap.size ([] : GM κ) := ⟨#[], 0, heap_alloc_new w _, rfl⟩
theorem RunV.makeMap {r : Option Value} (hr : r = none) (k : K (.map (some w.heap.size)) (w.alloc (.map #[] 0))) : RunV P (Instr.makeMap t r) w K := by
  subst hr
  exact RunV.of (by simp [Instr.makeMap]) k
theorem RunV.lookG2 (ok : KeyOk P kt enc) (ht : P.underlying t = some (.map kt et)) {z : Value} (hz : (zeroValue et).run P w = .ok z w) (h : GMap enc w b m) (s : κ) {e : Value} (he : e = enc s) (k : K (.tuple #[(m.get s).getD z, .bool (m.get s).isSome]) w) :
    RunV P (Instr.lookup t (.map (some b)) e true) w K := by
  subst he
  obtain ⟨es, clock, hb, he⟩ := h
  refine ⟨_, w, ?_, k⟩
  have h1 := GM.idx_get s m 0
  cases hi : m.idx s 0 with
  | none =>
    rw [hi] at h1
    simp [Instr.lookup, und_ok ht, getObj, Sem.run, hb, ok.check, ok.find w s es.toList m he, hi, hz, ← h1]
  | some jv =>
    obtain ⟨j, v⟩ := jv
    rw [hi] at h1
    simp [Instr.lookup, und_ok ht, getObj, Sem.run, hb, ok.check, ok.find w s es.toList m he, hi, ← h1]
/-- The world with another object in the block b. -/
def setOG (w : World) (b : Nat) (o : Obj) : World := { w with heap := w.heap.set! b o }
theorem setOG_get (o : Obj) (hb : b < w.heap.size) : (setOG w b o).heap[b]? = some o := by
  simp [setOG, hb]
theorem setOG_keeps (o : Obj) : Keeps w (setOG w b o) (one_ b) :=
  ⟨rfl, rfl, rfl, by simp [setOG], fun k hk hn => by
    have : b ≠ k := fun e => hn e.symm
    simp [setOG, this]⟩
end
/-! ### Kinds of keys -/
section
variable {P : Program} {kt : TypeId}
theorem keyOk_ask {κ : Type} [DecidableEq κ] {enc : κ → Value} {u : TypeDesc} (hu : P.underlying kt = some u) (hn : ∀ a b, Instr.sameNow u (enc a) (enc b) = none) (heq : ∀ w a b, (Op.equal kt (enc a) (enc b)).run P w = .ok (decide (a = b)) w)
    (hc : ∀ e k w, (Instr.checkKey e 10000 kt (enc k)).run P w = .ok () w) (hb : ∀ k, Instr.sameBits 10000 (enc k) (enc k) = true) : KeyOk P kt enc where
  check := hc
  bits := hb
  find w k es m h := by
    have ask : ∀ (es : List MapEntry) (m : GM κ) (i : Nat), es.map entG = m.map (gmP enc) → (Instr.findAsking kt (enc k) es i).run P w = .ok (m.idx k i) w := by
      intro es
      induction es with
      | nil =>
        intro m i h
        have : m = [] := by cases m with | nil => rfl | cons a r => simp at h
        subst this; rfl
      | cons e es ih =>
        intro m i h
        cases m with
        | nil => simp at h
        | cons p r =>
          obtain ⟨s, v⟩ := p
          simp only [List.map_cons, List.cons.injEq] at h
          obtain ⟨h1, h2⟩ := h
          simp only [entG, gmP, Prod.mk.injEq] at h1
          obtain ⟨h3, h4⟩ := h1
          unfold Instr.findAsking GM.idx
          rw [h3]
          by_cases hk : k = s
          · simp [heq, hk, h4]
          · simp [heq, hk, ih r (i + 1) h2]
    unfold Instr.findKey
    cases es with
    | nil =>
      have : m = [] := by cases m with | nil => rfl | cons a r => simp at h
      subst this
      simp [und_ok hu, Instr.findNow, GM.idx]
    | cons e es =>
      cases m with
      | nil => simp at h
      | cons p r =>
        have h1 := h
        simp only [List.map_cons, List.cons.injEq] at h1
        have h3 : e.key = enc p.1 := by have := h1.1; simp only [entG, gmP, Prod.mk.injEq] at this; exact this.1
        have : Instr.findNow u (enc k) (e :: es) 0 = none := by unfold Instr.findNow; rw [h3, hn]
        simp [und_ok hu, this, ask (e :: es) (p :: r) 0 h]
end
end Go.Vc

-- alias Try
namespace Go.Proofs.Ytcplagfblmemhaa
set_option linter.unusedVariables false
open Go.RowKit Go.Pw Go.Vc Go.Cs Go.Lib
set_option linter.unusedVariables false
set_option maxRecDepth 100000
def boxCells (b : Bx) : List Value := [.int .i64 b.id, .int .i64 b.up, .string (str b.name), .string (str b.role)]
abbrev RowB (w : World) (v : Value) (l : List Bx) : Prop := RowO w v boxCells l
section
end
end Go.Proofs.Ytcplagfblmemhaa

namespace Go.Cs
set_option linter.unusedVariables false
open Go.Lib
set_option linter.unusedVariables false
end Go.Cs

-- alias Try
namespace Go.Proofs.Ytcplagfblmemhaa
set_option linter.unusedVariables false
open Go.RowKit Go.Pw Go.Vc Go.Cs Go.Lib
set_option linter.unusedVariables false
set_option maxRecDepth 100000
section
/-! ### Names -/
/-! ### Roles -/
end
end Go.Proofs.Ytcplagfblmemhaa

-- alias Try
namespace Go.Proofs.Ytcplagfblmemhaa
set_option linter.unusedVariables false
open Go.RowKit Go.Pw Go.Vc Go.Cs Go.Lib
set_option linter.unusedVariables false
set_option maxRecDepth 100000
/-- The set of the roles in use. -/
def UsedM (l : List Bx) (m : GM (List UInt8)) : Prop := ∀ r, (∃ x : Int, x ≠ 0 ∧ m.get r = some (.int .i64 x) ∧ ∃ b ∈ l, b.role = r) ∨ (m.get r = none ∧ ∀ b ∈ l, b.role ≠ r)
theorem UsedM.put {l : List Bx} {m : GM (List UInt8)} (h : UsedM l m) (b : Bx) (hb : b.id ≠ 0) : UsedM (l ++ [b]) (m.put b.role (.int .i64 b.id)) := fun r => by
  rw [GM.get_put]
  by_cases e : r = b.role
  · left
    rw [if_pos e]
    exact ⟨b.id, hb, rfl, b, by simp, e.symm⟩
  · rw [if_neg e]
    rcases h r with ⟨x, h1, h2, c, hc, h3⟩ | ⟨h1, h2⟩
    · exact .inl ⟨x, h1, h2, c, by simp [hc], h3⟩
    · refine .inr ⟨h1, fun c hc => ?_⟩
      rcases List.mem_append.1 hc with hc | hc
      · exact h2 c hc
      · rw [List.mem_singleton.1 hc]; exact fun q => e q.symm
section
end
end Go.Proofs.Ytcplagfblmemhaa

-- alias Try
namespace Go.Proofs.Ytcplagfblmemhaa
set_option linter.unusedVariables false
open Go.RowKit Go.Pw Go.Vc Go.Cs Go.Lib
set_option linter.unusedVariables false
set_option maxRecDepth 100000
theorem at_keepc {w w' : World} {b o : Nat} {vs : List Value} {c : Nat → Prop} (h : At w b o vs) (k : Keeps w w' c) (hc : ¬ c b) : At w' b o vs := fun i v hi => by
  have := h i v hi
  rw [k.cell (cell_lt this) hc]; exact this
section
end
end Go.Proofs.Ytcplagfblmemhaa

-- alias Try
namespace Go.Proofs.Ytcplagfblmemhaa
set_option linter.unusedVariables false
open Go.RowKit Go.Pw Go.Vc Go.Cs Go.Lib
set_option linter.unusedVariables false
set_option maxRecDepth 100000
section
end
end Go.Proofs.Ytcplagfblmemhaa

-- alias Try
namespace Go.Proofs.Ytcplagfblmemhaa
set_option linter.unusedVariables false
open Go.RowKit Go.Pw Go.Vc Go.Cs Go.Lib
set_option linter.unusedVariables false
set_option maxRecDepth 100000
section
end
end Go.Proofs.Ytcplagfblmemhaa

-- alias Try
namespace Go.Proofs.Ytcplagfblmemhaa
set_option linter.unusedVariables false
open Go.RowKit Go.Pw Go.Vc Go.Cs Go.Lib
set_option linter.unusedVariables false
set_option maxRecDepth 100000
section
end
end Go.Proofs.Ytcplagfblmemhaa

-- alias Try
namespace Go.Proofs.Ytcplagfblmemhaa
set_option linter.unusedVariables false
open Go.RowKit Go.Pw Go.Vc Go.Cs Go.Lib
set_option linter.unusedVariables false
set_option maxRecDepth 100000
section
end
end Go.Proofs.Ytcplagfblmemhaa

-- alias Try
namespace Go.Proofs.Ytcplagfblmemhaa
set_option linter.unusedVariables false
open Go.RowKit Go.Pw Go.Vc Go.Cs Go.Lib
set_option linter.unusedVariables false
set_option maxRecDepth 100000
section
end
end Go.Proofs.Ytcplagfblmemhaa

-- alias Try
namespace Go.Proofs.Ytcplagfblmemhaa
set_option linter.unusedVariables false
open Go.RowKit Go.Pw Go.Vc Go.Cs Go.Lib
set_option linter.unusedVariables false
set_option maxRecDepth 100000
section
end
end Go.Proofs.Ytcplagfblmemhaa

namespace Go.Vc
set_option linter.unusedVariables false
open Go Go.Pw
set_option linter.unusedVariables false
end Go.Vc
namespace Go.Cs
set_option linter.unusedVariables false
end Go.Cs

-- alias Try
namespace Go.Proofs.Ytcplagfblmemhaa
set_option linter.unusedVariables false
open Go.RowKit Go.Pw Go.Vc Go.Cs Go.Lib
set_option linter.unusedVariables false
set_option maxRecDepth 100000
section
end
end Go.Proofs.Ytcplagfblmemhaa

-- alias Try
namespace Go.Proofs.Ytcplagfblmemhaa
set_option linter.unusedVariables false
open Go.RowKit Go.Pw Go.Vc Go.Cs Go.Lib
set_option linter.unusedVariables false
set_option maxRecDepth 100000
section
end
end Go.Proofs.Ytcplagfblmemhaa

-- alias Try
namespace Go.Proofs.Ytcplagfblmemhaa
set_option linter.unusedVariables false
open Go.Shelf Go.RowKit Go.Pw Go.Vc Go.Cs Go.Lib Go.Sort
set_option linter.unusedVariables false
set_option maxRecDepth 100000
section
variable {w : World}
theorem own_le {w w' : World} {B s n : Nat} {e : TypeId} {v : Value} {xs : List Value} (h : w.ownsRow B e s v n xs) (k : Keeps w w' (own_ v)) (a : World) (ha : Keeps a w none_) (hB : a.heap.size ≤ B) : Keeps a w' none_ :=
  ha.trans k fun q hq e => by have := (h.lt q e).1; omega
end
end Go.Proofs.Ytcplagfblmemhaa

-- alias Try
namespace Go.Proofs.Ytcplagfblmemhaa
set_option linter.unusedVariables false
open Go.Shelf Go.RowKit Go.Pw Go.Vc Go.Cs Go.Lib
set_option linter.unusedVariables false
set_option maxRecDepth 100000
section
end
end Go.Proofs.Ytcplagfblmemhaa

-- alias Try
namespace Go.Proofs.Ytcplagfblmemhaa
set_option linter.unusedVariables false
open Go.Shelf Go.RowKit Go.Pw Go.Vc Go.Cs Go.Lib
set_option linter.unusedVariables false
set_option maxRecDepth 100000
structure MailOk (w : World) (x : Mr) : Prop where
  b : RowI w x.b.v x.m.boxes
  f : RowT w x.f.v x.m.flags
theorem MailOk.keep {w w' : World} {x : Mr} (h : MailOk w x) (k : Keeps w w' none_) : MailOk w' x := ⟨h.b.keep k, h.f.keep k⟩
/-- Rows in different blocks. -/
def Apart (v u : Value) : Prop := ∀ k, v.ownBlock = some k → u.ownBlock ≠ some k
section
end
end Go.Proofs.Ytcplagfblmemhaa

-- alias Try
namespace Go.Proofs.Ytcplagfblmemhaa
set_option linter.unusedVariables false
open Go.Shelf Go.RowKit Go.Pw Go.Vc Go.Cs Go.Lib
set_option linter.unusedVariables false
set_option maxRecDepth 100000
/-- The headers of an account's slices. -/
structure Hd where
  B : Sl
  M : Sl
  S : Sl
  N : Sl
def RowM (w : World) (v : Value) (l : List Ml) : Prop := ∃ lx : List Mr, lx.map (·.m) = l ∧ RowMr w v lx ∧ ∀ x ∈ lx, MailOk w x
theorem RowM.keep {w w' : World} {v : Value} {l : List Ml} (h : RowM w v l) (k : Keeps w w' none_) : RowM w' v l := by
  obtain ⟨lx, h1, h2, h3⟩ := h
  exact ⟨lx, h1, h2.keep k, fun x hx => (h3 x hx).keep k⟩
/-- An account in memory, to be read. -/
structure AccR (w : World) (h : Hd) (A : Acc) : Prop where
  b : RowB w h.B.v A.boxes
  m : RowM w h.M.v A.mails
  s : RowS w h.S.v A.scripts
  n : RowN w h.N.v A.seen
theorem AccR.keep {w w' : World} {h : Hd} {A : Acc} (r : AccR w h A) (k : Keeps w w' none_) : AccR w' h A := ⟨r.b.keep k, r.m.keep k, r.s.keep k, r.n.keep k⟩
section
end
end Go.Proofs.Ytcplagfblmemhaa

-- alias Try
namespace Go.Proofs.Ytcplagfblmemhaa
set_option linter.unusedVariables false
open Go.Shelf Go.RowKit Go.Pw Go.Vc Go.Cs Go.Lib
set_option linter.unusedVariables false
set_option maxRecDepth 100000
section
end
end Go.Proofs.Ytcplagfblmemhaa

-- alias Try
namespace Go.Proofs.Ytcplagfblmemhaa
set_option linter.unusedVariables false
open Go.Shelf Go.RowKit Go.Pw Go.Vc Go.Cs Go.Lib
set_option linter.unusedVariables false
set_option maxRecDepth 100000
section
end
end Go.Proofs.Ytcplagfblmemhaa

-- alias Try
namespace Go.Proofs.Ytcplagfblmemhaa
set_option linter.unusedVariables false
open Go.Shelf Go.RowKit Go.Pw Go.Vc Go.Cs Go.Lib
set_option linter.unusedVariables false
set_option maxRecDepth 100000
/-- The blocks of a message's own rows. -/
def Mr.bs (x : Mr) : List Nat := x.b.v.ownBlock.toList ++ x.f.v.ownBlock.toList
def Hd.bs (h : Hd) : List Nat := h.B.v.ownBlock.toList ++ h.S.v.ownBlock.toList ++ h.N.v.ownBlock.toList ++ h.M.v.ownBlock.toList
theorem own_keepA {w w' : World} {B s n : Nat} {e : TypeId} {v u : Value} {xs : List Value} (h : w.ownsRow B e s v n xs) (k : Keeps w w' (own_ u)) (ap : Apart v u) : w'.ownsRow B e s v n xs :=
  own_keep h k fun g hg e => ap g hg e
section
end
end Go.Proofs.Ytcplagfblmemhaa

-- alias Try
namespace Go.Proofs.Ytcplagfblmemhaa
set_option linter.unusedVariables false
open Go.RowKit Go.Pw Go.Vc Go.Cs Go.Lib
set_option linter.unusedVariables false
set_option maxRecDepth 100000
end Go.Proofs.Ytcplagfblmemhaa
