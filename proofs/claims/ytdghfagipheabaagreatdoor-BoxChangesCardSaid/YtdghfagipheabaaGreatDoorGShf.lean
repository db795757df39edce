/- Helper text of this claim: Shf, WsB, Cs2, Cs3, Ct0: lemmas and contracts that the proved statement rests on; no conditions of its own. -/
import Derived.Test.YtdghfagipheabaaGreatDoorGCs0
import Derived.Shelf.Strings.BuilderK
import Derived.Shelf.Strings.BuilderRune
import Derived.Shelf.Strings.Prefix
import Derived.Shelf.Small.Utf8
import Derived.Shelf.Unicode.DecodeAny
import Derived.Shelf.Unicode.ValidAny
-- alias Tryz
namespace Go.Proofs.YtdghfagipheabaaGreatDoor
open Go.Shelf Go.RowKit Go.Pw Go.Vc Go.Cs Go.Lib
set_option linter.unusedVariables false
set_option maxRecDepth 100000
def ren167 : Go.Shelf.Ren := ⟨fun | 167 => 59 | 240 => 71 | 276 => 83 | n => n, fun | 0 => 0 | 4 => 4 | 5 => 5 | 9 => 9 | 20 => 20 | 37 => 73 | 70 => 72 | 72 => 75 | 75 => 77 | 80 => 82 | 164 => 105 | n => n, fun | n => n⟩
theorem lays167 : Go.Proofs.Lays.n167 Tryz.prog ren167 := {
  mixed := by kernel_rfl
  f167 := Tryz.func59.trans (congrArg some (by kernel_rfl))
  f240 := Tryz.func71.trans (congrArg some (by kernel_rfl))
  f276 := Tryz.func83.trans (congrArg some (by kernel_rfl))
  t0 := Tryz.underlying0
  a0 := Tryz.isAgg0
  z0 := Tryz.sizeOf0
  v0 := Tryz.zeroValue0
  t4 := Tryz.underlying4
  a4 := Tryz.isAgg4
  z4 := Tryz.sizeOf4
  v4 := Tryz.zeroValue4
  t5 := Tryz.underlying5
  a5 := Tryz.isAgg5
  z5 := Tryz.sizeOf5
  v5 := Tryz.zeroValue5
  t9 := Tryz.underlying9
  a9 := Tryz.isAgg9
  z9 := Tryz.sizeOf9
  v9 := Tryz.zeroValue9
  t20 := Tryz.underlying20
  a20 := Tryz.isAgg20
  z20 := Tryz.sizeOf20
  v20 := Tryz.zeroValue20
  t37 := Tryz.underlying73
  a37 := Tryz.isAgg73
  z37 := Tryz.sizeOf73
  v37 := Tryz.zeroValue73
  t70 := Tryz.underlying72
  a70 := Tryz.isAgg72
  z70 := Tryz.sizeOf72
  v70 := Tryz.zeroValue72
  t72 := Tryz.underlying75
  a72 := Tryz.isAgg75
  z72 := Tryz.sizeOf75
  v72 := Tryz.zeroValue75
  t75 := Tryz.underlying77
  a75 := Tryz.isAgg77
  z75 := Tryz.sizeOf77
  v75 := Tryz.zeroValue77
  t164 := Tryz.underlying105
  a164 := Tryz.isAgg105
  z164 := Tryz.sizeOf105
  v164 := Tryz.zeroValue105 }
def ren168 : Go.Shelf.Ren := ⟨fun | 168 => 60 | 240 => 71 | 242 => 72 | 276 => 83 | 278 => 84 | n => n, fun | 0 => 0 | 3 => 3 | 4 => 4 | 5 => 5 | 9 => 9 | 20 => 20 | 21 => 21 | 37 => 73 | 46 => 85 | 51 => 107 | 70 => 72 | 72 => 75 | 75 => 77 | 80 => 82 | 164 => 105 | n => n, fun | n => n⟩
theorem lays168 : Go.Proofs.Lays.n168 Tryz.prog ren168 := {
  mixed := by kernel_rfl
  f168 := Tryz.func60.trans (congrArg some (by kernel_rfl))
  f240 := Tryz.func71.trans (congrArg some (by kernel_rfl))
  f242 := Tryz.func72.trans (congrArg some (by kernel_rfl))
  f276 := Tryz.func83.trans (congrArg some (by kernel_rfl))
  f278 := Tryz.func84.trans (congrArg some (by kernel_rfl))
  t0 := Tryz.underlying0
  a0 := Tryz.isAgg0
  z0 := Tryz.sizeOf0
  v0 := Tryz.zeroValue0
  t3 := Tryz.underlying3
  a3 := Tryz.isAgg3
  z3 := Tryz.sizeOf3
  v3 := Tryz.zeroValue3
  t4 := Tryz.underlying4
  a4 := Tryz.isAgg4
  z4 := Tryz.sizeOf4
  v4 := Tryz.zeroValue4
  t5 := Tryz.underlying5
  a5 := Tryz.isAgg5
  z5 := Tryz.sizeOf5
  v5 := Tryz.zeroValue5
  t9 := Tryz.underlying9
  a9 := Tryz.isAgg9
  z9 := Tryz.sizeOf9
  v9 := Tryz.zeroValue9
  t20 := Tryz.underlying20
  a20 := Tryz.isAgg20
  z20 := Tryz.sizeOf20
  v20 := Tryz.zeroValue20
  t21 := Tryz.underlying21
  a21 := Tryz.isAgg21
  z21 := Tryz.sizeOf21
  v21 := Tryz.zeroValue21
  t37 := Tryz.underlying73
  a37 := Tryz.isAgg73
  z37 := Tryz.sizeOf73
  v37 := Tryz.zeroValue73
  t46 := Tryz.underlying85
  a46 := Tryz.isAgg85
  z46 := Tryz.sizeOf85
  v46 := Tryz.zeroValue85
  t51 := Tryz.underlying107
  a51 := Tryz.isAgg107
  z51 := Tryz.sizeOf107
  v51 := Tryz.zeroValue107
  t70 := Tryz.underlying72
  a70 := Tryz.isAgg72
  z70 := Tryz.sizeOf72
  v70 := Tryz.zeroValue72
  t72 := Tryz.underlying75
  a72 := Tryz.isAgg75
  z72 := Tryz.sizeOf75
  v72 := Tryz.zeroValue75
  t75 := Tryz.underlying77
  a75 := Tryz.isAgg77
  z75 := Tryz.sizeOf77
  v75 := Tryz.zeroValue77
  t164 := Tryz.underlying105
  a164 := Tryz.isAgg105
  z164 := Tryz.sizeOf105
  v164 := Tryz.zeroValue105 }
def ren169 : Go.Shelf.Ren := ⟨fun | 169 => 62 | n => n, fun | 0 => 0 | 3 => 3 | 5 => 5 | 9 => 9 | 37 => 73 | 70 => 72 | 72 => 75 | 127 => 93 | n => n, fun | n => n⟩
theorem lays169 : Go.Proofs.Lays.n169 Tryz.prog ren169 := {
  mixed := by kernel_rfl
  f169 := Tryz.func62.trans (congrArg some (by kernel_rfl))
  t0 := Tryz.underlying0
  a0 := Tryz.isAgg0
  z0 := Tryz.sizeOf0
  v0 := Tryz.zeroValue0
  t3 := Tryz.underlying3
  a3 := Tryz.isAgg3
  z3 := Tryz.sizeOf3
  v3 := Tryz.zeroValue3
  t9 := Tryz.underlying9
  a9 := Tryz.isAgg9
  z9 := Tryz.sizeOf9
  v9 := Tryz.zeroValue9
  t37 := Tryz.underlying73
  a37 := Tryz.isAgg73
  z37 := Tryz.sizeOf73
  v37 := Tryz.zeroValue73
  t70 := Tryz.underlying72
  a70 := Tryz.isAgg72
  z70 := Tryz.sizeOf72
  v70 := Tryz.zeroValue72
  t72 := Tryz.underlying75
  a72 := Tryz.isAgg75
  z72 := Tryz.sizeOf75
  v72 := Tryz.zeroValue75
  t127 := Tryz.underlying93
  a127 := Tryz.isAgg93
  z127 := Tryz.sizeOf93
  v127 := Tryz.zeroValue93 }
def ren196 : Go.Shelf.Ren := ⟨fun | 196 => 64 | 259 => 78 | n => n, fun | 0 => 0 | 3 => 3 | 4 => 4 | 5 => 5 | 9 => 9 | 12 => 12 | 46 => 85 | 53 => 112 | 119 => 97 | 138 => 99 | 139 => 100 | n => n, fun | 3 => 2 | 4 => 3 | n => n⟩
theorem lays196 : Go.Proofs.Lays.n196 Tryz.prog ren196 := {
  mixed := by kernel_rfl
  f196 := Tryz.func64.trans (congrArg some (by kernel_rfl))
  f259 := Tryz.func78.trans (congrArg some (by kernel_rfl))
  t0 := Tryz.underlying0
  a0 := Tryz.isAgg0
  z0 := Tryz.sizeOf0
  v0 := Tryz.zeroValue0
  t3 := Tryz.underlying3
  a3 := Tryz.isAgg3
  z3 := Tryz.sizeOf3
  v3 := Tryz.zeroValue3
  t4 := Tryz.underlying4
  a4 := Tryz.isAgg4
  z4 := Tryz.sizeOf4
  v4 := Tryz.zeroValue4
  t5 := Tryz.underlying5
  a5 := Tryz.isAgg5
  z5 := Tryz.sizeOf5
  v5 := Tryz.zeroValue5
  t9 := Tryz.underlying9
  a9 := Tryz.isAgg9
  z9 := Tryz.sizeOf9
  v9 := Tryz.zeroValue9
  t12 := Tryz.underlying12
  a12 := Tryz.isAgg12
  z12 := Tryz.sizeOf12
  v12 := Tryz.zeroValue12
  t46 := Tryz.underlying85
  a46 := Tryz.isAgg85
  z46 := Tryz.sizeOf85
  v46 := Tryz.zeroValue85
  t53 := Tryz.underlying112
  a53 := Tryz.isAgg112
  z53 := Tryz.sizeOf112
  v53 := Tryz.zeroValue112
  t119 := Tryz.underlying97
  a119 := Tryz.isAgg97
  z119 := Tryz.sizeOf97
  t138 := Tryz.underlying99
  a138 := Tryz.isAgg99
  z138 := Tryz.sizeOf99
  v138 := Tryz.zeroValue99
  t139 := Tryz.underlying100
  a139 := Tryz.isAgg100
  z139 := Tryz.sizeOf100
  v139 := Tryz.zeroValue100
  g3 := by kernel_rfl
  g4 := by kernel_rfl }
def ren197 : Go.Shelf.Ren := ⟨fun | 197 => 86 | 260 => 94 | n => n, fun | 0 => 0 | 3 => 3 | 4 => 4 | 5 => 5 | 9 => 9 | 21 => 21 | 46 => 85 | 105 => 109 | 119 => 97 | 138 => 99 | 139 => 100 | n => n, fun | 3 => 2 | 4 => 3 | n => n⟩
theorem lays197 : Go.Proofs.Lays.n197 Tryz.prog ren197 := {
  mixed := by kernel_rfl
  f197 := Tryz.func86.trans (congrArg some (by kernel_rfl))
  f260 := Tryz.func94.trans (congrArg some (by kernel_rfl))
  t0 := Tryz.underlying0
  a0 := Tryz.isAgg0
  z0 := Tryz.sizeOf0
  v0 := Tryz.zeroValue0
  t3 := Tryz.underlying3
  a3 := Tryz.isAgg3
  z3 := Tryz.sizeOf3
  v3 := Tryz.zeroValue3
  t4 := Tryz.underlying4
  a4 := Tryz.isAgg4
  z4 := Tryz.sizeOf4
  v4 := Tryz.zeroValue4
  t5 := Tryz.underlying5
  a5 := Tryz.isAgg5
  z5 := Tryz.sizeOf5
  v5 := Tryz.zeroValue5
  t9 := Tryz.underlying9
  a9 := Tryz.isAgg9
  z9 := Tryz.sizeOf9
  v9 := Tryz.zeroValue9
  t21 := Tryz.underlying21
  a21 := Tryz.isAgg21
  z21 := Tryz.sizeOf21
  v21 := Tryz.zeroValue21
  t46 := Tryz.underlying85
  a46 := Tryz.isAgg85
  z46 := Tryz.sizeOf85
  v46 := Tryz.zeroValue85
  t105 := Tryz.underlying109
  a105 := Tryz.isAgg109
  z105 := Tryz.sizeOf109
  v105 := Tryz.zeroValue109
  t119 := Tryz.underlying97
  a119 := Tryz.isAgg97
  z119 := Tryz.sizeOf97
  t138 := Tryz.underlying99
  a138 := Tryz.isAgg99
  z138 := Tryz.sizeOf99
  v138 := Tryz.zeroValue99
  t139 := Tryz.underlying100
  a139 := Tryz.isAgg100
  z139 := Tryz.sizeOf100
  v139 := Tryz.zeroValue100
  g3 := by kernel_rfl
  g4 := by kernel_rfl }
def ren99 : Go.Shelf.Ren := ⟨fun | 99 => 58 | 206 => 70 | n => n, fun | 3 => 3 | 4 => 4 | 5 => 5 | 9 => 9 | n => n, fun | n => n⟩
theorem lays99 : Go.Proofs.Lays.n99 Tryz.prog ren99 := {
  mixed := by kernel_rfl
  f99 := Tryz.func58.trans (congrArg some (by kernel_rfl))
  f206 := Tryz.func70.trans (congrArg some (by kernel_rfl))
  t3 := Tryz.underlying3
  a3 := Tryz.isAgg3
  z3 := Tryz.sizeOf3
  v3 := Tryz.zeroValue3
  t4 := Tryz.underlying4
  a4 := Tryz.isAgg4
  z4 := Tryz.sizeOf4
  v4 := Tryz.zeroValue4
  t9 := Tryz.underlying9
  a9 := Tryz.isAgg9
  z9 := Tryz.sizeOf9
  v9 := Tryz.zeroValue9 }
theorem ext167 : Builder.Extra Tryz.prog ren167 := {
  sizeBuilder := by kernel_rfl
  liesBuilder := by kernel_rfl
  t5 := Tryz.underlying5
  a5 := Tryz.isAgg5
  z5 := Tryz.sizeOf5
  v5 := Tryz.zeroValue5
  infoByte := by kernel_rfl
  cellsByte := by kernel_rfl
  sizeByte := by kernel_rfl
  neB5 := by decide }
theorem ext168 : Builder.Extra Tryz.prog ren168 := {
  sizeBuilder := by kernel_rfl
  liesBuilder := by kernel_rfl
  t5 := Tryz.underlying5
  a5 := Tryz.isAgg5
  z5 := Tryz.sizeOf5
  v5 := Tryz.zeroValue5
  infoByte := by kernel_rfl
  cellsByte := by kernel_rfl
  sizeByte := by kernel_rfl
  neB5 := by decide }
theorem ext169 : Builder.Extra Tryz.prog ren169 := {
  sizeBuilder := by kernel_rfl
  liesBuilder := by kernel_rfl
  t5 := Tryz.underlying5
  a5 := Tryz.isAgg5
  z5 := Tryz.sizeOf5
  v5 := Tryz.zeroValue5
  infoByte := by kernel_rfl
  cellsByte := by kernel_rfl
  sizeByte := by kernel_rfl
  neB5 := by decide }
/-- The tables of unicode/utf8 stand. -/
def Tabs (w : World) : Prop := Utf8Tabs 2 3 w
theorem Tabs.keep {w w' : World} (h : Tabs w) (k : Keeps w w' none_) : Tabs w' :=
  ⟨fun c hc => by rw [k.cell (cell_lt (h.1 c hc)) id]; exact h.1 c hc, fun i hi => ⟨by rw [k.cell (cell_lt (h.2 i hi).1) id]; exact (h.2 i hi).1, by rw [k.cell (cell_lt (h.2 i hi).2) id]; exact (h.2 i hi).2⟩⟩
/-- A strings.Builder of the call's own, holding the bytes l. -/
def Bld (w : World) (B b : Nat) (l : List UInt8) : Prop := IsBuilderF 75 5 B b (byteCells l) w
theorem s_decode (s : ByteArray) (w : World) (hT : Tabs w) (h0 : 0 < s.size) : Calls Tryz.prog 86 #[.string s] w fun e w' =>
    e = .returned (.tuple #[.int .i32 (decodeL (L s)).1, .int .i64 (decodeL (L s)).2]) ∧ Keeps w w' none_ := by
  have e : decodeGo s = decodeL (L s) := by
    unfold decodeGo L
    rw [if_neg (by omega), ← decodeL_drop s 0, List.drop_zero]
  rw [← e]
  exact (Any.utf8_DecodeRuneInString lays197 s w hT).mono fun e w' ⟨h1, h2⟩ => ⟨h1, Keeps.of_below h2⟩
theorem s_valid (s : ByteArray) (w : World) (hT : Tabs w) (hs : s.size ≤ 9223372036854775807) : Calls Tryz.prog 64 #[.string s] w fun e w' =>
    e = .returned (.bool (validD (L s))) ∧ Keeps w w' none_ :=
  (Any.utf8_ValidString lays196 s w hs hT).mono fun e w' ⟨h1, h2⟩ => ⟨h1, Keeps.of_below h2⟩
theorem s_writeByte {B b : Nat} {l : List UInt8} (c : UInt8) (w : World) (h : Bld w B b l) (hl : l.length + 1 ≤ 140737488355328) (hB : B ≤ w.heap.size) :
    Calls Tryz.prog 59 #[.pointer (some ⟨b, 0, none⟩), .int .u8 c.toNat] w fun e w' => e = .returned .nilIface ∧ Bld w' B b (l ++ [c]) ∧ Below B w w' ∧ OthersKept 5 (some b) w w' :=
  (Any.Builder_WriteByte_k lays167 ext167 B b _ c.toNat w h (by rw [byteCells_length]; exact hl) hB).mono fun e w' ⟨h1, h2, h3⟩ => ⟨h1, .inr (by rw [byteCells_append]; exact h2), h3⟩
theorem s_writeRune {B b : Nat} {l : List UInt8} (r : Int) (h0 : -2147483648 ≤ r) (h1 : r ≤ 2147483647) (w : World) (h : Bld w B b l) (hl : l.length + 4 ≤ 140737488355328) (hB : B ≤ w.heap.size) :
    Calls Tryz.prog 60 #[.pointer (some ⟨b, 0, none⟩), .int .i32 r] w fun e w' => (∃ n, e = .returned (.tuple #[.int .i64 n, .nilIface])) ∧ Bld w' B b (l ++ encodeRune r) ∧ Below B w w' ∧ OthersKept 5 (some b) w w' :=
  (Any.Builder_WriteRune_k lays168 ext168 B b _ r h0 h1 w h (by rw [byteCells_length]; exact hl) hB).mono fun e w' ⟨h1, h2, h3⟩ => ⟨⟨_, h1⟩, .inr (by rw [byteCells_append, byteCells_encodeRune]; exact h2), h3⟩
theorem s_string {B b : Nat} {l : List UInt8} (w : World) (h : Bld w B b l) (hB : B ≤ w.heap.size) :
    Calls Tryz.prog 62 #[.pointer (some ⟨b, 0, none⟩)] w fun e w' => e = .returned (.string (str l)) ∧ Bld w' B b l ∧ Below B w w' ∧ OthersKept 5 (some b) w w' :=
  Any.Builder_String_any_k lays169 ext169 B b l w h hB
theorem bld_new (w : World) (B : Nat) (hB : B ≤ w.heap.size) : Bld (w.alloc (.cells #[.pointer none, .slice none 0 0] 75)) B w.heap.size [] :=
  .inl ⟨hB, _, heap_alloc_new _ _, World.ownsRowF_of (World.ownsRow_nil _ _ _ _), by simp [Value.ownBlock]⟩
end Go.Proofs.YtdghfagipheabaaGreatDoor

set_option linter.unusedVariables false
namespace Go.Vc
open Go Go.Pw Go.RowKit
/-- Bytes in cells from the block's head on, not frozen. -/
def Bs (w : World) (b : Nat) (l : List UInt8) : Prop := At w b 0 (Lib.byteCells l) ∧ ∀ j, j < l.length → w.frozen? ⟨b, 0 + j, none⟩ = false
theorem Bs.store {w : World} {b i : Nat} {l : List UInt8} (h : Bs w b l) (hi : i < l.length) (x : UInt8) : (∃ u, w.cell? ⟨b, 0 + i, none⟩ = some u) ∧ w.frozen? ⟨b, 0 + i, none⟩ = false ∧ Bs (w.setCell ⟨b, 0 + i, none⟩ (.int .u8 (x.toNat : Int))) b (l.set i x) := by
  have hc : w.cell? ⟨b, 0 + i, none⟩ = some (.int .u8 (l[i].toNat : Int)) := h.1 i _ (by simp [Lib.byteCells, hi])
  refine ⟨⟨_, hc⟩, h.2 i hi, fun j v hj => ?_, fun j hj => ?_⟩
  · by_cases e : i = j
    · subst e
      simp [Lib.byteCells, hi] at hj
      rw [cell_set_eq hc, hj]
    · have : (⟨b, 0 + i, none⟩ : Addr) ≠ ⟨b, 0 + j, none⟩ := fun e' => by injection e'; omega
      rw [World.cell?_setCell_other (h := this)]
      refine h.1 j v ?_
      simpa [Lib.byteCells, List.getElem?_set_ne e] using hj
  · rw [World.frozen?_setCell]
    rw [List.length_set] at hj
    exact h.2 j hj
theorem Bs.cell {w : World} {b i : Nat} {l : List UInt8} (h : Bs w b l) (hi : i < l.length) : w.cell? ⟨b, 0 + i, none⟩ = some (.int .u8 (((l.getD i 0).toNat : Nat) : Int)) := h.1 i _ (by simp [Lib.byteCells, hi, List.getD])
theorem Bs.keep {w w' : World} {b : Nat} {l : List UInt8} {c : Nat → Prop} (h : Bs w b l) (k : Keeps w w' c) (hb : b < w.heap.size) (hc : ¬ c b) : Bs w' b l :=
  ⟨fun i v hi => by rw [k.cell (p := ⟨b, 0 + i, none⟩) hb hc]; exact h.1 i v hi, fun j hj => by rw [k.frozen (p := ⟨b, 0 + j, none⟩) hb hc]; exact h.2 j hj⟩
theorem bytes_made (w : World) (e : TypeId) (s : ByteArray) : Bs (Lib.bytesWorld w e s) w.heap.size (s.data.toList) ∧ Keeps w (Lib.bytesWorld w e s) none_ := by
  have hl : s.data.toList.length = s.size := rfl
  refine ⟨⟨fun i v hi => ?_, fun j hj => ?_⟩, ⟨rfl, rfl, rfl, by rw [Lib.bytesWorld_size]; omega, fun k hk _ => Lib.bytesWorld_at_old w e s k hk⟩⟩
  · have hlt : i < s.size := by
      have := (List.getElem?_eq_some_iff.1 hi).1
      rw [Lib.byteCells_length] at this; exact this
    rw [Nat.zero_add, Lib.bytesWorld_cell w e s i hlt, ← hi]
    simp [Lib.byteCells, List.getD, List.getElem?_eq_getElem (by omega : i < s.data.toList.length)]
  · rw [hl] at hj
    unfold World.frozen?
    dsimp only
    rw [Lib.bytesWorld_at_new]
    have : s.size ≤ (Lib.bytesCells w e s).size := by
      unfold Lib.bytesCells
      rw [Array.size_append, Array.size_map]
      exact Nat.le_add_right _ _
    simp only [Bool.and_eq_false_iff, decide_eq_false_iff_not]
    omega
theorem RunV.back {P : Program} {w : World} {src dst e : TypeId} {b cap : Nat} {l : List UInt8} {K : Value → World → Prop} (hs : P.underlying src = some (.slice e)) (he : P.underlying e = some (.int .u8)) (hd : P.underlying dst = some .string)
    (h : Bs w b l) (k : K (.string ⟨l.toArray⟩) w) : RunV P (convert src dst (.slice (some ⟨b, 0, none⟩) l.length cap)) w K :=
  ⟨_, _, run_convert_bytes_back w src dst e ⟨b, 0, none⟩ cap l hs he hd (fun j hj => by rw [add_none]; exact h.1 j _ (by simp [Lib.byteCells, hj])), k⟩
end Go.Vc
namespace Go.Vc
open Go
theorem half_eq (i j : Nat) (h : i + j ≤ 1000000000000) : IntKind.i64.wrap ((IntKind.u64.wrap ((i : Int) + (j : Int))).fdiv (2 ^ min (Int.toNat 1) IntKind.u64.bits)) = (((i + j) / 2 : Nat) : Int) := by
  have h1 : IntKind.u64.wrap ((i : Int) + (j : Int)) = ((i + j : Nat) : Int) := by
    unfold IntKind.wrap; simp [IntKind.signed, IntKind.bits]; omega
  have h2 : (2 : Int) ^ min (Int.toNat 1) IntKind.u64.bits = 2 := by decide
  rw [h1, h2, Int.fdiv_eq_ediv_of_nonneg _ (by omega)]
  rw [wrap_i64 _ (by omega)]
  omega
end Go.Vc

namespace Go.Cs
open Go.Lib
set_option linter.unusedVariables false
/-! ### Names of character sets, bytewise decoders -/
def lowerB (b : UInt8) : UInt8 := if 65 ≤ b.toNat ∧ b.toNat ≤ 90 then (b.toNat + 32).toUInt8 else b
def nmUsAscii : List UInt8 := [117, 115, 45, 97, 115, 99, 105, 105]
def nmAscii : List UInt8 := [97, 115, 99, 105, 105]
def nmUtf_8 : List UInt8 := [117, 116, 102, 45, 56]
def nmUtf8 : List UInt8 := [117, 116, 102, 56]
def nmIso : List UInt8 := [105, 115, 111, 45, 56, 56, 53, 57, 45, 49]
def nmLatin1 : List UInt8 := [108, 97, 116, 105, 110, 49]
def nmWin : List UInt8 := [119, 105, 110, 100, 111, 119, 115, 45, 49, 50, 53, 50]
def nmCp : List UInt8 := [99, 112, 49, 50, 53, 50]
def kindL (m : List UInt8) : Nat :=
  if m = nmUsAscii then 1 else if m = nmAscii then 1 else if m = nmUtf_8 then 2 else if m = nmUtf8 then 2 else if m = nmIso then 3 else if m = nmLatin1 then 3 else if m = nmWin then 4 else if m = nmCp then 4 else 0
def kind (l : List UInt8) : Nat := kindL (l.map lowerB)
def highT : List Nat := [8364, 129, 8218, 402, 8222, 8230, 8224, 8225, 710, 8240, 352, 8249, 338, 141, 381, 143, 144, 8216, 8217, 8220, 8221, 8226, 8211, 8212, 732, 8482, 353, 8250, 339, 157, 382, 376]
/-- The code point of a byte. -/
def sgn (k : Nat) (b : UInt8) : Nat :=
  if k = 1 then (if b.toNat < 128 then b.toNat else 65533) else if k = 3 then b.toNat else if b.toNat < 128 then b.toNat else if b.toNat < 160 then highT.getD (b.toNat - 128) 0 else b.toNat
def decodeS (name l : List UInt8) : List UInt8 := if kind name = 2 then repair l else encs (l.map (sgn (kind name)))
theorem highT_scal : ∀ c ∈ highT, scal c := by decide
theorem highT_get (i : Nat) (h : i < 32) : scal (highT.getD i 0) ∧ highT.getD i 0 ≤ 65535 := by
  have : ∀ i : Fin 32, scal (highT.getD i.val 0) ∧ highT.getD i.val 0 ≤ 65535 := by decide
  exact this ⟨i, h⟩
theorem sgn_scal (k : Nat) (b : UInt8) : scal (sgn k b) := by
  have hb := UInt8.toNat_lt b
  unfold sgn
  split
  · split
    · exact .inl (by omega)
    · exact scal_bad
  · split
    · exact .inl (by omega)
    · split
      · exact .inl (by omega)
      · split
        · exact (highT_get _ (by omega)).1
        · exact .inl (by omega)
theorem sgn_low (k : Nat) (b : UInt8) (h : b.toNat < 128) : sgn k b = b.toNat := by
  unfold sgn
  simp [h]
theorem kind_le (l : List UInt8) : kind l ≤ 4 := by
  unfold kind kindL
  repeat' split
  all_goals omega
theorem decodeS_len (name l : List UInt8) : (decodeS name l).length ≤ 4 * l.length := by
  unfold decodeS
  split
  · have := repair_len l; omega
  · have := (encs_len (l.map (sgn (kind name)))).2
    rw [List.length_map] at this; exact this
theorem decodeS_valid (name l : List UInt8) : validD (decodeS name l) = true := by
  unfold decodeS
  split
  · exact repair_valid l
  · exact valid_encs' _ fun c hc => by
      obtain ⟨b, _, rfl⟩ := List.mem_map.1 hc
      exact sgn_scal _ b
theorem runes_sgn (k : Nat) (l : List UInt8) : runes (encs (l.map (sgn k))) = l.map (sgn k) := runes_encs' _ fun c hc => by
  obtain ⟨b, _, rfl⟩ := List.mem_map.1 hc
  exact sgn_scal _ b
theorem encs_low (l : List UInt8) (h : ∀ b ∈ l, b.toNat < 128) : encs (l.map UInt8.toNat) = l := by
  induction l with
  | nil => rfl
  | cons b t ih =>
    rw [List.map_cons, encs_cons, ih fun x hx => h x (by simp [hx]), enc_of1 (h b (by simp)) rfl]; rfl
theorem runes_low (l : List UInt8) (h : ∀ b ∈ l, b.toNat < 128) : runes l = l.map UInt8.toNat := by
  have e := encs_low l h
  have := runes_encs' (l.map UInt8.toNat) (fun c hc => by
    obtain ⟨b, hb, rfl⟩ := List.mem_map.1 hc
    exact .inl (by have := h b hb; omega))
  rwa [e] at this
theorem decodeS_low (name l : List UInt8) (h : ∀ b ∈ l, b.toNat < 128) : decodeS name l = l := by
  unfold decodeS
  split
  · unfold repair; rw [runes_low l h, encs_low l h]
  · have : l.map (sgn (kind name)) = l.map UInt8.toNat := List.map_congr_left fun b hb => sgn_low _ b (h b hb)
    rw [this, encs_low l h]
end Go.Cs

namespace Go.Cs
open Go.Lib
set_option linter.unusedVariables false
theorem b2 (x : Nat) (y : Int) (h : (x : Int) = y) : UInt8.ofNat x = y.toNat.toUInt8 := by subst h; rfl
set_option maxHeartbeats 1000000 in
/-- The model's encoding and the shelf's are one. -/
theorem encode_str (r : Int) : Utf8.encode r = str (encodeRune r) := by
  unfold str encodeRune
  by_cases hv : (0 ≤ r ∧ r < 55296) ∨ (57344 ≤ r ∧ r ≤ 1114111)
  · have hv' : Utf8.valid r = true := by unfold Utf8.valid; simp; omega
    unfold Utf8.encode
    rw [if_pos hv']
    dsimp only
    by_cases h1 : r ≤ 127
    · rw [if_pos (by omega), encodeRuneZ_one (by omega) h1]; rfl
    by_cases h2 : r ≤ 2047
    · rw [if_neg (by omega), if_pos (by omega), encodeRuneZ_two (by omega) h2]
      simp only [List.map_cons, List.map_nil]
      rw [b2 (192 + r.toNat / 64) (192 + r / 64) (by omega), b2 (128 + r.toNat % 64) (128 + r % 64) (by omega)]
    by_cases h3 : r ≤ 65535
    · rw [if_neg (by omega), if_neg (by omega), if_pos (by omega), encodeRuneZ_three (by omega)]
      simp only [List.map_cons, List.map_nil]
      rw [b2 (224 + r.toNat / 4096) (224 + r / 4096) (by omega), b2 (128 + r.toNat / 64 % 64) (128 + r / 64 % 64) (by omega), b2 (128 + r.toNat % 64) (128 + r % 64) (by omega)]
    · rw [if_neg (by omega), if_neg (by omega), if_neg (by omega), encodeRuneZ_four (by omega) (by omega)]
      simp only [List.map_cons, List.map_nil]
      rw [b2 (240 + r.toNat / 262144) (240 + r / 262144) (by omega), b2 (128 + r.toNat / 4096 % 64) (128 + r / 4096 % 64) (by omega), b2 (128 + r.toNat / 64 % 64) (128 + r / 64 % 64) (by omega), b2 (128 + r.toNat % 64) (128 + r % 64) (by omega)]
  · have hv' : Utf8.valid r = false := by unfold Utf8.valid; simp; omega
    unfold Utf8.encode
    rw [hv', encodeRuneZ_bad (by omega)]
    simp only [Bool.false_eq_true, if_false]
    decide +kernel
theorem empty_iff (s : ByteArray) : s = ⟨#[]⟩ ↔ s.size = 0 := by
  constructor
  · intro h; rw [h]; rfl
  · intro h
    rw [← str_L s]
    have : L s = [] := List.eq_nil_of_length_eq_zero (by rw [L_len]; exact h)
    rw [this]; rfl
theorem take_byte (s : ByteArray) (n : Nat) (h : n < s.size) : ∃ x : UInt8, s.data.toList.getD n 0 = x ∧ (L s)[n]? = some x ∧ (L s).take (n + 1) = (L s).take n ++ [x] ∧ (L s).drop n = x :: (L s).drop (n + 1) := by
  have hl := L_len s
  have hn : n < (L s).length := by omega
  refine ⟨(L s)[n], ?_, List.getElem?_eq_getElem hn, ?_, ?_⟩
  · show (L s).getD n 0 = _; rw [List.getD, List.getElem?_eq_getElem hn]; rfl
  · rw [List.take_add_one, List.getElem?_eq_getElem hn]; rfl
  · rw [List.drop_eq_getElem_cons hn]
end Go.Cs

namespace Go.Cs
open Go.Lib
set_option linter.unusedVariables false
/-! ### Classes, lower case, words: plain -/
/-- The class of a code point. -/
def kindN (r : Nat) : Nat :=
  if 1114111 < r then 0
  else if r < 192 then (if 48 ≤ r ∧ r ≤ 57 then 1 else if 65 ≤ r ∧ r ≤ 90 then 1 else if 97 ≤ r ∧ r ≤ 122 then 1 else 0)
  else if r = 215 then 0 else if r = 247 then 0 else if 8192 ≤ r ∧ r ≤ 11263 then 0 else if 11904 ≤ r ∧ r ≤ 12255 then 2 else if 12288 ≤ r ∧ r ≤ 12351 then 0
  else if 12353 ≤ r ∧ r ≤ 12543 then 2 else if 12549 ≤ r ∧ r ≤ 12591 then 2 else if 12593 ≤ r ∧ r ≤ 12686 then 2 else if 13312 ≤ r ∧ r ≤ 19903 then 2 else if 19968 ≤ r ∧ r ≤ 40959 then 2
  else if 44032 ≤ r ∧ r ≤ 55203 then 2 else if 55296 ≤ r ∧ r ≤ 63743 then 0 else if 63744 ≤ r ∧ r ≤ 64255 then 2 else if 65024 ≤ r ∧ r ≤ 65039 then 0 else if 65072 ≤ r ∧ r ≤ 65135 then 0
  else if 65280 ≤ r ∧ r ≤ 65295 then 0 else if 65520 ≤ r ∧ r ≤ 65535 then 0 else if 126976 ≤ r ∧ r ≤ 129791 then 0 else if 131072 ≤ r ∧ r ≤ 262143 then 2 else 1
def kindI (r : Int) : Nat := if r < 0 then 0 else kindN r.toNat
/-- The lower case of a code point. -/
def lowC (r : Nat) : Nat :=
  if 65 ≤ r ∧ r ≤ 90 then r + 32 else if 192 ≤ r ∧ r ≤ 214 then r + 32 else if 216 ≤ r ∧ r ≤ 222 then r + 32
  else if 256 ≤ r ∧ r ≤ 303 then (if r % 2 = 0 then r + 1 else r) else if 306 ≤ r ∧ r ≤ 311 then (if r % 2 = 0 then r + 1 else r)
  else if 313 ≤ r ∧ r ≤ 328 then (if r % 2 = 1 then r + 1 else r) else if 330 ≤ r ∧ r ≤ 375 then (if r % 2 = 0 then r + 1 else r)
  else if r = 376 then 255 else if 377 ≤ r ∧ r ≤ 382 then (if r % 2 = 1 then r + 1 else r)
  else if r = 902 then 940 else if 904 ≤ r ∧ r ≤ 906 then r + 37 else if r = 908 then 972 else if 910 ≤ r ∧ r ≤ 911 then r + 63
  else if 913 ≤ r ∧ r ≤ 929 then r + 32 else if 931 ≤ r ∧ r ≤ 939 then r + 32 else if 1024 ≤ r ∧ r ≤ 1039 then r + 80 else if 1040 ≤ r ∧ r ≤ 1071 then r + 32 else r
theorem low_big (r : Nat) (h : 1072 ≤ r) : lowC r = r := by
  unfold lowC
  rw [if_neg (by omega), if_neg (by omega), if_neg (by omega), if_neg (by omega), if_neg (by omega), if_neg (by omega), if_neg (by omega), if_neg (by omega), if_neg (by omega), if_neg (by omega), if_neg (by omega), if_neg (by omega), if_neg (by omega), if_neg (by omega), if_neg (by omega), if_neg (by omega), if_neg (by omega)]
set_option maxRecDepth 100000 in
theorem low_small : ∀ r : Fin 1104, kindN (lowC r.val) = kindN r.val ∧ lowC (lowC r.val) = lowC r.val ∧ (enc (lowC r.val)).length = (enc r.val).length ∧ lowC r.val ≤ 1119 := by decide +kernel
theorem low_kind (r : Nat) : kindN (lowC r) = kindN r := by
  by_cases h : r < 1104
  · exact (low_small ⟨r, h⟩).1
  · rw [low_big r (by omega)]
theorem low_low (r : Nat) : lowC (lowC r) = lowC r := by
  by_cases h : r < 1104
  · exact (low_small ⟨r, h⟩).2.1
  · rw [low_big r (by omega), low_big r (by omega)]
theorem low_len (r : Nat) : (enc (lowC r)).length = (enc r).length := by
  by_cases h : r < 1104
  · exact (low_small ⟨r, h⟩).2.2.1
  · rw [low_big r (by omega)]
theorem low_scal (r : Nat) (h : scal r) : scal (lowC r) := by
  by_cases h' : r < 1104
  · have := (low_small ⟨r, h'⟩).2.2.2
    exact .inl (by simp only at this; omega)
  · rw [low_big r (by omega)]; exact h
theorem low_le (r : Nat) (h : r ≤ 1114111) : lowC r ≤ 1114111 := by
  by_cases h' : r < 1104
  · have := (low_small ⟨r, h'⟩).2.2.2
    simp only at this; omega
  · rw [low_big r (by omega)]; exact h
theorem low_bad : lowC 65533 = 65533 := low_big _ (by omega)
theorem low_ne_bad (r : Nat) (h : r ≠ 65533) : lowC r ≠ 65533 := by
  by_cases h' : r < 1104
  · have := (low_small ⟨r, h'⟩).2.2.2
    simp only at this; omega
  · rw [low_big r (by omega)]; exact h
theorem ite_le2 {c : Prop} [Decidable c] {a b : Nat} (h1 : a ≤ 2) (h2 : b ≤ 2) : (if c then a else b) ≤ 2 := by split <;> assumption
theorem kind_le2 (r : Nat) : kindN r ≤ 2 := by
  unfold kindN
  repeat (first | decide | refine ite_le2 ?_ ?_)
/-- The class of a step of the decoder. -/
def clsN (p : Nat × Nat) : Nat := if p.1 = 65533 then 0 else kindN p.1
theorem kind_bad : kindN 65533 = 0 := by decide
theorem clsN_eq (p : Nat × Nat) : clsN p = kindN p.1 := by
  unfold clsN
  split
  · rename_i h; rw [h, kind_bad]
  · rfl
/-- The steps of a text: class and width. -/
def usF : Nat → List UInt8 → List (Nat × Nat)
  | 0, _ => []
  | _ + 1, [] => []
  | n + 1, b :: t => (clsN (decodeL (b :: t)), (decodeL (b :: t)).2) :: usF n ((b :: t).drop (decodeL (b :: t)).2)
def us (l : List UInt8) : List (Nat × Nat) := usF l.length l
theorem usF_fuel : ∀ (n m : Nat) (l : List UInt8), l.length ≤ n → l.length ≤ m → usF n l = usF m l
  | 0, m, l, hn, _ => by
    have : l = [] := List.eq_nil_of_length_eq_zero (by omega)
    subst this
    cases m <;> rfl
  | n + 1, 0, l, _, hm => by
    have : l = [] := List.eq_nil_of_length_eq_zero (by omega)
    subst this; rfl
  | n + 1, m + 1, [], _, _ => rfl
  | n + 1, m + 1, b :: t, hn, hm => by
    have hw := decodeL_width (b :: t)
    simp only [usF]
    rw [usF_fuel n m _ (by rw [List.length_drop]; omega) (by rw [List.length_drop]; omega)]
theorem us_nil : us [] = [] := rfl
theorem us_step (l : List UInt8) (hne : l ≠ []) : us l = (clsN (decodeL l), (decodeL l).2) :: us (l.drop (decodeL l).2) := by
  obtain ⟨b, t, rfl⟩ := List.exists_cons_of_ne_nil hne
  have hw := decodeL_width (b :: t)
  show (clsN (decodeL (b :: t)), (decodeL (b :: t)).2) :: usF t.length _ = _
  rw [usF_fuel t.length ((b :: t).drop (decodeL (b :: t)).2).length _ (by rw [List.length_drop, List.length_cons]; omega) (Nat.le_refl _)]
  rfl
/-- A text in lower case. -/
def foldF : Nat → List UInt8 → List UInt8
  | 0, _ => []
  | _ + 1, [] => []
  | n + 1, b :: t => (if (decodeL (b :: t)).1 = 65533 ∧ (decodeL (b :: t)).2 = 1 then [b] else enc (lowC (decodeL (b :: t)).1)) ++ foldF n ((b :: t).drop (decodeL (b :: t)).2)
def foldL (l : List UInt8) : List UInt8 := foldF l.length l
theorem foldF_fuel : ∀ (n m : Nat) (l : List UInt8), l.length ≤ n → l.length ≤ m → foldF n l = foldF m l
  | 0, m, l, hn, _ => by
    have : l = [] := List.eq_nil_of_length_eq_zero (by omega)
    subst this
    cases m <;> rfl
  | n + 1, 0, l, _, hm => by
    have : l = [] := List.eq_nil_of_length_eq_zero (by omega)
    subst this; rfl
  | n + 1, m + 1, [], _, _ => rfl
  | n + 1, m + 1, b :: t, hn, hm => by
    have hw := decodeL_width (b :: t)
    simp only [foldF]
    rw [foldF_fuel n m _ (by rw [List.length_drop]; omega) (by rw [List.length_drop]; omega)]
/-- What the first step of a text becomes. -/
def head1 (l : List UInt8) : List UInt8 := if (decodeL l).1 = 65533 ∧ (decodeL l).2 = 1 then [l.getD 0 0] else enc (lowC (decodeL l).1)
theorem foldL_nil : foldL [] = [] := rfl
theorem foldL_step (l : List UInt8) (hne : l ≠ []) : foldL l = head1 l ++ foldL (l.drop (decodeL l).2) := by
  obtain ⟨b, t, rfl⟩ := List.exists_cons_of_ne_nil hne
  have hw := decodeL_width (b :: t)
  show (if (decodeL (b :: t)).1 = 65533 ∧ (decodeL (b :: t)).2 = 1 then [b] else enc (lowC (decodeL (b :: t)).1)) ++ foldF t.length _ = _
  rw [foldF_fuel t.length ((b :: t).drop (decodeL (b :: t)).2).length _ (by rw [List.length_drop, List.length_cons]; omega) (Nat.le_refl _)]
  rfl
def close (f : Option Nat) (at_ : Nat) : List (Nat × Nat) := match f with | none => [] | some a => [(a, at_)]
/-- The words' places. -/
def wd : List (Nat × Nat) → Nat → Option Nat → List (Nat × Nat)
  | [], p, f => close f p
  | (k, n) :: r, p, f =>
    if k = 0 then close f p ++ wd r (p + n) none
    else if k = 2 then close f p ++ (p, p + n) :: wd r (p + n) none
    else match f with
      | some a => if 40 < p + n - a then (a, p) :: wd r (p + n) (some p) else wd r (p + n) (some a)
      | none => wd r (p + n) (some p)
def cutL (l : List UInt8) (p : Nat × Nat) : List UInt8 := (l.take p.2).drop p.1
def wordsL (l : List UInt8) : List (List UInt8 × Nat × Nat) := (wd (us l) 0 none).map fun p => (foldL (cutL l p), p.1, p.2)
end Go.Cs
