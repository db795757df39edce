/- Helper lemmas that the proved statement rests on; no conditions of their own. -/
import Derived.Shelf.Strings.BuilderK
import Derived.Shelf.Strings.BuilderRune
import Derived.Shelf.Strings.Prefix
import Derived.Shelf.Small.Utf8
import Derived.Shelf.Unicode.DecodeAny
import Derived.Shelf.Unicode.ValidAny
import Derived.Laws.RangeString
import Derived.Test.YtennokckmjcefaaGreatDoorGRowP
set_option linter.unusedVariables false
set_option maxHeartbeats 1000000
set_option maxRecDepth 100000
namespace Go.Proofs.YtennokckmjcefaaGreatDoor
open Go.Shelf Go.RowKit Go.Pw Go.Vc Go.Cs Go.Lib
def ren118 : Go.Shelf.Ren := ⟨fun | 118 => 148 | n => n, fun | 3 => 3 | 4 => 4 | 5 => 5 | 21 => 21 | n => n, fun | n => n⟩
theorem lays118 : Go.Proofs.Lays.n118 Tryz.prog ren118 := {
 mixed := by kernel_rfl
 f118 := Tryz.func148.trans (congrArg some (by kernel_rfl))
 t3 := Tryz.underlying3
 a3 := Tryz.isAgg3
 z3 := Tryz.sizeOf3
 v3 := Tryz.zeroValue3
 t4 := Tryz.underlying4
 a4 := Tryz.isAgg4
 z4 := Tryz.sizeOf4
 v4 := Tryz.zeroValue4
 t21 := Tryz.underlying21
 a21 := Tryz.isAgg21
 z21 := Tryz.sizeOf21
 v21 := Tryz.zeroValue21 }
def ren166 : Go.Shelf.Ren := ⟨fun | 166 => 66 | 240 => 122 | 276 => 174 | n => n, fun | 0 => 0 | 3 => 3 | 4 => 4 | 5 => 5 | 9 => 9 | 20 => 20 | 37 => 91 | 70 => 90 | 72 => 93 | 75 => 95 | 80 => 29 | 164 => 191 | n => n, fun | n => n⟩
theorem lays166 : Go.Proofs.Lays.n166 Tryz.prog ren166 := {
 mixed := by kernel_rfl
 f166 := Tryz.func66.trans (congrArg some (by kernel_rfl))
 f240 := Tryz.func122.trans (congrArg some (by kernel_rfl))
 f276 := Tryz.func174.trans (congrArg some (by kernel_rfl))
 t0 := Tryz.underlying0
 a0 := Tryz.isAgg0
 z0 := Tryz.sizeOf0
 v0 := Tryz.zeroValue0
 t3 := Tryz.underlying3
 a3 := Tryz.isAgg3
 z3 := Tryz.sizeOf3
 v3 := Tryz.zeroValue3
 t4 := Tryz.underlying4
 a4 := Tryz.isAgg4
 z4 := Tryz.sizeOf4
 v4 := Tryz.zeroValue4
 t9 := Tryz.underlying9
 a9 := Tryz.isAgg9
 z9 := Tryz.sizeOf9
 v9 := Tryz.zeroValue9
 t20 := Tryz.underlying20
 a20 := Tryz.isAgg20
 z20 := Tryz.sizeOf20
 v20 := Tryz.zeroValue20
 t37 := Tryz.underlying91
 a37 := Tryz.isAgg91
 z37 := Tryz.sizeOf91
 v37 := Tryz.zeroValue91
 t70 := Tryz.underlying90
 a70 := Tryz.isAgg90
 z70 := Tryz.sizeOf90
 v70 := Tryz.zeroValue90
 t72 := Tryz.underlying93
 a72 := Tryz.isAgg93
 z72 := Tryz.sizeOf93
 v72 := Tryz.zeroValue93
 t75 := Tryz.underlying95
 a75 := Tryz.isAgg95
 z75 := Tryz.sizeOf95
 v75 := Tryz.zeroValue95
 t164 := Tryz.underlying191
 a164 := Tryz.isAgg191
 z164 := Tryz.sizeOf191
 v164 := Tryz.zeroValue191 }
def ren167 : Go.Shelf.Ren := ⟨fun | 167 => 123 | 240 => 122 | 276 => 174 | n => n, fun | 0 => 0 | 4 => 4 | 5 => 5 | 9 => 9 | 20 => 20 | 37 => 91 | 70 => 90 | 72 => 93 | 75 => 95 | 80 => 29 | 164 => 191 | n => n, fun | n => n⟩
theorem lays167 : Go.Proofs.Lays.n167 Tryz.prog ren167 := {
 mixed := by kernel_rfl
 f167 := Tryz.func123.trans (congrArg some (by kernel_rfl))
 f240 := Tryz.func122.trans (congrArg some (by kernel_rfl))
 f276 := Tryz.func174.trans (congrArg some (by kernel_rfl))
 t0 := Tryz.underlying0
 a0 := Tryz.isAgg0
 z0 := Tryz.sizeOf0
 v0 := Tryz.zeroValue0
 t4 := Tryz.underlying4
 a4 := Tryz.isAgg4
 z4 := Tryz.sizeOf4
 v4 := Tryz.zeroValue4
 t5 := Tryz.underlying5
 a5 := Tryz.isAgg5
 z5 := Tryz.sizeOf5
 v5 := Tryz.zeroValue5
 t9 := Tryz.underlying9
 a9 := Tryz.isAgg9
 z9 := Tryz.sizeOf9
 v9 := Tryz.zeroValue9
 t20 := Tryz.underlying20
 a20 := Tryz.isAgg20
 z20 := Tryz.sizeOf20
 v20 := Tryz.zeroValue20
 t37 := Tryz.underlying91
 a37 := Tryz.isAgg91
 z37 := Tryz.sizeOf91
 v37 := Tryz.zeroValue91
 t70 := Tryz.underlying90
 a70 := Tryz.isAgg90
 z70 := Tryz.sizeOf90
 v70 := Tryz.zeroValue90
 t72 := Tryz.underlying93
 a72 := Tryz.isAgg93
 z72 := Tryz.sizeOf93
 v72 := Tryz.zeroValue93
 t75 := Tryz.underlying95
 a75 := Tryz.isAgg95
 z75 := Tryz.sizeOf95
 v75 := Tryz.zeroValue95
 t164 := Tryz.underlying191
 a164 := Tryz.isAgg191
 z164 := Tryz.sizeOf191
 v164 := Tryz.zeroValue191 }
def ren168 : Go.Shelf.Ren := ⟨fun | 168 => 212 | 240 => 122 | 242 => 248 | 276 => 174 | 278 => 261 | n => n, fun | 0 => 0 | 3 => 3 | 4 => 4 | 5 => 5 | 9 => 9 | 20 => 20 | 21 => 21 | 37 => 91 | 46 => 153 | 51 => 204 | 70 => 90 | 72 => 93 | 75 => 95 | 80 => 29 | 164 => 191 | n => n, fun | n => n⟩
theorem lays168 : Go.Proofs.Lays.n168 Tryz.prog ren168 := {
 mixed := by kernel_rfl
 f168 := Tryz.func212.trans (congrArg some (by kernel_rfl))
 f240 := Tryz.func122.trans (congrArg some (by kernel_rfl))
 f242 := Tryz.func248.trans (congrArg some (by kernel_rfl))
 f276 := Tryz.func174.trans (congrArg some (by kernel_rfl))
 f278 := Tryz.func261.trans (congrArg some (by kernel_rfl))
 t0 := Tryz.underlying0
 a0 := Tryz.isAgg0
 z0 := Tryz.sizeOf0
 v0 := Tryz.zeroValue0
 t3 := Tryz.underlying3
 a3 := Tryz.isAgg3
 z3 := Tryz.sizeOf3
 v3 := Tryz.zeroValue3
 t4 := Tryz.underlying4
 a4 := Tryz.isAgg4
 z4 := Tryz.sizeOf4
 v4 := Tryz.zeroValue4
 t5 := Tryz.underlying5
 a5 := Tryz.isAgg5
 z5 := Tryz.sizeOf5
 v5 := Tryz.zeroValue5
 t9 := Tryz.underlying9
 a9 := Tryz.isAgg9
 z9 := Tryz.sizeOf9
 v9 := Tryz.zeroValue9
 t20 := Tryz.underlying20
 a20 := Tryz.isAgg20
 z20 := Tryz.sizeOf20
 v20 := Tryz.zeroValue20
 t21 := Tryz.underlying21
 a21 := Tryz.isAgg21
 z21 := Tryz.sizeOf21
 v21 := Tryz.zeroValue21
 t37 := Tryz.underlying91
 a37 := Tryz.isAgg91
 z37 := Tryz.sizeOf91
 v37 := Tryz.zeroValue91
 t46 := Tryz.underlying153
 a46 := Tryz.isAgg153
 z46 := Tryz.sizeOf153
 v46 := Tryz.zeroValue153
 t51 := Tryz.underlying204
 a51 := Tryz.isAgg204
 z51 := Tryz.sizeOf204
 v51 := Tryz.zeroValue204
 t70 := Tryz.underlying90
 a70 := Tryz.isAgg90
 z70 := Tryz.sizeOf90
 v70 := Tryz.zeroValue90
 t72 := Tryz.underlying93
 a72 := Tryz.isAgg93
 z72 := Tryz.sizeOf93
 v72 := Tryz.zeroValue93
 t75 := Tryz.underlying95
 a75 := Tryz.isAgg95
 z75 := Tryz.sizeOf95
 v75 := Tryz.zeroValue95
 t164 := Tryz.underlying191
 a164 := Tryz.isAgg191
 z164 := Tryz.sizeOf191
 v164 := Tryz.zeroValue191 }
def ren169 : Go.Shelf.Ren := ⟨fun | 169 => 71 | n => n, fun | 0 => 0 | 3 => 3 | 5 => 5 | 9 => 9 | 37 => 91 | 70 => 90 | 72 => 93 | 127 => 148 | n => n, fun | n => n⟩
theorem lays169 : Go.Proofs.Lays.n169 Tryz.prog ren169 := {
 mixed := by kernel_rfl
 f169 := Tryz.func71.trans (congrArg some (by kernel_rfl))
 t0 := Tryz.underlying0
 a0 := Tryz.isAgg0
 z0 := Tryz.sizeOf0
 v0 := Tryz.zeroValue0
 t3 := Tryz.underlying3
 a3 := Tryz.isAgg3
 z3 := Tryz.sizeOf3
 v3 := Tryz.zeroValue3
 t9 := Tryz.underlying9
 a9 := Tryz.isAgg9
 z9 := Tryz.sizeOf9
 v9 := Tryz.zeroValue9
 t37 := Tryz.underlying91
 a37 := Tryz.isAgg91
 z37 := Tryz.sizeOf91
 v37 := Tryz.zeroValue91
 t70 := Tryz.underlying90
 a70 := Tryz.isAgg90
 z70 := Tryz.sizeOf90
 v70 := Tryz.zeroValue90
 t72 := Tryz.underlying93
 a72 := Tryz.isAgg93
 z72 := Tryz.sizeOf93
 v72 := Tryz.zeroValue93
 t127 := Tryz.underlying148
 a127 := Tryz.isAgg148
 z127 := Tryz.sizeOf148
 v127 := Tryz.zeroValue148 }
def ren99 : Go.Shelf.Ren := ⟨fun | 99 => 111 | 206 => 168 | n => n, fun | 3 => 3 | 4 => 4 | 5 => 5 | 9 => 9 | n => n, fun | n => n⟩
theorem lays99 : Go.Proofs.Lays.n99 Tryz.prog ren99 := {
 mixed := by kernel_rfl
 f99 := Tryz.func111.trans (congrArg some (by kernel_rfl))
 f206 := Tryz.func168.trans (congrArg some (by kernel_rfl))
 t3 := Tryz.underlying3
 a3 := Tryz.isAgg3
 z3 := Tryz.sizeOf3
 v3 := Tryz.zeroValue3
 t4 := Tryz.underlying4
 a4 := Tryz.isAgg4
 z4 := Tryz.sizeOf4
 v4 := Tryz.zeroValue4
 t9 := Tryz.underlying9
 a9 := Tryz.isAgg9
 z9 := Tryz.sizeOf9
 v9 := Tryz.zeroValue9 }
theorem ext166 : Builder.Extra Tryz.prog ren166 := {
 sizeBuilder := by kernel_rfl
 liesBuilder := by kernel_rfl
 t5 := Tryz.underlying5
 a5 := Tryz.isAgg5
 z5 := Tryz.sizeOf5
 v5 := Tryz.zeroValue5
 infoByte := by kernel_rfl
 cellsByte := by kernel_rfl
 sizeByte := by kernel_rfl
 neB5 := by decide }
theorem ext167 : Builder.Extra Tryz.prog ren167 := {
 sizeBuilder := by kernel_rfl
 liesBuilder := by kernel_rfl
 t5 := Tryz.underlying5
 a5 := Tryz.isAgg5
 z5 := Tryz.sizeOf5
 v5 := Tryz.zeroValue5
 infoByte := by kernel_rfl
 cellsByte := by kernel_rfl
 sizeByte := by kernel_rfl
 neB5 := by decide }
theorem ext168 : Builder.Extra Tryz.prog ren168 := {
 sizeBuilder := by kernel_rfl
 liesBuilder := by kernel_rfl
 t5 := Tryz.underlying5
 a5 := Tryz.isAgg5
 z5 := Tryz.sizeOf5
 v5 := Tryz.zeroValue5
 infoByte := by kernel_rfl
 cellsByte := by kernel_rfl
 sizeByte := by kernel_rfl
 neB5 := by decide }
theorem ext169 : Builder.Extra Tryz.prog ren169 := {
 sizeBuilder := by kernel_rfl
 liesBuilder := by kernel_rfl
 t5 := Tryz.underlying5
 a5 := Tryz.isAgg5
 z5 := Tryz.sizeOf5
 v5 := Tryz.zeroValue5
 infoByte := by kernel_rfl
 cellsByte := by kernel_rfl
 sizeByte := by kernel_rfl
 neB5 := by decide }
def Bld (w : World) (B b : Nat) (l : List UInt8) : Prop := IsBuilderF 93 5 B b (Go.Lib.byteCells l) w
theorem zlr (r : Int) (w : World) : Calls Tryz.prog 148 #[.int .i32 r] w fun e w' => e = .returned (.int .i64 (runeLen r)) ∧ w = w' :=
 (Any.utf8_RuneLen lays118 r w).mono fun e w' ⟨h1, h2⟩ => ⟨h1, h2.symm⟩
theorem zgs {B b : Nat} {l : List UInt8} (s : ByteArray) (w : World) (h : Bld w B b l) (hl : l.length + s.size ≤ 140737488355328) (hB : B ≤ w.heap.size) :
  Calls Tryz.prog 66 #[.pointer (some ⟨b, 0, none⟩), .string s] w fun e w' => e = .returned (.tuple #[.int .i64 s.size, .nilIface]) ∧ Bld w' B b (l ++ L s) ∧ Below B w w' ∧ OthersKept 5 (some b) w w' :=
 (Any.Builder_WriteString_k lays166 ext166 B b _ s w h (by rw [Go.Lib.byteCells_length]; exact hl) hB).mono fun e w' ⟨h1, h2, h3⟩ => ⟨h1, .inr (by rw [Go.Lib.byteCells_append]; exact h2), h3⟩
theorem zdh {B b : Nat} {l : List UInt8} (c : UInt8) (w : World) (h : Bld w B b l) (hl : l.length + 1 ≤ 140737488355328) (hB : B ≤ w.heap.size) :
  Calls Tryz.prog 123 #[.pointer (some ⟨b, 0, none⟩), .int .u8 c.toNat] w fun e w' => e = .returned .nilIface ∧ Bld w' B b (l ++ [c]) ∧ Below B w w' ∧ OthersKept 5 (some b) w w' :=
 (Any.Builder_WriteByte_k lays167 ext167 B b _ c.toNat w h (by rw [Go.Lib.byteCells_length]; exact hl) hB).mono fun e w' ⟨h1, h2, h3⟩ => ⟨h1, .inr (by rw [Go.Lib.byteCells_append]; exact h2), h3⟩
theorem zeZ {B b : Nat} {l : List UInt8} (r : Int) (h0 : -2147483648 ≤ r) (h1 : r ≤ 2147483647) (w : World) (h : Bld w B b l) (hl : l.length + 4 ≤ 140737488355328) (hB : B ≤ w.heap.size) :
  Calls Tryz.prog 212 #[.pointer (some ⟨b, 0, none⟩), .int .i32 r] w fun e w' => (∃ n, e = .returned (.tuple #[.int .i64 n, .nilIface])) ∧ Bld w' B b (l ++ encodeRune r) ∧ Below B w w' ∧ OthersKept 5 (some b) w w' :=
 (Any.Builder_WriteRune_k lays168 ext168 B b _ r h0 h1 w h (by rw [Go.Lib.byteCells_length]; exact hl) hB).mono fun e w' ⟨h1, h2, h3⟩ => ⟨⟨_, h1⟩, .inr (by rw [byteCells_append, byteCells_encodeRune]; exact h2), h3⟩
theorem zgB {B b : Nat} {l : List UInt8} (w : World) (h : Bld w B b l) (hB : B ≤ w.heap.size) :
  Calls Tryz.prog 71 #[.pointer (some ⟨b, 0, none⟩)] w fun e w' => e = .returned (.string (str l)) ∧ Bld w' B b l ∧ Below B w w' ∧ OthersKept 5 (some b) w w' :=
 Any.Builder_String_any_k lays169 ext169 B b l w h hB
theorem zio (w : World) (B : Nat) (hB : B ≤ w.heap.size) : Bld (w.alloc (.cells #[.pointer none, .slice none 0 0] 93)) B w.heap.size [] :=
 .inl ⟨hB, _, heap_alloc_new _ _, World.ownsRowF_of (World.ownsRow_nil _ _ _ _), by simp [Value.ownBlock]⟩
end Go.Proofs.YtennokckmjcefaaGreatDoor
namespace Go.Vc
open Go Go.Pw Go.RowKit
def Bs (w : World) (b : Nat) (l : List UInt8) : Prop := At w b 0 (Lib.byteCells l) ∧ ∀ j, j < l.length → w.frozen? ⟨b, 0 + j, none⟩ = false
theorem Bs.store {w : World} {b i : Nat} {l : List UInt8} (h : Bs w b l) (hi : i < l.length) (x : UInt8) : (∃ u, w.cell? ⟨b, 0 + i, none⟩ = some u) ∧ w.frozen? ⟨b, 0 + i, none⟩ = false ∧ Bs (w.setCell ⟨b, 0 + i, none⟩ (.int .u8 (x.toNat : Int))) b (l.set i x) := by
 have hc : w.cell? ⟨b, 0 + i, none⟩ = some (.int .u8 (l[i].toNat : Int)) := h.1 i _ (by simp [Lib.byteCells, hi])
 refine ⟨⟨_, hc⟩, h.2 i hi, fun j v hj => ?_, fun j hj => ?_⟩
 ·by_cases e : i = j
  ·subst e
   simp [Lib.byteCells, hi] at hj
   rw [ziQ hc, hj]
  ·have : (⟨b, 0 + i, none⟩ : Addr) ≠ ⟨b, 0 + j, none⟩ := fun e' => by injection e'; omega
   rw [World.cell?_setCell_other (h := this)]
   refine h.1 j v ?_
   simpa [Lib.byteCells, List.getElem?_set_ne e] using hj
 ·rw [World.frozen?_setCell]
  rw [List.length_set] at hj
  exact h.2 j hj
theorem Bs.cell {w : World} {b i : Nat} {l : List UInt8} (h : Bs w b l) (hi : i < l.length) : w.cell? ⟨b, 0 + i, none⟩ = some (.int .u8 (((l.getD i 0).toNat : Nat) : Int)) := h.1 i _ (by simp [Lib.byteCells, hi, List.getD])
theorem Bs.keep {w w' : World} {b : Nat} {l : List UInt8} {c : Nat → Prop} (h : Bs w b l) (k : Kp w w' c) (hb : b < w.heap.size) (hc : ¬ c b) : Bs w' b l :=
 ⟨fun i v hi => by rw [k.cell (p := ⟨b, 0 + i, none⟩) hb hc]; exact h.1 i v hi, fun j hj => by rw [k.frozen (p := ⟨b, 0 + j, none⟩) hb hc]; exact h.2 j hj⟩
theorem RunV.back {P : Program} {w : World} {src dst e : TypeId} {b cap : Nat} {l : List UInt8} {K : Value → World → Prop} (hs : P.underlying src = some (.slice e)) (he : P.underlying e = some (.int .u8)) (hd : P.underlying dst = some .string)
  (h : Bs w b l) (k : K (.string ⟨l.toArray⟩) w) : RunV P (convert src dst (.slice (some ⟨b, 0, none⟩) l.length cap)) w K :=
 ⟨_, _, run_convert_bytes_back w src dst e ⟨b, 0, none⟩ cap l hs he hd (fun j hj => by rw [zaS]; exact h.1 j _ (by simp [Lib.byteCells, hj])), k⟩
end Go.Vc
namespace Go.Vc
open Go
theorem ziR (i j : Nat) (h : i + j ≤ 1000000000000) : IntKind.i64.wrap ((IntKind.u64.wrap ((i : Int) + (j : Int))).fdiv (2 ^ min (Int.toNat 1) IntKind.u64.bits)) = (((i + j) / 2 : Nat) : Int) := by
 have h1 : IntKind.u64.wrap ((i : Int) + (j : Int)) = ((i + j : Nat) : Int) := by
  unfold IntKind.wrap; simp [IntKind.signed, IntKind.bits]; omega
 have h2 : (2 : Int) ^ min (Int.toNat 1) IntKind.u64.bits = 2 := by decide
 rw [h1, h2, Int.fdiv_eq_ediv_of_nonneg _ (by omega)]
 rw [zda _ (by omega)]
 omega
end Go.Vc
namespace Go.Proofs.YtennokckmjcefaaGreatDoor
open Go.RowKit Go.Pw Go.Vc Go.Cs Go.Lib
def spV (x : Int × Int × Int) : List Value := [.int .i64 x.1, .int .i64 x.2.1, .int .i64 x.2.2]
def CutTab (w : World) : Prop := ∃ b o c, w.cell? ⟨0, 0, none⟩ = some (.slice (some ⟨b, o, none⟩) 19 c) ∧ ∀ i, i < 19 → At w b (o + i * 3) (spV (cutSp i))
theorem zaG {w w' : World} {b o : Nat} {vs : List Value} (h : At w b o vs) (k : Kp w w' n_) : At w' b o vs := fun i v hi => by
 have := h i v hi
 rw [k.cell (zcE this) id]; exact this
theorem CutTab.keep {w w' : World} (h : CutTab w) (k : Kp w w' n_) : CutTab w' := by
 obtain ⟨b, o, c, h1, h2⟩ := h
 exact ⟨b, o, c, by rw [k.cell (zcE h1) id]; exact h1, fun i hi => zaG (h2 i hi) k⟩
section
variable {w : World}
theorem zlX (a b : Int) : Calls Tryz.prog 209 #[.int .i64 a, .int .i64 b] w fun e w' => e = .returned (.int .i64 (cmp3 a b)) ∧ w = w' := by
 have hn : ∀ (x : Int) (w : World), Calls Tryz.prog 189 #[.int .i64 x] w fun e w' => e = .returned (.bool false) ∧ w = w' := by
  intro x w
  refine zaa (args := [.int .i64 x]) Tryz.func189 rfl NL ?_; refine GW ?_
  exact ⟨zal (by simp), rfl⟩
 refine zaa (args := [.int .i64 a, .int .i64 b]) Tryz.func209 rfl NL ?_; refine GW ?_
 refine CallS.of (Tryz.call189 _ _) (hn a w) ?_
 rintro e w1 ⟨rfl, rfl⟩
 refine RT ?_
 refine CallS.of (Tryz.call189 _ _) (hn b w) ?_
 rintro e w1 ⟨rfl, rfl⟩
 refine RT ?_
 unfold cmp3
 by_cases h1 : a < b
 ·refine GO ?_
  exact ⟨by rw [if_pos h1], rfl⟩
 ·by_cases h2 : b < a
  ·refine GO ?_
   exact ⟨by rw [if_neg h1, if_pos h2], rfl⟩
  ·refine GO ?_
   exact ⟨by rw [if_neg h1, if_neg h2], rfl⟩
theorem zjZ (i : Nat) (hi : i < 19) (r : Int) : Calls Tryz.prog 215 #[.agg (spV (cutSp i)).toArray, .int .i64 r] w fun e w' => e = .returned (.int .i64 (cmpC i r)) ∧ Kp w w' n_ := by
 unfold cmpC spV
 generalize cutSp i = x
 obtain ⟨lo, hi', kd⟩ := x
 dsimp only
 refine zaa (args := [.agg #[.int .i64 lo, .int .i64 hi', .int .i64 kd], .int .i64 r]) Tryz.func215 rfl NL ?_; refine GW ?_
 have k0 : Kp w (w.alloc (.cells #[.int .i64 lo, .int .i64 hi', .int .i64 kd] 229)) n_ := (Kp.refl _ _).alloc _
 have hA := zcZ (heap_alloc_new w (.cells #[.int .i64 lo, .int .i64 hi', .int .i64 kd] 229))
 have c0 : (w.alloc (.cells #[.int .i64 lo, .int .i64 hi', .int .i64 kd] 229)).cell? ⟨w.heap.size, 0, none⟩ = some (.int .i64 lo) := hA 0 _ rfl
 have c1 : (w.alloc (.cells #[.int .i64 lo, .int .i64 hi', .int .i64 kd] 229)).cell? ⟨w.heap.size, 0 + 1, none⟩ = some (.int .i64 hi') := hA 1 _ rfl
 generalize w.alloc (.cells #[.int .i64 lo, .int .i64 hi', .int .i64 kd] 229) = w1 at *
 by_cases h1 : lo ≤ r
 ·by_cases h2 : r ≤ hi'
  ·refine GO ?_
   exact ⟨by rw [if_pos ⟨h1, h2⟩], k0⟩
  ·refine GO ?_
   refine CallS.of (Tryz.call209 _ _) (zlX lo r) ?_
   rintro e w2 ⟨rfl, rfl⟩
   refine RT ?_
   exact ⟨by rw [if_neg (by omega)], k0⟩
 ·refine GO ?_
  refine CallS.of (Tryz.call209 _ _) (zlX lo r) ?_
  rintro e w2 ⟨rfl, rfl⟩
  refine RT ?_
  exact ⟨by rw [if_neg (by omega)], k0⟩
theorem zrf (b o c : Nat) (hT : ∀ i, i < 19 → At w b (o + i * 3) (spV (cutSp i))) (r : Int) : Calls Tryz.prog 214 #[.slice (some ⟨b, o, none⟩) 19 c, .int .i64 r, .func (.func 215) #[] #[]] w fun e w' =>
  ∃ k, e = .returned (.tuple #[.int .i64 (k : Nat), .bool (decide (k < 19 ∧ cmpC k r = 0))]) ∧ Pos (fun i => cmpC i r) 19 k ∧ Kp w w' n_ := by
 refine zaa (args := [.slice (some ⟨b, o, none⟩) 19 c, .int .i64 r, .func (.func 215) #[] #[]]) Tryz.func214 rfl NL ?_; refine GW ?_
 refine Loop.intro (ι := Nat × Nat) (fun p => [(0, .slice (some ⟨b, o, none⟩) 19 c), (1, .int .i64 r), (2, .func (.func 215) #[] #[]), (8, .int .i64 19), (9, .int .i64 p.1), (10, .int .i64 p.2)])
  (fun p wr => Kp w wr n_ ∧ p.1 ≤ p.2 ∧ p.2 ≤ 19 ∧ (∀ m, m < p.1 → cmpC m r < 0) ∧ ∀ m, p.2 ≤ m → m < 19 → 0 ≤ cmpC m r) (fun p => p.2 - p.1) (0, 19) ⟨rfl, rfl, rfl, rfl, rfl, rfl, trivial⟩
  ⟨Kp.refl _ _, by omega, Nat.le_refl _, fun m hm => by omega, fun m h1 h2 => by omega⟩ ?_
 rintro ⟨i, j⟩ g wr ⟨hK, hij, hj, hlo, hhi⟩
 dsimp only at hij hj hlo hhi ⊢
 refine GW ?_
 by_cases hlt : i < j
 ·refine GO ?_
  rw [ziR i j (by omega)]
  have hm1 : i ≤ (i + j) / 2 := by omega
  have hm2 : (i + j) / 2 < j := by omega
  generalize (i + j) / 2 = h at *
  refine GO ?_
  refine Load.agg (spV (cutSp h)) (by rfl) (by rfl) (by rfl) (zaG (hT h (by omega)) hK) ?_
  refine GO ?_
  refine CallS.of (Tryz.call215 _ _) (zjZ h (by omega) r) ?_
  rintro e w1 ⟨rfl, k1⟩
  refine RT ?_
  by_cases hc : cmpC h r < 0
  ·refine GO ?_
   refine ⟨(h + 1, j), ⟨rfl, rfl, rfl, rfl, v_int (by simp), rfl, trivial⟩, ⟨hK.trans0 k1, by dsimp only; omega, hj, fun m hm => ?_, hhi⟩, by dsimp only; omega⟩
   by_cases e : m = h
   ·rw [e]; exact hc
   ·exact zhj m h (by dsimp only at hm; omega) (by omega) r hc
  ·refine GO ?_
   refine ⟨(i, h), ⟨rfl, rfl, rfl, rfl, rfl, rfl, trivial⟩, ⟨hK.trans0 k1, by dsimp only; omega, by dsimp only; omega, hlo, fun m m1 m2 => ?_⟩, by dsimp only; omega⟩
   dsimp only at m1
   by_cases e : m = h
   ·rw [e]; omega
   ·have hx : ¬ cmpC m r < 0 := fun hn => hc (zhj h m (by omega) m2 r hn)
    omega
 ·have hji : j = i := by omega
  subst hji
  have hpos : Pos (fun i => cmpC i r) 19 j := ⟨hj, hlo, hhi⟩
  by_cases h19 : j < 19
  ·refine GO ?_
   refine Load.agg (spV (cutSp j)) (by rfl) (by rfl) (by rfl) (zaG (hT j h19) hK) ?_
   refine GO ?_
   refine CallS.of (Tryz.call215 _ _) (zjZ j h19 r) ?_
   rintro e w1 ⟨rfl, k1⟩
   refine RT ?_
   refine GO ?_
   exact ⟨j, by rw [show decide (j < 19 ∧ cmpC j r = 0) = (cmpC j r == 0) by by_cases h0 : cmpC j r = 0 <;> simp [h0, h19]], hpos, hK.trans0 k1⟩
  ·refine GO ?_
   exact ⟨j, by rw [show decide (j < 19 ∧ cmpC j r = 0) = false by simp [h19]], hpos, hK⟩
end
end Go.Proofs.YtennokckmjcefaaGreatDoor
namespace Go.Vc
open Go Go.Pw Go.RowKit
theorem zgg (a b : ByteArray) : (a == b) = decide (a = b) := by
 obtain ⟨a⟩ := a
 obtain ⟨b⟩ := b
 have e : ((ByteArray.mk a == ByteArray.mk b) : Bool) = (a == b) := rfl
 rw [e]
 by_cases h : a = b <;> simp [h]
abbrev SM := List (ByteArray × Value)
def SM.get : SM → ByteArray → Option Value
 | [], _ => none
 | (s, v) :: r, k => if k = s then some v else SM.get r k
def SM.put : SM → ByteArray → Value → SM
 | [], k, x => [(k, x)]
 | (s, v) :: r, k, x => if k = s then (s, x) :: r else (s, v) :: SM.put r k x
def SM.del : SM → ByteArray → SM
 | [], _ => []
 | (s, v) :: r, k => if k = s then r else (s, v) :: SM.del r k
def entP (e : MapEntry) : Value × Value := (e.key, e.val)
def smP (p : ByteArray × Value) : Value × Value := (.string p.1, p.2)
def SMap (w : World) (b : Nat) (m : SM) : Prop := ∃ es clock, w.heap[b]? = some (.map es clock) ∧ es.toList.map entP = m.map smP
theorem findNow_str (k : ByteArray) : ∀ (es : List MapEntry) (m : SM) (i : Nat), es.map entP = m.map smP →
  (m.get k = none ∧ Instr.findNow .string (.string k) es i = some none ∧ (∀ x, m.put k x = m ++ [(k, x)]) ∧ m.del k = m) ∨
  ∃ v j, m.get k = some v ∧ j < es.length ∧ Instr.findNow .string (.string k) es i = some (some (i + j, v)) ∧ (es[j]?).map (·.key) = some (.string k) ∧ (∀ x, (es.modify j fun e => { e with key := .string k, val := x }).map entP = (m.put k x).map smP) ∧ (es.eraseIdx j).map entP = (m.del k).map smP
 | [], m, i, h => by
  have : m = [] := by cases m with | nil => rfl | cons a r => simp at h
  subst this
  exact .inl ⟨rfl, rfl, fun _ => rfl, rfl⟩
 | e :: es, [], i, h => by simp at h
 | e :: es, (s, v) :: r, i, h => by
  simp only [List.map_cons, List.cons.injEq] at h
  obtain ⟨h1, h2⟩ := h
  simp only [entP, smP, Prod.mk.injEq] at h1
  obtain ⟨h3, h4⟩ := h1
  by_cases hk : k = s
  ·right
   subst hk
   refine ⟨v, 0, by simp [SM.get], by simp, ?_, by simp [h3], fun x => ?_, ?_⟩
   ·simp [Instr.findNow, h3, Instr.sameNow, h4, zgg]
   ·simp [SM.put, entP, smP, h2]
   ·simp [SM.del, h2]
  ·rcases findNow_str k es r (i + 1) h2 with ⟨a1, a2, a3, a4⟩ | ⟨v', j, a1, a2, a3, a4, a5, a6⟩
   ·left
    refine ⟨by simp [SM.get, hk, a1], ?_, fun x => by simp [SM.put, hk, a3], by simp [SM.del, hk, a4]⟩
    simp [Instr.findNow, h3, Instr.sameNow, hk, a2, zgg]
   ·right
    refine ⟨v', j + 1, by simp [SM.get, hk, a1], Nat.succ_lt_succ a2, ?_, by simpa using a4, fun x => ?_, ?_⟩
    ·simp [Instr.findNow, h3, Instr.sameNow, hk, a3, zgg]; omega
    ·simp only [List.modify_succ_cons, List.map_cons, SM.put, if_neg hk, a5 x]
     simp [entP, smP, h3, h4]
    ·simp only [List.eraseIdx_cons_succ, List.map_cons, SM.del, if_neg hk, a6]
     simp [entP, smP, h3, h4]
section
variable {P : Program} {w : World} {b : Nat} {m : SM} {t kt et : TypeId} {K : Value → World → Prop}
theorem checkKey_str' (hk : P.underlying kt = some .string) (e : Bool) (s : ByteArray) (n : Nat) : (Instr.checkKey e (n + 1) kt (.string s)).run P w = .ok () w := by
 unfold Instr.checkKey
 simp [zat hk]
theorem zbm (hk : P.underlying kt = some .string) (e : Bool) (s : ByteArray) : (Instr.checkKey e 10000 kt (.string s)).run P w = .ok () w := checkKey_str' hk e s 9999
theorem RunV.look (ht : P.underlying t = some (.map kt et)) (hk : P.underlying kt = some .string) {z : Value} (hz : (zeroValue et).run P w = .ok z w) (h : SMap w b m) (s : ByteArray) (k : K ((m.get s).getD z) w) :
  RunV P (Instr.lookup t (.map (some b)) (.string s) false) w K := by
 obtain ⟨es, clock, hb, he⟩ := h
 refine ⟨_, w, ?_, k⟩
 rcases findNow_str s es.toList m 0 he with ⟨a1, a2, _⟩ | ⟨v, j, a1, a2, a3, _⟩
 ·simp [Instr.lookup, zat ht, getObj, Sem.run, hb, zbm hk, Instr.findKey, zat hk, a2, hz, a1]
 ·simp [Instr.lookup, zat ht, getObj, Sem.run, hb, zbm hk, Instr.findKey, zat hk, a3, a1]
def setO (w : World) (b : Nat) (o : Obj) : World := { w with heap := w.heap.set! b o }
theorem zcw (o : Obj) (hb : b < w.heap.size) : (setO w b o).heap[b]? = some o := by
 simp [setO, hb]
theorem zbf (o : Obj) : Kp w (setO w b o) (one_ b) :=
 ⟨rfl, rfl, rfl, by simp [setO], fun k hk hn => by
  have : b ≠ k := fun e => hn e.symm
  simp [setO, this]⟩
theorem RunU.upd {K : World → Prop} (ht : P.underlying t = some (.map kt et)) (hk : P.underlying kt = some .string) (h : SMap w b m) (s : ByteArray) (x : Value) (k : ∀ w', SMap w' b (m.put s x) → Kp w w' (one_ b) → K w') :
  RunU P (Instr.mapUpdate t (.map (some b)) (.string s) x) w K := by
 obtain ⟨es, clock, hb, he⟩ := h
 have hlt : b < w.heap.size := by
  rcases Nat.lt_or_ge b w.heap.size with h' | h'
  ·exact h'
  ·rw [Array.getElem?_eq_none h'] at hb; cases hb
 rcases findNow_str s es.toList m 0 he with ⟨a1, a2, a3, _⟩ | ⟨v, j, a1, a2, a3, a4, a5, _⟩
 ·refine ⟨setO w b (.map (es.push { key := .string s, val := x, born := clock }) (clock + 1)), ?_, k _ ⟨_, _, zcw _ hlt, ?_⟩ (zbf _)⟩
  ·simp [Instr.mapUpdate, zat ht, getObj, setObj, Sem.run, hb, zbm hk, Instr.findKey, zat hk, a2, setO]
  ·simp [a3, he, entP, smP]
 ·have e : (es.toList[j]?).map (·.key) = some (.string s) := a4
  have e2 : ((es[j]?).map (·.key)).getD (.string s) = .string s := by
   rw [← Array.getElem?_toList, e]; rfl
  refine ⟨setO w b (.map (es.modify j fun e => { e with key := .string s, val := x }) clock), ?_, k _ ⟨_, _, zcw _ hlt, ?_⟩ (zbf _)⟩
  ·simp [Instr.mapUpdate, zat ht, getObj, setObj, Sem.run, hb, zbm hk, Instr.findKey, zat hk, a3, setO, e2, Instr.keyThatStays, Instr.sameBits, zgg]
  ·rw [Array.toList_modify]; exact a5 x
end
end Go.Vc
namespace Go.Vc

end Go.Vc
namespace Go.Vc
open Go.Cs
end Go.Vc
namespace Go.Vc
open Go Go.Pw Go.RowKit Go.Cs Go.Lib
section
variable {P : Program} {w : World} {K : Value → World → Prop}
theorem RunV.rangeS {t : TypeId} {s : ByteArray} (h : P.underlying t = some .string) (k : K (.pointer (some ⟨w.heap.size, 0, none⟩)) (w.alloc (.stringIter s 0))) : RunV P (Instr.range t (.string s)) w K :=
 ⟨_, _, run_range_string w t s h, k⟩
theorem RunV.nextS {b pos : Nat} {s : ByteArray} {ty : TypeId} (h : w.heap[b]? = some (.stringIter s pos)) (hp : pos < s.size)
  (k : K (.tuple #[.bool true, .int .i64 (pos : Nat), .int .i32 ((decodeL ((L s).drop pos)).1 : Nat)]) (setO w b (.stringIter s (pos + (decodeL ((L s).drop pos)).2)))) :
  RunV P (Instr.next (.pointer (some ⟨b, 0, none⟩)) true ty) w K := by
 refine ⟨_, _, ?_, k⟩
 have e : Utf8.decode s pos = decodeL ((L s).drop pos) := (Lib.decodeL_drop s pos).symm
 simp only [Instr.next, getObj, setObj, Sem.run_bind, Sem.run, h, Result.andThen, hp, if_true, e]
 simp [goInt, setO]
theorem RunV.nextE {b pos : Nat} {s : ByteArray} {ty : TypeId} (h : w.heap[b]? = some (.stringIter s pos)) (hp : ¬ pos < s.size) (k : K (.tuple #[.bool false]) w) : RunV P (Instr.next (.pointer (some ⟨b, 0, none⟩)) true ty) w K := by
 refine ⟨_, _, ?_, k⟩
 simp [Instr.next, getObj, Sem.run, h, hp]
theorem zbn {b : Nat} {o : Obj} (h : w.heap[b]? = some o) : b < w.heap.size := by
 rcases Nat.lt_or_ge b w.heap.size with h' | h'
 ·exact h'
 ·rw [Array.getElem?_eq_none h'] at h; cases h
end
end Go.Vc
namespace Go.Proofs.YtennokckmjcefaaGreatDoor
open Go.RowKit Go.Pw Go.Vc Go.Cs Go.Lib
def spF (x : Int × Int × Int × Int) : List Value := [.int .i32 x.1, .int .i32 x.2.1, .int .i32 x.2.2.1, .int .i32 x.2.2.2]
def FoldTab (w : World) : Prop := ∃ b o c, w.cell? ⟨1, 0, none⟩ = some (.slice (some ⟨b, o, none⟩) 17 c) ∧ ∀ i, i < 17 → At w b (o + i * 4) (spF (foldSp i))
theorem FoldTab.keep {w w' : World} (h : FoldTab w) (k : Kp w w' n_) : FoldTab w' := by
 obtain ⟨b, o, c, h1, h2⟩ := h
 exact ⟨b, o, c, by rw [k.cell (zcE h1) id]; exact h1, fun i hi => zaG (h2 i hi) k⟩
section
variable {w : World}
theorem zmw (i : Nat) (hi : i < 17) (r : Int) : Calls Tryz.prog 250 #[.agg (spF (foldSp i)).toArray, .int .i32 r] w fun e w' => e = .returned (.int .i64 (cmpF i r)) ∧ Kp w w' n_ := by
 unfold cmpF spF
 generalize foldSp i = x
 obtain ⟨lo, hi', st, mo⟩ := x
 dsimp only
 refine zaa (args := [.agg #[.int .i32 lo, .int .i32 hi', .int .i32 st, .int .i32 mo], .int .i32 r]) Tryz.func250 rfl NL ?_; refine GW ?_
 have k0 : Kp w (w.alloc (.cells #[.int .i32 lo, .int .i32 hi', .int .i32 st, .int .i32 mo] 256)) n_ := (Kp.refl _ _).alloc _
 have hA := zcZ (heap_alloc_new w (.cells #[.int .i32 lo, .int .i32 hi', .int .i32 st, .int .i32 mo] 256))
 have c0 : (w.alloc (.cells #[.int .i32 lo, .int .i32 hi', .int .i32 st, .int .i32 mo] 256)).cell? ⟨w.heap.size, 0, none⟩ = some (.int .i32 lo) := hA 0 _ rfl
 have c1 : (w.alloc (.cells #[.int .i32 lo, .int .i32 hi', .int .i32 st, .int .i32 mo] 256)).cell? ⟨w.heap.size, 0 + 1, none⟩ = some (.int .i32 hi') := hA 1 _ rfl
 generalize w.alloc (.cells #[.int .i32 lo, .int .i32 hi', .int .i32 st, .int .i32 mo] 256) = w1 at *
 by_cases h1 : hi' < r
 ·refine GO ?_
  exact ⟨by rw [if_pos h1], k0⟩
 ·by_cases h2 : r < lo
  ·refine GO ?_
   exact ⟨by rw [if_neg h1, if_pos h2], k0⟩
  ·refine GO ?_
   exact ⟨by rw [if_neg h1, if_neg h2], k0⟩
theorem zpP (b o c : Nat) (hT : ∀ i, i < 17 → At w b (o + i * 4) (spF (foldSp i))) (r : Int) : Calls Tryz.prog 249 #[.slice (some ⟨b, o, none⟩) 17 c, .int .i32 r, .func (.func 250) #[] #[]] w fun e w' =>
  ∃ k, e = .returned (.tuple #[.int .i64 (k : Nat), .bool (decide (k < 17 ∧ cmpF k r = 0))]) ∧ Pos (fun i => cmpF i r) 17 k ∧ Kp w w' n_ := by
 refine zaa (args := [.slice (some ⟨b, o, none⟩) 17 c, .int .i32 r, .func (.func 250) #[] #[]]) Tryz.func249 rfl NL ?_; refine GW ?_
 refine Loop.intro (ι := Nat × Nat) (fun p => [(0, .slice (some ⟨b, o, none⟩) 17 c), (1, .int .i32 r), (2, .func (.func 250) #[] #[]), (8, .int .i64 17), (9, .int .i64 p.1), (10, .int .i64 p.2)])
  (fun p wr => Kp w wr n_ ∧ p.1 ≤ p.2 ∧ p.2 ≤ 17 ∧ (∀ m, m < p.1 → cmpF m r < 0) ∧ ∀ m, p.2 ≤ m → m < 17 → 0 ≤ cmpF m r) (fun p => p.2 - p.1) (0, 17) ⟨rfl, rfl, rfl, rfl, rfl, rfl, trivial⟩
  ⟨Kp.refl _ _, by omega, Nat.le_refl _, fun m hm => by omega, fun m h1 h2 => by omega⟩ ?_
 rintro ⟨i, j⟩ g wr ⟨hK, hij, hj, hlo, hhi⟩
 dsimp only at hij hj hlo hhi ⊢
 refine GW ?_
 by_cases hlt : i < j
 ·refine GO ?_
  rw [ziR i j (by omega)]
  have hm1 : i ≤ (i + j) / 2 := by omega
  have hm2 : (i + j) / 2 < j := by omega
  generalize (i + j) / 2 = h at *
  refine GO ?_
  refine Load.agg (spF (foldSp h)) (by rfl) (by rfl) (by rfl) (zaG (hT h (by omega)) hK) ?_
  refine GO ?_
  refine CallS.of (Tryz.call250 _ _) (zmw h (by omega) r) ?_
  rintro e w1 ⟨rfl, k1⟩
  refine RT ?_
  by_cases hc : cmpF h r < 0
  ·refine GO ?_
   refine ⟨(h + 1, j), ⟨rfl, rfl, rfl, rfl, v_int (by simp), rfl, trivial⟩, ⟨hK.trans0 k1, by dsimp only; omega, hj, fun m hm => ?_, hhi⟩, by dsimp only; omega⟩
   by_cases e : m = h
   ·rw [e]; exact hc
   ·exact zhG m h (by dsimp only at hm; omega) (by omega) r hc
  ·refine GO ?_
   refine ⟨(i, h), ⟨rfl, rfl, rfl, rfl, rfl, rfl, trivial⟩, ⟨hK.trans0 k1, by dsimp only; omega, by dsimp only; omega, hlo, fun m m1 m2 => ?_⟩, by dsimp only; omega⟩
   dsimp only at m1
   by_cases e : m = h
   ·rw [e]; omega
   ·have hx : ¬ cmpF m r < 0 := fun hn => hc (zhG h m (by omega) m2 r hn)
    omega
 ·have hji : j = i := by omega
  subst hji
  have hpos : Pos (fun i => cmpF i r) 17 j := ⟨hj, hlo, hhi⟩
  by_cases h17 : j < 17
  ·refine GO ?_
   refine Load.agg (spF (foldSp j)) (by rfl) (by rfl) (by rfl) (zaG (hT j h17) hK) ?_
   refine GO ?_
   refine CallS.of (Tryz.call250 _ _) (zmw j h17 r) ?_
   rintro e w1 ⟨rfl, k1⟩
   refine RT ?_
   refine GO ?_
   exact ⟨j, by rw [show decide (j < 17 ∧ cmpF j r = 0) = (cmpF j r == 0) by by_cases h0 : cmpF j r = 0 <;> simp [h0, h17]], hpos, hK.trans0 k1⟩
  ·refine GO ?_
   exact ⟨j, by rw [show decide (j < 17 ∧ cmpF j r = 0) = false by simp [h17]], hpos, hK⟩
theorem zgj (n : Nat) (hn : n ≤ 1114111) (hT : FoldTab w) : Calls Tryz.prog 213 #[.int .i32 (n : Int)] w fun e w' => e = .returned (.int .i32 ((lowC n : Nat) : Int)) ∧ Kp w w' n_ := by
 obtain ⟨b, o, c, hg, ht⟩ := hT
 refine zaa (args := [.int .i32 (n : Int)]) Tryz.func213 rfl NL ?_; refine GW ?_
 refine GO ?_
 refine CallS.of (Tryz.call249 _ _) (zpP b o c ht (n : Int)) ?_
 rintro e w1 ⟨k, rfl, hp, k1⟩
 refine RT ?_
 have hg1 := (k1.cell (p := ⟨1, 0, none⟩) (zcE hg) id).trans hg
 have hg2 : w1.drew.cell? ⟨1, 0, none⟩ = _ := hg1
 by_cases hf : k < 17 ∧ cmpF k (n : Int) = 0
 ·have hz := zlV k n hf.2
  have hl := zmC k hf.1 n hz
  have hft := zgl ⟨k, hf.1⟩
  simp only at hft
  have c0 : w1.drew.cell? ⟨b, o + k * 4, none⟩ = some (.int .i32 (foldSp k).1) := (zaG (ht k hf.1) k1) 0 _ rfl
  have c2 : w1.drew.cell? ⟨b, o + k * 4 + 2, none⟩ = some (.int .i32 (foldSp k).2.2.1) := (zaG (ht k hf.1) k1) 2 _ rfl
  have c3 : w1.drew.cell? ⟨b, o + k * 4 + 3, none⟩ = some (.int .i32 (foldSp k).2.2.2) := (zaG (ht k hf.1) k1) 3 _ rfl
  rw [decide_eq_true hf]
  have hs : (foldSp k).2.2.1 = 1 ∨ (foldSp k).2.2.1 = 2 := by omega
  generalize (foldSp k).1 = lo at *
  generalize (foldSp k).2.1 = hi at *
  generalize (foldSp k).2.2.1 = st at *
  generalize (foldSp k).2.2.2 = mo at *
  rcases hs with rfl | rfl
  ·refine GO ?_
   rw [Int.tmod_eq_emod_of_nonneg (by omega)]
   refine GO ?_
   exact ⟨by rw [hl, if_pos (by omega)], k1.drew⟩
  ·refine GO ?_
   rw [Int.tmod_eq_emod_of_nonneg (by omega)]
   by_cases hm : ((n : Int) - lo) % 2 = 0
   ·refine GO ?_
    exact ⟨by rw [hl, if_pos hm], k1.drew⟩
   ·refine GO ?_
    exact ⟨by rw [hl, if_neg hm], k1.drew⟩
 ·have hl := zqO n fun m hm => znV k n hp hf m hm
  rw [decide_eq_false hf]
  refine GO ?_
  exact ⟨by rw [hl], k1.drew⟩
theorem zol {B b bi p : Nat} {s : ByteArray} {l : List UInt8} {o : Obj} (h : Bld w B b l) (hi : w.heap[bi]? = some (.stringIter s p)) : Bld (setO w bi o) B b l := by
 have key : ∀ p', BuilderAtF 93 5 B b p' (Go.Lib.byteCells l) w → BuilderAtF 93 5 B b p' (Go.Lib.byteCells l) (setO w bi o) := by
  rintro p' ⟨hB, v, hb, hown, hne⟩
  have hbb : b ≠ bi := fun e => by subst e; rw [hi] at hb; cases hb
  refine ⟨hB, v, ?_, ?_, hne⟩
  ·rw [(zbf o).block b (zbn hb) (fun e => hbb e)]; exact hb
  ·refine hown.kept (row := some bi) ⟨rfl, rfl, rfl, by simp [setO], fun k hk hn => (zbf o).block k hk fun e => hn (congrArg some e)⟩ (Or.inr ?_)
   rcases hown.2 with ⟨rfl, _⟩ | ⟨g, cap, cur, fz, rfl, _, hg, _⟩
   ·simp [Value.ownBlock]
   ·intro e
    simp only [Value.ownBlock, Option.some.injEq] at e
    subst e
    rw [hi] at hg; cases hg
 rcases h with h | h
 ·exact .inl (key _ h)
 ·exact .inr (key _ h)
theorem zlD {b bi p : Nat} {s : ByteArray} {w' : World} (h : w.heap[bi]? = some (.stringIter s p)) (hk : OthersKept 5 (some b) w w') (hne : bi ≠ b) : w'.heap[bi]? = some (.stringIter s p) :=
 hk bi _ h (fun e => hne (by injection e)) fun c fz e => by cases e
theorem zet {B b : Nat} {l : List UInt8} {w' : World} (h : Bld w B b l) (k : Kp w w' n_) : Bld w' B b l := by
 have key : ∀ p', BuilderAtF 93 5 B b p' (Go.Lib.byteCells l) w → BuilderAtF 93 5 B b p' (Go.Lib.byteCells l) w' := by
  rintro p' ⟨hB, v, hb, hown, hne⟩
  refine ⟨hB, v, (k.block b (zbn hb) id).trans hb, ?_, hne⟩
  refine hown.kept (row := none) ⟨k.os, k.tape, k.output, k.size, fun i hi _ => k.block i hi id⟩ ?_
  cases v.ownBlock <;> simp
 rcases h with h | h
 ·exact .inl (key _ h)
 ·exact .inr (key _ h)
theorem zip (s p : ByteArray) (w : World) : Calls Tryz.prog 111 #[.string s, .string p] w fun e w' => e = .returned (.bool (hasPrefix (L s) (L p))) ∧ w = w' :=
 (Any.strings_HasPrefix lays99 s p w).mono fun e w' ⟨h1, h2⟩ => ⟨h1, h2.symm⟩
theorem ziW (s : ByteArray) (i : Nat) (hi : i < s.size) (hc : (decodeL ((L s).drop i)).1 = 65533) : hasPrefix (L (s.extract i s.size)) [239, 191, 189] = !decide ((decodeL ((L s).drop i)).2 = 1) := by
 rw [L_from]
 have hne : (L s).drop i ≠ [] := by
  rw [← L_from]; exact L_ne (by simp; omega)
 unfold hasPrefix
 generalize (L s).drop i = l at *
 rcases bad_or l hne with h | ⟨c, hs, hd, ht⟩
 ·rw [h]
  cases hp : List.isPrefixOf [239, 191, 189] l
  ·rfl
  ·exfalso
   obtain ⟨t, e⟩ := List.isPrefixOf_iff_prefix.1 hp
   have he : enc 65533 = [239, 191, 189] := by decide
   have := zdn l 65533 zke (by rw [he, ← e]; rfl)
   rw [h] at this
   exact zjn _ this
 ·rw [hd] at hc ⊢
  simp only at hc
  subst hc
  have he : enc 65533 = [239, 191, 189] := by decide
  rw [he] at ht ⊢
  have : List.isPrefixOf [239, 191, 189] l = true := by
   rw [List.isPrefixOf_iff_prefix, ← ht]; exact List.take_prefix _ _
  rw [this]; rfl
theorem zml (s : ByteArray) (hT : FoldTab w) (hs : s.size ≤ 100000000) : Calls Tryz.prog 147 #[.string s] w fun e w' => e = .returned (.string (str (foldL (L s)))) ∧ Kp w w' n_ := by
 have hl := L_len s
 refine zaa (args := [.string s]) Tryz.func147 rfl NL ?_; refine GW ?_
 have hb0 := zio w w.heap.size (Nat.le_refl _)
 have K0 : Kp w (w.alloc (.cells #[.pointer none, .slice none 0 0] 93)) n_ := (Kp.refl _ _).alloc _
 have hz0 : (w.alloc (.cells #[.pointer none, .slice none 0 0] 93)).heap.size = w.heap.size + 1 := by simp
 generalize w.alloc (.cells #[.pointer none, .slice none 0 0] 93) = w0 at *
 refine RunV.rangeS Tryz.underlying9 ?_
 refine GW ?_
 rw [hz0]
 have hi0 : (w0.alloc (.stringIter s 0)).heap[w.heap.size + 1]? = some (.stringIter s 0) := by rw [← hz0]; exact heap_alloc_new _ _
 have hb1 : Bld (w0.alloc (.stringIter s 0)) w.heap.size w.heap.size [] := by
  rcases hb0 with h | h
  ·exact .inl (h.alloc _)
  ·exact .inr (h.alloc _)
 have K1 := K0.alloc (.stringIter s 0)
 generalize w0.alloc (.stringIter s 0) = w1 at *
 refine Loop.intro (ι := Nat × List UInt8) (fun i => [(0, .string s), (3, .pointer (some ⟨w.heap.size, 0, none⟩)), (7, .pointer (some ⟨w.heap.size + 1, 0, none⟩))])
  (fun i wr => Kp w wr n_ ∧ i.1 ≤ s.size ∧ Bld wr w.heap.size w.heap.size i.2 ∧ wr.heap[w.heap.size + 1]? = some (.stringIter s i.1) ∧ foldL (L s) = i.2 ++ foldL ((L s).drop i.1) ∧ i.2.length = i.1) (fun i => s.size - i.1) (0, []) ⟨rfl, rfl, rfl, trivial⟩
  ⟨K1, Nat.zero_le _, hb1, hi0, rfl, rfl⟩ ?_
 rintro ⟨n, d⟩ g wr ⟨hK, hn, hb, hi, he, hdl⟩
 dsimp only at hn hb hi he hdl ⊢
 refine GW ?_
 by_cases hlt : n < s.size
 ·refine RunV.nextS hi hlt ?_
  have hne : (L s).drop n ≠ [] := by rw [← L_from]; exact L_ne (by simp; omega)
  have hw := decodeL_width ((L s).drop n)
  have hle := decodeL_le _ hne
  have hru := decodeL_rune ((L s).drop n)
  rw [List.length_drop] at hle
  rw [zbj _ hne, List.drop_drop] at he
  have hh := zdp _ hne
  have hpre := ziW s n hlt
  have hb2 : Bld (setO wr (w.heap.size + 1) (.stringIter s (n + (decodeL ((L s).drop n)).2))) w.heap.size w.heap.size d := zol hb hi
  have hi2 : (setO wr (w.heap.size + 1) (.stringIter s (n + (decodeL ((L s).drop n)).2))).heap[w.heap.size + 1]? = some (.stringIter s (n + (decodeL ((L s).drop n)).2)) := zcw _ (zbn hi)
  have K2 : Kp w (setO wr (w.heap.size + 1) (.stringIter s (n + (decodeL ((L s).drop n)).2))) n_ := hK.trans (zbf _) fun i hi h => by have h : i = w.heap.size + 1 := h; omega
  generalize setO wr (w.heap.size + 1) (.stringIter s (n + (decodeL ((L s).drop n)).2)) = w2 at *
  have hdr : (L s).drop n ≠ [] := hne
  have key : ∀ (x : List UInt8) (w' : World), x.length = (decodeL ((L s).drop n)).2 → head1 ((L s).drop n) = x → Bld w' w.heap.size w.heap.size (d ++ x) → Below w.heap.size w2 w' → OthersKept 5 (some w.heap.size) w2 w' →
    (Kp w w' n_ ∧ n + (decodeL ((L s).drop n)).2 ≤ s.size ∧ Bld w' w.heap.size w.heap.size (d ++ x) ∧ w'.heap[w.heap.size + 1]? = some (.stringIter s (n + (decodeL ((L s).drop n)).2)) ∧ foldL (L s) = (d ++ x) ++ foldL ((L s).drop (n + (decodeL ((L s).drop n)).2)) ∧ (d ++ x).length = n + (decodeL ((L s).drop n)).2) := by
   intro x w' hx hhx hbx hbe hok
   refine ⟨K2.below' hbe (Nat.le_refl _), by omega, hbx, zlD hi2 hok (by omega), by rw [he, hhx, List.append_assoc], by rw [List.length_append, hx, hdl]⟩
  by_cases hc : (decodeL ((L s).drop n)).1 = 65533
  ·have hpre := hpre hc
   refine GO ?_
   refine CallS.of (Tryz.call111 _ _) (zip (s.extract n s.size) ⟨#[239, 191, 189]⟩ w2) ?_
   rintro e w' ⟨rfl, rfl⟩
   rw [show hasPrefix (L (s.extract n s.size)) (L ⟨#[239, 191, 189]⟩) = !decide ((decodeL ((L s).drop n)).2 = 1) from hpre]
   by_cases hk : (decodeL ((L s).drop n)).2 = 1
   ·rw [decide_eq_true hk]
    refine RT ?_
    refine GO ?_
    obtain ⟨x, hx0, hx1, hx2, hx3⟩ := zmQ s n hlt
    have hx0 : byteAt s n = x := hx0
    rw [hx0]
    refine CallS.of (Tryz.call123 _ _) (zdh x w2 hb2 (by omega) K2.size) ?_
    rintro e w3 ⟨rfl, hb3, hbe, hok⟩
    refine RT ?_
    have := key [x] w3 (by rw [hk]; rfl) (by unfold head1; rw [if_pos ⟨hc, hk⟩, hx3]; rfl) hb3 hbe hok
    exact ⟨(n + (decodeL ((L s).drop n)).2, d ++ [x]), ⟨rfl, rfl, rfl, trivial⟩, this, by dsimp only; omega⟩
   ·rw [decide_eq_false hk]
    refine RT ?_
    refine GO ?_
    refine CallS.of (Tryz.call213 _ _) (zgj (decodeL ((L s).drop n)).1 hru (hT.keep K2)) ?_
    rintro e w3 ⟨rfl, k3⟩
    refine RT ?_
    have hb3 : Bld w3 w.heap.size w.heap.size d := zet hb2 k3
    have hlo := zpe _ hru
    refine CallS.of (Tryz.call212 _ _) (zeZ ((lowC (decodeL ((L s).drop n)).1 : Nat) : Int) (by omega) (by omega) w3 hb3 (by omega) (Nat.le_trans K2.size k3.size)) ?_
    rintro e w4 ⟨⟨q, rfl⟩, hb4, hbe, hok⟩
    refine RT ?_
    have hh1 : head1 ((L s).drop n) = enc (lowC (decodeL ((L s).drop n)).1) := by unfold head1; rw [if_neg (by omega)]
    have := key (enc (lowC (decodeL ((L s).drop n)).1)) w4 (by rw [← hh1]; exact hh) hh1 hb4 (k3.below.mono K2.size |>.trans hbe) (fun k o h1 h2 h3 => hok k o ((k3.block k (zbn h1) id).trans h1) h2 h3)
    exact ⟨(n + (decodeL ((L s).drop n)).2, d ++ enc (lowC (decodeL ((L s).drop n)).1)), ⟨rfl, rfl, rfl, trivial⟩, this, by dsimp only; omega⟩
  ·refine GO ?_
   refine CallS.of (Tryz.call213 _ _) (zgj (decodeL ((L s).drop n)).1 hru (hT.keep K2)) ?_
   rintro e w3 ⟨rfl, k3⟩
   refine RT ?_
   have hb3 : Bld w3 w.heap.size w.heap.size d := zet hb2 k3
   have hlo := zpe _ hru
   refine CallS.of (Tryz.call212 _ _) (zeZ ((lowC (decodeL ((L s).drop n)).1 : Nat) : Int) (by omega) (by omega) w3 hb3 (by omega) (Nat.le_trans K2.size k3.size)) ?_
   rintro e w4 ⟨⟨q, rfl⟩, hb4, hbe, hok⟩
   refine RT ?_
   have hh1 : head1 ((L s).drop n) = enc (lowC (decodeL ((L s).drop n)).1) := by unfold head1; rw [if_neg (by omega)]
   have := key (enc (lowC (decodeL ((L s).drop n)).1)) w4 (by rw [← hh1]; exact hh) hh1 hb4 (k3.below.mono K2.size |>.trans hbe) (fun k o h1 h2 h3 => hok k o ((k3.block k (zbn h1) id).trans h1) h2 h3)
   exact ⟨(n + (decodeL ((L s).drop n)).2, d ++ enc (lowC (decodeL ((L s).drop n)).1)), ⟨rfl, rfl, rfl, trivial⟩, this, by dsimp only; omega⟩
 ·refine RunV.nextE hi hlt ?_
  refine GO ?_
  have hn0 : (L s).drop n = [] := List.drop_eq_nil_of_le (by omega)
  rw [hn0, zmp, List.append_nil] at he
  refine CallS.of (Tryz.call71 _ _) (zgB wr hb hK.size) ?_
  rintro e w3 ⟨rfl, _, hbe, _⟩
  refine RT ?_
  exact ⟨zqh (by rw [he]), hK.below' hbe (Nat.le_refl _)⟩
end
end Go.Proofs.YtennokckmjcefaaGreatDoor
