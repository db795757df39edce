/- Helper lemmas that the proved statement rests on; no conditions of their own. -/
import Derived.Shelf.Small.Strs
import Derived.Shelf.Sort.Plain
import Derived.Shelf.Slices.CompactI
import Derived.Shelf.Slices.CompactS
import Derived.Shelf.Slices.In.SortNone
import Derived.Shelf.Strings.BuilderK
import Derived.Shelf.Strings.BuilderRune
import Derived.Shelf.Strings.Prefix
import Derived.Shelf.Small.Utf8
import Derived.Shelf.Unicode.DecodeAny
import Derived.Shelf.Unicode.ValidAny
import Derived.Laws.RangeString
import Derived.Test.YtennokckmjcefaaGreatDoorGBx3
set_option linter.unusedVariables false
set_option maxHeartbeats 1000000
set_option maxRecDepth 100000
namespace Go.Proofs.YtennokckmjcefaaGreatDoor
open Go.Shelf Go.RowKit Go.Pw Go.Vc Go.Cs Go.Lib Go.Sort
def ren106 : Go.Shelf.Ren := ⟨fun | 106 => 210 | 213 => 247 | 265 => 260 | n => n, fun | 3 => 3 | 5 => 5 | 9 => 9 | n => n, fun | n => n⟩
theorem lays106 : Go.Proofs.Lays.n106 Tryz.prog ren106 := {
 mixed := by kernel_rfl
 f106 := Tryz.func210.trans (congrArg some (by kernel_rfl))
 f213 := Tryz.func247.trans (congrArg some (by kernel_rfl))
 f265 := Tryz.func260.trans (congrArg some (by kernel_rfl))
 t3 := Tryz.underlying3
 a3 := Tryz.isAgg3
 z3 := Tryz.sizeOf3
 v3 := Tryz.zeroValue3
 t9 := Tryz.underlying9
 a9 := Tryz.isAgg9
 z9 := Tryz.sizeOf9
 v9 := Tryz.zeroValue9 }
def ren189 : Go.Shelf.Ren := ⟨fun | 125 => 129 | 128 => 187 | 129 => 188 | 189 => 79 | 215 => 189 | 216 => 130 | 257 => 128 | 294 => 179 | 295 => 180 | 296 => 181 | 297 => 182 | 298 => 183 | 299 => 184 | 300 => 185 | 301 => 186 | 328 => 225 | 329 => 226 | 330 => 227 | 331 => 228 | 332 => 229 | 343 => 254 | n => n, fun | 0 => 0 | 3 => 3 | 4 => 4 | 5 => 5 | 9 => 9 | 28 => 40 | 46 => 153 | 51 => 204 | 53 => 206 | 131 => 104 | 182 => 197 | 183 => 198 | 218 => 236 | 222 => 234 | 228 => 259 | 229 => 61 | n => n, fun | n => n⟩
theorem lays189 : Go.Proofs.Lays.n189 Tryz.prog ren189 := {
 mixed := by kernel_rfl
 f125 := Tryz.func129.trans (congrArg some (by kernel_rfl))
 f128 := Tryz.func187.trans (congrArg some (by kernel_rfl))
 f129 := Tryz.func188.trans (congrArg some (by kernel_rfl))
 f189 := Tryz.func79.trans (congrArg some (by kernel_rfl))
 f215 := Tryz.func189.trans (congrArg some (by kernel_rfl))
 f216 := Tryz.func130.trans (congrArg some (by kernel_rfl))
 f257 := Tryz.func128.trans (congrArg some (by kernel_rfl))
 f294 := Tryz.func179.trans (congrArg some (by kernel_rfl))
 f295 := Tryz.func180.trans (congrArg some (by kernel_rfl))
 f296 := Tryz.func181.trans (congrArg some (by kernel_rfl))
 f297 := Tryz.func182.trans (congrArg some (by kernel_rfl))
 f298 := Tryz.func183.trans (congrArg some (by kernel_rfl))
 f299 := Tryz.func184.trans (congrArg some (by kernel_rfl))
 f300 := Tryz.func185.trans (congrArg some (by kernel_rfl))
 f301 := Tryz.func186.trans (congrArg some (by kernel_rfl))
 f328 := Tryz.func225.trans (congrArg some (by kernel_rfl))
 f329 := Tryz.func226.trans (congrArg some (by kernel_rfl))
 f330 := Tryz.func227.trans (congrArg some (by kernel_rfl))
 f331 := Tryz.func228.trans (congrArg some (by kernel_rfl))
 f332 := Tryz.func229.trans (congrArg some (by kernel_rfl))
 f343 := Tryz.func254.trans (congrArg some (by kernel_rfl))
 t0 := Tryz.underlying0
 a0 := Tryz.isAgg0
 z0 := Tryz.sizeOf0
 v0 := Tryz.zeroValue0
 t3 := Tryz.underlying3
 a3 := Tryz.isAgg3
 z3 := Tryz.sizeOf3
 v3 := Tryz.zeroValue3
 t4 := Tryz.underlying4
 a4 := Tryz.isAgg4
 z4 := Tryz.sizeOf4
 v4 := Tryz.zeroValue4
 t5 := Tryz.underlying5
 a5 := Tryz.isAgg5
 z5 := Tryz.sizeOf5
 v5 := Tryz.zeroValue5
 t9 := Tryz.underlying9
 a9 := Tryz.isAgg9
 z9 := Tryz.sizeOf9
 v9 := Tryz.zeroValue9
 t28 := Tryz.underlying40
 a28 := Tryz.isAgg40
 z28 := Tryz.sizeOf40
 v28 := Tryz.zeroValue40
 t46 := Tryz.underlying153
 a46 := Tryz.isAgg153
 z46 := Tryz.sizeOf153
 v46 := Tryz.zeroValue153
 t51 := Tryz.underlying204
 a51 := Tryz.isAgg204
 z51 := Tryz.sizeOf204
 v51 := Tryz.zeroValue204
 t53 := Tryz.underlying206
 a53 := Tryz.isAgg206
 z53 := Tryz.sizeOf206
 v53 := Tryz.zeroValue206
 t131 := Tryz.underlying104
 a131 := Tryz.isAgg104
 z131 := Tryz.sizeOf104
 v131 := Tryz.zeroValue104
 t182 := Tryz.underlying197
 a182 := Tryz.isAgg197
 z182 := Tryz.sizeOf197
 v182 := Tryz.zeroValue197
 t183 := Tryz.underlying198
 a183 := Tryz.isAgg198
 z183 := Tryz.sizeOf198
 v183 := Tryz.zeroValue198
 t218 := Tryz.underlying236
 a218 := Tryz.isAgg236
 z218 := Tryz.sizeOf236
 v218 := Tryz.zeroValue236
 t222 := Tryz.underlying234
 a222 := Tryz.isAgg234
 z222 := Tryz.sizeOf234
 v222 := Tryz.zeroValue234
 t228 := Tryz.underlying259
 a228 := Tryz.isAgg259
 z228 := Tryz.sizeOf259
 v228 := Tryz.zeroValue259
 t229 := Tryz.underlying61
 a229 := Tryz.isAgg61
 z229 := Tryz.sizeOf61
 v229 := Tryz.zeroValue61 }
def renL2_20 : Go.Shelf.Ren := ⟨fun | 20 => 106 | n => n, fun | 0 => 0 | 3 => 3 | 4 => 4 | 5 => 5 | 22 => 40 | n => n, fun | n => n⟩
theorem zft : Go.Proofs.Lays2.n20 Tryz.prog renL2_20 := {
 mixed := by kernel_rfl
 f20 := Tryz.func106.trans (congrArg some (by kernel_rfl))
 t0 := Tryz.underlying0
 a0 := Tryz.isAgg0
 z0 := Tryz.sizeOf0
 v0 := Tryz.zeroValue0
 t3 := Tryz.underlying3
 a3 := Tryz.isAgg3
 z3 := Tryz.sizeOf3
 v3 := Tryz.zeroValue3
 t4 := Tryz.underlying4
 a4 := Tryz.isAgg4
 z4 := Tryz.sizeOf4
 v4 := Tryz.zeroValue4
 t22 := Tryz.underlying40
 a22 := Tryz.isAgg40
 z22 := Tryz.sizeOf40
 v22 := Tryz.zeroValue40
 i3 := by kernel_rfl }
theorem ziM (a b : ByteArray) (w : World) : Calls Tryz.prog 210 #[.string a, .string b] w fun e w' => e = .returned (.int .i64 (compareBytes (L a) (L b))) ∧ w = w' :=
 (Any.strings_Compare lays106 a b w).mono fun e w' h => ⟨h.1, h.2.symm⟩
section
variable {w : World} {B g cap : Nat}
theorem srt_I {v : Value} (l : List Int) (ho : OwnI w B v l) (hl : l.length ≤ 17592186044416) : Calls Tryz.prog 79 #[v] w fun e w' => e = .returned (.tuple #[]) ∧ OwnI w' B v (l.mergeSort fun x y => decide (x ≤ y)) ∧ Kp w w' (own_ v) := by
 rcases own_blockK ho with ⟨rfl, h0⟩ | ⟨g, cap, cells, rfl, hBg, hv, hnc, hcm, hcl, htk⟩
 ·obtain rfl : l = [] := List.eq_nil_of_length_eq_zero h0
  exact (Any.slices_Sort_int_none lays189 none 0 w).mono fun e w' h => ⟨h.1, by rw [h.2, List.mergeSort_nil]; exact ho, by rw [h.2]; exact Kp.refl _ _⟩
 ·have htk : cells.take l.length = l.map (Value.int .i64) := by rw [← flat1]; rw [Nat.mul_one] at htk; exact htk
  refine (Any.slices_Sort_int lays189 g 0 cap l w (zfC hv htk) hv.lt (by omega)).mono ?_
  rintro e w' ⟨rfl, n, os, rfl⟩
  refine ⟨rfl, ?_, (zfF _).mono fun q _ hq => by have hq : q = g := hq; rw [hq]; rfl⟩
  have := znI (enc := (Value.int .i64)) (q := n) (os := os) ho (l.mergeSort fun x y => decide (x ≤ y)) (List.length_mergeSort _) (Nat.le_refl _)
  rw [← flat1, List.take_of_length_le (by rw [List.length_mergeSort]; exact Nat.le_refl _)] at this
  unfold OwnI
  rw [List.length_mergeSort]
  exact this
theorem cmp_I {v : Value} (l : List Int) (ho : OwnI w B v l) (hl : l.length ≤ 17592186044416) : Calls Tryz.prog 106 #[v] w fun e w' => ∃ v', e = .returned v' ∧ OwnI w' B v' (compact l) ∧ Kp w w' (own_ v) ∧ v'.ownBlock = v.ownBlock := by
 rcases own_blockK ho with ⟨rfl, h0⟩ | ⟨g, cap, cells, rfl, hBg, hv, hnc, hcm, hcl, htk⟩
 ·obtain rfl : l = [] := List.eq_nil_of_length_eq_zero h0
  exact (Any.slices_Compact_int_empty zft none 0 w).mono fun e w' h => ⟨_, h.1, by rw [h.2]; exact ho, by rw [h.2]; exact Kp.refl _ _, rfl⟩
 ·by_cases h0 : l = []
  ·subst h0
   exact (Any.slices_Compact_int_empty zft (some ⟨g, 0, none⟩) cap w).mono fun e w' h => ⟨_, h.1, by rw [h.2]; exact ho, by rw [h.2]; exact Kp.refl _ _, rfl⟩
  have htk : cells.take l.length = l.map (Value.int .i64) := by rw [← flat1]; rw [Nat.mul_one] at htk; exact htk
  refine (Any.slices_Compact_int zft g 0 cap l w (zfC hv htk) (by omega) hnc).mono ?_
  rintro e w' ⟨rfl, n, hw⟩
  rw [← grow_empty (putRow _ _ _ _ _)] at hw
  subst hw
  have hle : (compact l).length ≤ l.length := by
   unfold compact compactUpTo
   rw [List.length_map]
   refine Nat.le_trans (List.length_filter_le _ _) ?_
   simp
  refine ⟨_, rfl, ?_, (zfF _).mono fun q _ hq => by have hq : q = g := hq; rw [hq]; rfl, rfl⟩
  have := znI (enc := (Value.int .i64)) (q := n) (os := #[]) ho (compact l ++ List.replicate (l.length - (compact l).length) 0) (by rw [List.length_append, List.length_replicate]; omega) (m := (compact l).length) hle
  rw [List.take_left, ← flat1] at this
  exact this
end
end Go.Proofs.YtennokckmjcefaaGreatDoor
namespace Go.Proofs.YtennokckmjcefaaGreatDoor
open Go.Shelf Go.RowKit Go.Pw Go.Vc Go.Cs Go.Lib
def ren118 : Go.Shelf.Ren := ⟨fun | 118 => 148 | n => n, fun | 3 => 3 | 4 => 4 | 5 => 5 | 21 => 21 | n => n, fun | n => n⟩
theorem lays118 : Go.Proofs.Lays.n118 Tryz.prog ren118 := {
 mixed := by kernel_rfl
 f118 := Tryz.func148.trans (congrArg some (by kernel_rfl))
 t3 := Tryz.underlying3
 a3 := Tryz.isAgg3
 z3 := Tryz.sizeOf3
 v3 := Tryz.zeroValue3
 t4 := Tryz.underlying4
 a4 := Tryz.isAgg4
 z4 := Tryz.sizeOf4
 v4 := Tryz.zeroValue4
 t21 := Tryz.underlying21
 a21 := Tryz.isAgg21
 z21 := Tryz.sizeOf21
 v21 := Tryz.zeroValue21 }
def ren166 : Go.Shelf.Ren := ⟨fun | 166 => 66 | 240 => 122 | 276 => 174 | n => n, fun | 0 => 0 | 3 => 3 | 4 => 4 | 5 => 5 | 9 => 9 | 20 => 20 | 37 => 91 | 70 => 90 | 72 => 93 | 75 => 95 | 80 => 29 | 164 => 191 | n => n, fun | n => n⟩
theorem lays166 : Go.Proofs.Lays.n166 Tryz.prog ren166 := {
 mixed := by kernel_rfl
 f166 := Tryz.func66.trans (congrArg some (by kernel_rfl))
 f240 := Tryz.func122.trans (congrArg some (by kernel_rfl))
 f276 := Tryz.func174.trans (congrArg some (by kernel_rfl))
 t0 := Tryz.underlying0
 a0 := Tryz.isAgg0
 z0 := Tryz.sizeOf0
 v0 := Tryz.zeroValue0
 t3 := Tryz.underlying3
 a3 := Tryz.isAgg3
 z3 := Tryz.sizeOf3
 v3 := Tryz.zeroValue3
 t4 := Tryz.underlying4
 a4 := Tryz.isAgg4
 z4 := Tryz.sizeOf4
 v4 := Tryz.zeroValue4
 t9 := Tryz.underlying9
 a9 := Tryz.isAgg9
 z9 := Tryz.sizeOf9
 v9 := Tryz.zeroValue9
 t20 := Tryz.underlying20
 a20 := Tryz.isAgg20
 z20 := Tryz.sizeOf20
 v20 := Tryz.zeroValue20
 t37 := Tryz.underlying91
 a37 := Tryz.isAgg91
 z37 := Tryz.sizeOf91
 v37 := Tryz.zeroValue91
 t70 := Tryz.underlying90
 a70 := Tryz.isAgg90
 z70 := Tryz.sizeOf90
 v70 := Tryz.zeroValue90
 t72 := Tryz.underlying93
 a72 := Tryz.isAgg93
 z72 := Tryz.sizeOf93
 v72 := Tryz.zeroValue93
 t75 := Tryz.underlying95
 a75 := Tryz.isAgg95
 z75 := Tryz.sizeOf95
 v75 := Tryz.zeroValue95
 t164 := Tryz.underlying191
 a164 := Tryz.isAgg191
 z164 := Tryz.sizeOf191
 v164 := Tryz.zeroValue191 }
def ren167 : Go.Shelf.Ren := ⟨fun | 167 => 123 | 240 => 122 | 276 => 174 | n => n, fun | 0 => 0 | 4 => 4 | 5 => 5 | 9 => 9 | 20 => 20 | 37 => 91 | 70 => 90 | 72 => 93 | 75 => 95 | 80 => 29 | 164 => 191 | n => n, fun | n => n⟩
theorem lays167 : Go.Proofs.Lays.n167 Tryz.prog ren167 := {
 mixed := by kernel_rfl
 f167 := Tryz.func123.trans (congrArg some (by kernel_rfl))
 f240 := Tryz.func122.trans (congrArg some (by kernel_rfl))
 f276 := Tryz.func174.trans (congrArg some (by kernel_rfl))
 t0 := Tryz.underlying0
 a0 := Tryz.isAgg0
 z0 := Tryz.sizeOf0
 v0 := Tryz.zeroValue0
 t4 := Tryz.underlying4
 a4 := Tryz.isAgg4
 z4 := Tryz.sizeOf4
 v4 := Tryz.zeroValue4
 t5 := Tryz.underlying5
 a5 := Tryz.isAgg5
 z5 := Tryz.sizeOf5
 v5 := Tryz.zeroValue5
 t9 := Tryz.underlying9
 a9 := Tryz.isAgg9
 z9 := Tryz.sizeOf9
 v9 := Tryz.zeroValue9
 t20 := Tryz.underlying20
 a20 := Tryz.isAgg20
 z20 := Tryz.sizeOf20
 v20 := Tryz.zeroValue20
 t37 := Tryz.underlying91
 a37 := Tryz.isAgg91
 z37 := Tryz.sizeOf91
 v37 := Tryz.zeroValue91
 t70 := Tryz.underlying90
 a70 := Tryz.isAgg90
 z70 := Tryz.sizeOf90
 v70 := Tryz.zeroValue90
 t72 := Tryz.underlying93
 a72 := Tryz.isAgg93
 z72 := Tryz.sizeOf93
 v72 := Tryz.zeroValue93
 t75 := Tryz.underlying95
 a75 := Tryz.isAgg95
 z75 := Tryz.sizeOf95
 v75 := Tryz.zeroValue95
 t164 := Tryz.underlying191
 a164 := Tryz.isAgg191
 z164 := Tryz.sizeOf191
 v164 := Tryz.zeroValue191 }
def ren168 : Go.Shelf.Ren := ⟨fun | 168 => 212 | 240 => 122 | 242 => 248 | 276 => 174 | 278 => 261 | n => n, fun | 0 => 0 | 3 => 3 | 4 => 4 | 5 => 5 | 9 => 9 | 20 => 20 | 21 => 21 | 37 => 91 | 46 => 153 | 51 => 204 | 70 => 90 | 72 => 93 | 75 => 95 | 80 => 29 | 164 => 191 | n => n, fun | n => n⟩
theorem lays168 : Go.Proofs.Lays.n168 Tryz.prog ren168 := {
 mixed := by kernel_rfl
 f168 := Tryz.func212.trans (congrArg some (by kernel_rfl))
 f240 := Tryz.func122.trans (congrArg some (by kernel_rfl))
 f242 := Tryz.func248.trans (congrArg some (by kernel_rfl))
 f276 := Tryz.func174.trans (congrArg some (by kernel_rfl))
 f278 := Tryz.func261.trans (congrArg some (by kernel_rfl))
 t0 := Tryz.underlying0
 a0 := Tryz.isAgg0
 z0 := Tryz.sizeOf0
 v0 := Tryz.zeroValue0
 t3 := Tryz.underlying3
 a3 := Tryz.isAgg3
 z3 := Tryz.sizeOf3
 v3 := Tryz.zeroValue3
 t4 := Tryz.underlying4
 a4 := Tryz.isAgg4
 z4 := Tryz.sizeOf4
 v4 := Tryz.zeroValue4
 t5 := Tryz.underlying5
 a5 := Tryz.isAgg5
 z5 := Tryz.sizeOf5
 v5 := Tryz.zeroValue5
 t9 := Tryz.underlying9
 a9 := Tryz.isAgg9
 z9 := Tryz.sizeOf9
 v9 := Tryz.zeroValue9
 t20 := Tryz.underlying20
 a20 := Tryz.isAgg20
 z20 := Tryz.sizeOf20
 v20 := Tryz.zeroValue20
 t21 := Tryz.underlying21
 a21 := Tryz.isAgg21
 z21 := Tryz.sizeOf21
 v21 := Tryz.zeroValue21
 t37 := Tryz.underlying91
 a37 := Tryz.isAgg91
 z37 := Tryz.sizeOf91
 v37 := Tryz.zeroValue91
 t46 := Tryz.underlying153
 a46 := Tryz.isAgg153
 z46 := Tryz.sizeOf153
 v46 := Tryz.zeroValue153
 t51 := Tryz.underlying204
 a51 := Tryz.isAgg204
 z51 := Tryz.sizeOf204
 v51 := Tryz.zeroValue204
 t70 := Tryz.underlying90
 a70 := Tryz.isAgg90
 z70 := Tryz.sizeOf90
 v70 := Tryz.zeroValue90
 t72 := Tryz.underlying93
 a72 := Tryz.isAgg93
 z72 := Tryz.sizeOf93
 v72 := Tryz.zeroValue93
 t75 := Tryz.underlying95
 a75 := Tryz.isAgg95
 z75 := Tryz.sizeOf95
 v75 := Tryz.zeroValue95
 t164 := Tryz.underlying191
 a164 := Tryz.isAgg191
 z164 := Tryz.sizeOf191
 v164 := Tryz.zeroValue191 }
def ren169 : Go.Shelf.Ren := ⟨fun | 169 => 71 | n => n, fun | 0 => 0 | 3 => 3 | 5 => 5 | 9 => 9 | 37 => 91 | 70 => 90 | 72 => 93 | 127 => 148 | n => n, fun | n => n⟩
theorem lays169 : Go.Proofs.Lays.n169 Tryz.prog ren169 := {
 mixed := by kernel_rfl
 f169 := Tryz.func71.trans (congrArg some (by kernel_rfl))
 t0 := Tryz.underlying0
 a0 := Tryz.isAgg0
 z0 := Tryz.sizeOf0
 v0 := Tryz.zeroValue0
 t3 := Tryz.underlying3
 a3 := Tryz.isAgg3
 z3 := Tryz.sizeOf3
 v3 := Tryz.zeroValue3
 t9 := Tryz.underlying9
 a9 := Tryz.isAgg9
 z9 := Tryz.sizeOf9
 v9 := Tryz.zeroValue9
 t37 := Tryz.underlying91
 a37 := Tryz.isAgg91
 z37 := Tryz.sizeOf91
 v37 := Tryz.zeroValue91
 t70 := Tryz.underlying90
 a70 := Tryz.isAgg90
 z70 := Tryz.sizeOf90
 v70 := Tryz.zeroValue90
 t72 := Tryz.underlying93
 a72 := Tryz.isAgg93
 z72 := Tryz.sizeOf93
 v72 := Tryz.zeroValue93
 t127 := Tryz.underlying148
 a127 := Tryz.isAgg148
 z127 := Tryz.sizeOf148
 v127 := Tryz.zeroValue148 }
def ren99 : Go.Shelf.Ren := ⟨fun | 99 => 111 | 206 => 168 | n => n, fun | 3 => 3 | 4 => 4 | 5 => 5 | 9 => 9 | n => n, fun | n => n⟩
theorem lays99 : Go.Proofs.Lays.n99 Tryz.prog ren99 := {
 mixed := by kernel_rfl
 f99 := Tryz.func111.trans (congrArg some (by kernel_rfl))
 f206 := Tryz.func168.trans (congrArg some (by kernel_rfl))
 t3 := Tryz.underlying3
 a3 := Tryz.isAgg3
 z3 := Tryz.sizeOf3
 v3 := Tryz.zeroValue3
 t4 := Tryz.underlying4
 a4 := Tryz.isAgg4
 z4 := Tryz.sizeOf4
 v4 := Tryz.zeroValue4
 t9 := Tryz.underlying9
 a9 := Tryz.isAgg9
 z9 := Tryz.sizeOf9
 v9 := Tryz.zeroValue9 }
theorem ext166 : Builder.Extra Tryz.prog ren166 := {
 sizeBuilder := by kernel_rfl
 liesBuilder := by kernel_rfl
 t5 := Tryz.underlying5
 a5 := Tryz.isAgg5
 z5 := Tryz.sizeOf5
 v5 := Tryz.zeroValue5
 infoByte := by kernel_rfl
 cellsByte := by kernel_rfl
 sizeByte := by kernel_rfl
 neB5 := by decide }
theorem ext167 : Builder.Extra Tryz.prog ren167 := {
 sizeBuilder := by kernel_rfl
 liesBuilder := by kernel_rfl
 t5 := Tryz.underlying5
 a5 := Tryz.isAgg5
 z5 := Tryz.sizeOf5
 v5 := Tryz.zeroValue5
 infoByte := by kernel_rfl
 cellsByte := by kernel_rfl
 sizeByte := by kernel_rfl
 neB5 := by decide }
theorem ext168 : Builder.Extra Tryz.prog ren168 := {
 sizeBuilder := by kernel_rfl
 liesBuilder := by kernel_rfl
 t5 := Tryz.underlying5
 a5 := Tryz.isAgg5
 z5 := Tryz.sizeOf5
 v5 := Tryz.zeroValue5
 infoByte := by kernel_rfl
 cellsByte := by kernel_rfl
 sizeByte := by kernel_rfl
 neB5 := by decide }
theorem ext169 : Builder.Extra Tryz.prog ren169 := {
 sizeBuilder := by kernel_rfl
 liesBuilder := by kernel_rfl
 t5 := Tryz.underlying5
 a5 := Tryz.isAgg5
 z5 := Tryz.sizeOf5
 v5 := Tryz.zeroValue5
 infoByte := by kernel_rfl
 cellsByte := by kernel_rfl
 sizeByte := by kernel_rfl
 neB5 := by decide }
def Bld (w : World) (B b : Nat) (l : List UInt8) : Prop := IsBuilderF 93 5 B b (Go.Lib.byteCells l) w
theorem zmB (r : Int) (w : World) : Calls Tryz.prog 148 #[.int .i32 r] w fun e w' => e = .returned (.int .i64 (runeLen r)) ∧ w = w' :=
 (Any.utf8_RuneLen lays118 r w).mono fun e w' ⟨h1, h2⟩ => ⟨h1, h2.symm⟩
theorem zaR {B b : Nat} {l : List UInt8} (s : ByteArray) (w : World) (h : Bld w B b l) (hl : l.length + s.size ≤ 140737488355328) (hB : B ≤ w.heap.size) :
  Calls Tryz.prog 66 #[.pointer (some ⟨b, 0, none⟩), .string s] w fun e w' => e = .returned (.tuple #[.int .i64 s.size, .nilIface]) ∧ Bld w' B b (l ++ L s) ∧ Below B w w' ∧ OthersKept 5 (some b) w w' :=
 (Any.Builder_WriteString_k lays166 ext166 B b _ s w h (by rw [Go.Lib.byteCells_length]; exact hl) hB).mono fun e w' ⟨h1, h2, h3⟩ => ⟨h1, .inr (by rw [Go.Lib.byteCells_append]; exact h2), h3⟩
theorem zdp {B b : Nat} {l : List UInt8} (c : UInt8) (w : World) (h : Bld w B b l) (hl : l.length + 1 ≤ 140737488355328) (hB : B ≤ w.heap.size) :
  Calls Tryz.prog 123 #[.pointer (some ⟨b, 0, none⟩), .int .u8 c.toNat] w fun e w' => e = .returned .nilIface ∧ Bld w' B b (l ++ [c]) ∧ Below B w w' ∧ OthersKept 5 (some b) w w' :=
 (Any.Builder_WriteByte_k lays167 ext167 B b _ c.toNat w h (by rw [Go.Lib.byteCells_length]; exact hl) hB).mono fun e w' ⟨h1, h2, h3⟩ => ⟨h1, .inr (by rw [Go.Lib.byteCells_append]; exact h2), h3⟩
theorem zfy {B b : Nat} {l : List UInt8} (r : Int) (h0 : -2147483648 ≤ r) (h1 : r ≤ 2147483647) (w : World) (h : Bld w B b l) (hl : l.length + 4 ≤ 140737488355328) (hB : B ≤ w.heap.size) :
  Calls Tryz.prog 212 #[.pointer (some ⟨b, 0, none⟩), .int .i32 r] w fun e w' => (∃ n, e = .returned (.tuple #[.int .i64 n, .nilIface])) ∧ Bld w' B b (l ++ encodeRune r) ∧ Below B w w' ∧ OthersKept 5 (some b) w w' :=
 (Any.Builder_WriteRune_k lays168 ext168 B b _ r h0 h1 w h (by rw [Go.Lib.byteCells_length]; exact hl) hB).mono fun e w' ⟨h1, h2, h3⟩ => ⟨⟨_, h1⟩, .inr (by rw [byteCells_append, byteCells_encodeRune]; exact h2), h3⟩
theorem zdh {B b : Nat} {l : List UInt8} (w : World) (h : Bld w B b l) (hB : B ≤ w.heap.size) :
  Calls Tryz.prog 71 #[.pointer (some ⟨b, 0, none⟩)] w fun e w' => e = .returned (.string (str l)) ∧ Bld w' B b l ∧ Below B w w' ∧ OthersKept 5 (some b) w w' :=
 Any.Builder_String_any_k lays169 ext169 B b l w h hB
theorem zek (w : World) (B : Nat) (hB : B ≤ w.heap.size) : Bld (w.alloc (.cells #[.pointer none, .slice none 0 0] 93)) B w.heap.size [] :=
 .inl ⟨hB, _, heap_alloc_new _ _, World.ownsRowF_of (World.ownsRow_nil _ _ _ _), by simp [Value.ownBlock]⟩
end Go.Proofs.YtennokckmjcefaaGreatDoor
namespace Go.Vc
open Go Go.Pw Go.RowKit
def Bs (w : World) (b : Nat) (l : List UInt8) : Prop := At w b 0 (Lib.byteCells l) ∧ ∀ j, j < l.length → w.frozen? ⟨b, 0 + j, none⟩ = false
theorem Bs.store {w : World} {b i : Nat} {l : List UInt8} (h : Bs w b l) (hi : i < l.length) (x : UInt8) : (∃ u, w.cell? ⟨b, 0 + i, none⟩ = some u) ∧ w.frozen? ⟨b, 0 + i, none⟩ = false ∧ Bs (w.setCell ⟨b, 0 + i, none⟩ (.int .u8 (x.toNat : Int))) b (l.set i x) := by
 have hc : w.cell? ⟨b, 0 + i, none⟩ = some (.int .u8 (l[i].toNat : Int)) := h.1 i _ (by simp [Lib.byteCells, hi])
 refine ⟨⟨_, hc⟩, h.2 i hi, fun j v hj => ?_, fun j hj => ?_⟩
 ·by_cases e : i = j
  ·subst e
   simp [Lib.byteCells, hi] at hj
   rw [zjN hc, hj]
  ·have : (⟨b, 0 + i, none⟩ : Addr) ≠ ⟨b, 0 + j, none⟩ := fun e' => by injection e'; omega
   rw [World.cell?_setCell_other (h := this)]
   refine h.1 j v ?_
   simpa [Lib.byteCells, List.getElem?_set_ne e] using hj
 ·rw [World.frozen?_setCell]
  rw [List.length_set] at hj
  exact h.2 j hj
theorem Bs.cell {w : World} {b i : Nat} {l : List UInt8} (h : Bs w b l) (hi : i < l.length) : w.cell? ⟨b, 0 + i, none⟩ = some (.int .u8 (((l.getD i 0).toNat : Nat) : Int)) := h.1 i _ (by simp [Lib.byteCells, hi, List.getD])
theorem Bs.keep {w w' : World} {b : Nat} {l : List UInt8} {c : Nat → Prop} (h : Bs w b l) (k : Kp w w' c) (hb : b < w.heap.size) (hc : ¬ c b) : Bs w' b l :=
 ⟨fun i v hi => by rw [k.cell (p := ⟨b, 0 + i, none⟩) hb hc]; exact h.1 i v hi, fun j hj => by rw [k.frozen (p := ⟨b, 0 + j, none⟩) hb hc]; exact h.2 j hj⟩
theorem RunV.back {P : Program} {w : World} {src dst e : TypeId} {b cap : Nat} {l : List UInt8} {K : Value → World → Prop} (hs : P.underlying src = some (.slice e)) (he : P.underlying e = some (.int .u8)) (hd : P.underlying dst = some .string)
  (h : Bs w b l) (k : K (.string ⟨l.toArray⟩) w) : RunV P (convert src dst (.slice (some ⟨b, 0, none⟩) l.length cap)) w K :=
 ⟨_, _, run_convert_bytes_back w src dst e ⟨b, 0, none⟩ cap l hs he hd (fun j hj => by rw [add_none]; exact h.1 j _ (by simp [Lib.byteCells, hj])), k⟩
end Go.Vc
namespace Go.Vc
open Go
theorem zhP (i j : Nat) (h : i + j ≤ 1000000000000) : IntKind.i64.wrap ((IntKind.u64.wrap ((i : Int) + (j : Int))).fdiv (2 ^ min (Int.toNat 1) IntKind.u64.bits)) = (((i + j) / 2 : Nat) : Int) := by
 have h1 : IntKind.u64.wrap ((i : Int) + (j : Int)) = ((i + j : Nat) : Int) := by
  unfold IntKind.wrap; simp [IntKind.signed, IntKind.bits]; omega
 have h2 : (2 : Int) ^ min (Int.toNat 1) IntKind.u64.bits = 2 := by decide
 rw [h1, h2, Int.fdiv_eq_ediv_of_nonneg _ (by omega)]
 rw [wrap_i64 _ (by omega)]
 omega
end Go.Vc
namespace Go.Proofs.YtennokckmjcefaaGreatDoor
open Go.RowKit Go.Pw Go.Vc Go.Cs Go.Lib
def spV (x : Int × Int × Int) : List Value := [.int .i64 x.1, .int .i64 x.2.1, .int .i64 x.2.2]
def CutTab (w : World) : Prop := ∃ b o c, w.cell? ⟨0, 0, none⟩ = some (.slice (some ⟨b, o, none⟩) 19 c) ∧ ∀ i, i < 19 → At w b (o + i * 3) (spV (cutSp i))
theorem zbK {w w' : World} {b o : Nat} {vs : List Value} (h : At w b o vs) (k : Kp w w' n_) : At w' b o vs := fun i v hi => by
 have := h i v hi
 rw [k.cell (cell_lt this) id]; exact this
theorem CutTab.keep {w w' : World} (h : CutTab w) (k : Kp w w' n_) : CutTab w' := by
 obtain ⟨b, o, c, h1, h2⟩ := h
 exact ⟨b, o, c, by rw [k.cell (cell_lt h1) id]; exact h1, fun i hi => zbK (h2 i hi) k⟩
section
variable {w : World}
theorem znj (a b : Int) : Calls Tryz.prog 209 #[.int .i64 a, .int .i64 b] w fun e w' => e = .returned (.int .i64 (cmp3 a b)) ∧ w = w' := by
 have hn : ∀ (x : Int) (w : World), Calls Tryz.prog 189 #[.int .i64 x] w fun e w' => e = .returned (.bool false) ∧ w = w' := by
  intro x w
  refine zaa (args := [.int .i64 x]) Tryz.func189 rfl NL ?_; refine GW ?_
  exact ⟨zal (by simp), rfl⟩
 refine zaa (args := [.int .i64 a, .int .i64 b]) Tryz.func209 rfl NL ?_; refine GW ?_
 refine CallS.of (Tryz.call189 _ _) (hn a w) ?_
 rintro e w1 ⟨rfl, rfl⟩
 refine RT ?_
 refine CallS.of (Tryz.call189 _ _) (hn b w) ?_
 rintro e w1 ⟨rfl, rfl⟩
 refine RT ?_
 unfold cmp3
 by_cases h1 : a < b
 ·refine GO ?_
  exact ⟨by rw [if_pos h1], rfl⟩
 ·by_cases h2 : b < a
  ·refine GO ?_
   exact ⟨by rw [if_neg h1, if_pos h2], rfl⟩
  ·refine GO ?_
   exact ⟨by rw [if_neg h1, if_neg h2], rfl⟩
theorem zll (i : Nat) (hi : i < 19) (r : Int) : Calls Tryz.prog 215 #[.agg (spV (cutSp i)).toArray, .int .i64 r] w fun e w' => e = .returned (.int .i64 (cmpC i r)) ∧ Kp w w' n_ := by
 unfold cmpC spV
 generalize cutSp i = x
 obtain ⟨lo, hi', kd⟩ := x
 dsimp only
 refine zaa (args := [.agg #[.int .i64 lo, .int .i64 hi', .int .i64 kd], .int .i64 r]) Tryz.func215 rfl NL ?_; refine GW ?_
 have k0 : Kp w (w.alloc (.cells #[.int .i64 lo, .int .i64 hi', .int .i64 kd] 229)) n_ := (Kp.refl _ _).alloc _
 have hA := zfc (heap_alloc_new w (.cells #[.int .i64 lo, .int .i64 hi', .int .i64 kd] 229))
 have c0 : (w.alloc (.cells #[.int .i64 lo, .int .i64 hi', .int .i64 kd] 229)).cell? ⟨w.heap.size, 0, none⟩ = some (.int .i64 lo) := hA 0 _ rfl
 have c1 : (w.alloc (.cells #[.int .i64 lo, .int .i64 hi', .int .i64 kd] 229)).cell? ⟨w.heap.size, 0 + 1, none⟩ = some (.int .i64 hi') := hA 1 _ rfl
 generalize w.alloc (.cells #[.int .i64 lo, .int .i64 hi', .int .i64 kd] 229) = w1 at *
 by_cases h1 : lo ≤ r
 ·by_cases h2 : r ≤ hi'
  ·refine GO ?_
   exact ⟨by rw [if_pos ⟨h1, h2⟩], k0⟩
  ·refine GO ?_
   refine CallS.of (Tryz.call209 _ _) (znj lo r) ?_
   rintro e w2 ⟨rfl, rfl⟩
   refine RT ?_
   exact ⟨by rw [if_neg (by omega)], k0⟩
 ·refine GO ?_
  refine CallS.of (Tryz.call209 _ _) (znj lo r) ?_
  rintro e w2 ⟨rfl, rfl⟩
  refine RT ?_
  exact ⟨by rw [if_neg (by omega)], k0⟩
theorem zsX (b o c : Nat) (hT : ∀ i, i < 19 → At w b (o + i * 3) (spV (cutSp i))) (r : Int) : Calls Tryz.prog 214 #[.slice (some ⟨b, o, none⟩) 19 c, .int .i64 r, .func (.func 215) #[] #[]] w fun e w' =>
  ∃ k, e = .returned (.tuple #[.int .i64 (k : Nat), .bool (decide (k < 19 ∧ cmpC k r = 0))]) ∧ Pos (fun i => cmpC i r) 19 k ∧ Kp w w' n_ := by
 refine zaa (args := [.slice (some ⟨b, o, none⟩) 19 c, .int .i64 r, .func (.func 215) #[] #[]]) Tryz.func214 rfl NL ?_; refine GW ?_
 refine Loop.intro (ι := Nat × Nat) (fun p => [(0, .slice (some ⟨b, o, none⟩) 19 c), (1, .int .i64 r), (2, .func (.func 215) #[] #[]), (8, .int .i64 19), (9, .int .i64 p.1), (10, .int .i64 p.2)])
  (fun p wr => Kp w wr n_ ∧ p.1 ≤ p.2 ∧ p.2 ≤ 19 ∧ (∀ m, m < p.1 → cmpC m r < 0) ∧ ∀ m, p.2 ≤ m → m < 19 → 0 ≤ cmpC m r) (fun p => p.2 - p.1) (0, 19) ⟨rfl, rfl, rfl, rfl, rfl, rfl, trivial⟩
  ⟨Kp.refl _ _, by omega, Nat.le_refl _, fun m hm => by omega, fun m h1 h2 => by omega⟩ ?_
 rintro ⟨i, j⟩ g wr ⟨hK, hij, hj, hlo, hhi⟩
 dsimp only at hij hj hlo hhi ⊢
 refine GW ?_
 by_cases hlt : i < j
 ·refine GO ?_
  rw [zhP i j (by omega)]
  have hm1 : i ≤ (i + j) / 2 := by omega
  have hm2 : (i + j) / 2 < j := by omega
  generalize (i + j) / 2 = h at *
  refine GO ?_
  refine Load.agg (spV (cutSp h)) (by rfl) (by rfl) (by rfl) (zbK (hT h (by omega)) hK) ?_
  refine GO ?_
  refine CallS.of (Tryz.call215 _ _) (zll h (by omega) r) ?_
  rintro e w1 ⟨rfl, k1⟩
  refine RT ?_
  by_cases hc : cmpC h r < 0
  ·refine GO ?_
   refine ⟨(h + 1, j), ⟨rfl, rfl, rfl, rfl, v_int (by simp), rfl, trivial⟩, ⟨hK.trans0 k1, by dsimp only; omega, hj, fun m hm => ?_, hhi⟩, by dsimp only; omega⟩
   by_cases e : m = h
   ·rw [e]; exact hc
   ·exact zid m h (by dsimp only at hm; omega) (by omega) r hc
  ·refine GO ?_
   refine ⟨(i, h), ⟨rfl, rfl, rfl, rfl, rfl, rfl, trivial⟩, ⟨hK.trans0 k1, by dsimp only; omega, by dsimp only; omega, hlo, fun m m1 m2 => ?_⟩, by dsimp only; omega⟩
   dsimp only at m1
   by_cases e : m = h
   ·rw [e]; omega
   ·have hx : ¬ cmpC m r < 0 := fun hn => hc (zid h m (by omega) m2 r hn)
    omega
 ·have hji : j = i := by omega
  subst hji
  have hpos : Pos (fun i => cmpC i r) 19 j := ⟨hj, hlo, hhi⟩
  by_cases h19 : j < 19
  ·refine GO ?_
   refine Load.agg (spV (cutSp j)) (by rfl) (by rfl) (by rfl) (zbK (hT j h19) hK) ?_
   refine GO ?_
   refine CallS.of (Tryz.call215 _ _) (zll j h19 r) ?_
   rintro e w1 ⟨rfl, k1⟩
   refine RT ?_
   refine GO ?_
   exact ⟨j, by rw [show decide (j < 19 ∧ cmpC j r = 0) = (cmpC j r == 0) by by_cases h0 : cmpC j r = 0 <;> simp [h0, h19]], hpos, hK.trans0 k1⟩
  ·refine GO ?_
   exact ⟨j, by rw [show decide (j < 19 ∧ cmpC j r = 0) = false by simp [h19]], hpos, hK⟩
end
end Go.Proofs.YtennokckmjcefaaGreatDoor
namespace Go.Vc
open Go Go.Pw Go.RowKit
theorem zkZ (a b : ByteArray) : (a == b) = decide (a = b) := by
 obtain ⟨a⟩ := a
 obtain ⟨b⟩ := b
 have e : ((ByteArray.mk a == ByteArray.mk b) : Bool) = (a == b) := rfl
 rw [e]
 by_cases h : a = b <;> simp [h]
abbrev SM := List (ByteArray × Value)
def SM.get : SM → ByteArray → Option Value
 | [], _ => none
 | (s, v) :: r, k => if k = s then some v else SM.get r k
def SM.put : SM → ByteArray → Value → SM
 | [], k, x => [(k, x)]
 | (s, v) :: r, k, x => if k = s then (s, x) :: r else (s, v) :: SM.put r k x
def SM.del : SM → ByteArray → SM
 | [], _ => []
 | (s, v) :: r, k => if k = s then r else (s, v) :: SM.del r k
def entP (e : MapEntry) : Value × Value := (e.key, e.val)
def smP (p : ByteArray × Value) : Value × Value := (.string p.1, p.2)
def SMap (w : World) (b : Nat) (m : SM) : Prop := ∃ es clock, w.heap[b]? = some (.map es clock) ∧ es.toList.map entP = m.map smP
theorem findNow_str (k : ByteArray) : ∀ (es : List MapEntry) (m : SM) (i : Nat), es.map entP = m.map smP →
  (m.get k = none ∧ Instr.findNow .string (.string k) es i = some none ∧ (∀ x, m.put k x = m ++ [(k, x)]) ∧ m.del k = m) ∨
  ∃ v j, m.get k = some v ∧ j < es.length ∧ Instr.findNow .string (.string k) es i = some (some (i + j, v)) ∧ (es[j]?).map (·.key) = some (.string k) ∧ (∀ x, (es.modify j fun e => { e with key := .string k, val := x }).map entP = (m.put k x).map smP) ∧ (es.eraseIdx j).map entP = (m.del k).map smP
 | [], m, i, h => by
  have : m = [] := by cases m with | nil => rfl | cons a r => simp at h
  subst this
  exact .inl ⟨rfl, rfl, fun _ => rfl, rfl⟩
 | e :: es, [], i, h => by simp at h
 | e :: es, (s, v) :: r, i, h => by
  simp only [List.map_cons, List.cons.injEq] at h
  obtain ⟨h1, h2⟩ := h
  simp only [entP, smP, Prod.mk.injEq] at h1
  obtain ⟨h3, h4⟩ := h1
  by_cases hk : k = s
  ·right
   subst hk
   refine ⟨v, 0, by simp [SM.get], by simp, ?_, by simp [h3], fun x => ?_, ?_⟩
   ·simp [Instr.findNow, h3, Instr.sameNow, h4, zkZ]
   ·simp [SM.put, entP, smP, h2]
   ·simp [SM.del, h2]
  ·rcases findNow_str k es r (i + 1) h2 with ⟨a1, a2, a3, a4⟩ | ⟨v', j, a1, a2, a3, a4, a5, a6⟩
   ·left
    refine ⟨by simp [SM.get, hk, a1], ?_, fun x => by simp [SM.put, hk, a3], by simp [SM.del, hk, a4]⟩
    simp [Instr.findNow, h3, Instr.sameNow, hk, a2, zkZ]
   ·right
    refine ⟨v', j + 1, by simp [SM.get, hk, a1], Nat.succ_lt_succ a2, ?_, by simpa using a4, fun x => ?_, ?_⟩
    ·simp [Instr.findNow, h3, Instr.sameNow, hk, a3, zkZ]; omega
    ·simp only [List.modify_succ_cons, List.map_cons, SM.put, if_neg hk, a5 x]
     simp [entP, smP, h3, h4]
    ·simp only [List.eraseIdx_cons_succ, List.map_cons, SM.del, if_neg hk, a6]
     simp [entP, smP, h3, h4]
section
variable {P : Program} {w : World} {b : Nat} {m : SM} {t kt et : TypeId} {K : Value → World → Prop}
theorem checkKey_str' (hk : P.underlying kt = some .string) (e : Bool) (s : ByteArray) (n : Nat) : (Instr.checkKey e (n + 1) kt (.string s)).run P w = .ok () w := by
 unfold Instr.checkKey
 simp [zaJ hk]
theorem zeJ (hk : P.underlying kt = some .string) (e : Bool) (s : ByteArray) : (Instr.checkKey e 10000 kt (.string s)).run P w = .ok () w := checkKey_str' hk e s 9999
def setO (w : World) (b : Nat) (o : Obj) : World := { w with heap := w.heap.set! b o }
theorem zeL (o : Obj) (hb : b < w.heap.size) : (setO w b o).heap[b]? = some o := by
 simp [setO, hb]
theorem zbT (o : Obj) : Kp w (setO w b o) (one_ b) :=
 ⟨rfl, rfl, rfl, by simp [setO], fun k hk hn => by
  have : b ≠ k := fun e => hn e.symm
  simp [setO, this]⟩
theorem RunU.upd {K : World → Prop} (ht : P.underlying t = some (.map kt et)) (hk : P.underlying kt = some .string) (h : SMap w b m) (s : ByteArray) (x : Value) (k : ∀ w', SMap w' b (m.put s x) → Kp w w' (one_ b) → K w') :
  RunU P (Instr.mapUpdate t (.map (some b)) (.string s) x) w K := by
 obtain ⟨es, clock, hb, he⟩ := h
 have hlt : b < w.heap.size := by
  rcases Nat.lt_or_ge b w.heap.size with h' | h'
  ·exact h'
  ·rw [Array.getElem?_eq_none h'] at hb; cases hb
 rcases findNow_str s es.toList m 0 he with ⟨a1, a2, a3, _⟩ | ⟨v, j, a1, a2, a3, a4, a5, _⟩
 ·refine ⟨setO w b (.map (es.push { key := .string s, val := x, born := clock }) (clock + 1)), ?_, k _ ⟨_, _, zeL _ hlt, ?_⟩ (zbT _)⟩
  ·simp [Instr.mapUpdate, zaJ ht, getObj, setObj, Sem.run, hb, zeJ hk, Instr.findKey, zaJ hk, a2, setO]
  ·simp [a3, he, entP, smP]
 ·have e : (es.toList[j]?).map (·.key) = some (.string s) := a4
  have e2 : ((es[j]?).map (·.key)).getD (.string s) = .string s := by
   rw [← Array.getElem?_toList, e]; rfl
  refine ⟨setO w b (.map (es.modify j fun e => { e with key := .string s, val := x }) clock), ?_, k _ ⟨_, _, zeL _ hlt, ?_⟩ (zbT _)⟩
  ·simp [Instr.mapUpdate, zaJ ht, getObj, setObj, Sem.run, hb, zeJ hk, Instr.findKey, zaJ hk, a3, setO, e2, Instr.keyThatStays, Instr.sameBits, zkZ]
  ·rw [Array.toList_modify]; exact a5 x
end
end Go.Vc
namespace Go.Vc

end Go.Vc
namespace Go.Vc
open Go.Cs
end Go.Vc
namespace Go.Vc
open Go Go.Pw Go.RowKit Go.Cs Go.Lib
section
variable {P : Program} {w : World} {K : Value → World → Prop}
theorem RunV.rangeS {t : TypeId} {s : ByteArray} (h : P.underlying t = some .string) (k : K (.pointer (some ⟨w.heap.size, 0, none⟩)) (w.alloc (.stringIter s 0))) : RunV P (Instr.range t (.string s)) w K :=
 ⟨_, _, run_range_string w t s h, k⟩
theorem RunV.nextS {b pos : Nat} {s : ByteArray} {ty : TypeId} (h : w.heap[b]? = some (.stringIter s pos)) (hp : pos < s.size)
  (k : K (.tuple #[.bool true, .int .i64 (pos : Nat), .int .i32 ((decodeL ((L s).drop pos)).1 : Nat)]) (setO w b (.stringIter s (pos + (decodeL ((L s).drop pos)).2)))) :
  RunV P (Instr.next (.pointer (some ⟨b, 0, none⟩)) true ty) w K := by
 refine ⟨_, _, ?_, k⟩
 have e : Utf8.decode s pos = decodeL ((L s).drop pos) := (Lib.decodeL_drop s pos).symm
 simp only [Instr.next, getObj, setObj, Sem.run_bind, Sem.run, h, Result.andThen, hp, if_true, e]
 simp [goInt, setO]
theorem RunV.nextE {b pos : Nat} {s : ByteArray} {ty : TypeId} (h : w.heap[b]? = some (.stringIter s pos)) (hp : ¬ pos < s.size) (k : K (.tuple #[.bool false]) w) : RunV P (Instr.next (.pointer (some ⟨b, 0, none⟩)) true ty) w K := by
 refine ⟨_, _, ?_, k⟩
 simp [Instr.next, getObj, Sem.run, h, hp]
theorem zbo {b : Nat} {o : Obj} (h : w.heap[b]? = some o) : b < w.heap.size := by
 rcases Nat.lt_or_ge b w.heap.size with h' | h'
 ·exact h'
 ·rw [Array.getElem?_eq_none h'] at h; cases h
end
end Go.Vc
