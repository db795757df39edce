/- Helper lemmas; no conditions of their own. -/
import Derived.Shelf.Small.Strs
import Derived.Shelf.Sort.Plain
import Derived.Shelf.Slices.CompactI
import Derived.Shelf.Slices.CompactS
import Derived.Shelf.Slices.In.SortNone
import Derived.Shelf.Strings.BuilderK
import Derived.Shelf.Strings.BuilderRune
import Derived.Shelf.Strings.Prefix
import Derived.Shelf.Small.Utf8
import Derived.Shelf.Unicode.DecodeAny
import Derived.Shelf.Unicode.ValidAny
import Derived.Laws.RangeString
import Derived.Test.YtennokckmjcefaaGreatDoorGCt10
set_option linter.unusedVariables false
set_option maxHeartbeats 2000000
set_option maxRecDepth 100000
namespace Go.Proofs.YtennokckmjcefaaGreatDoor
open Go.RowKit Go.Pw Go.Vc Go.Cs Go.Lib
structure Sl where
 a : Option Addr
 n : Nat
 c : Nat
abbrev Sl.v (s : Sl) : Value := .slice s.a s.n s.c
abbrev inC (z : Int) : List Value := [.int .i64 z]
abbrev txC (s : List UInt8) : List Value := [.string (str s)]
abbrev RowI (w : World) (v : Value) (l : List Int) : Prop := RowO w v inC l
abbrev OwnI (w : World) (B : Nat) (v : Value) (l : List Int) : Prop := w.ownsRow B 3 1 v l.length (l.flatMap inC)
abbrev OwnT (w : World) (B : Nat) (v : Value) (l : List (List UInt8)) : Prop := w.ownsRow B 9 1 v l.length (l.flatMap txC)
abbrev own_ (v : Value) : Nat → Prop := fun k => v.ownBlock = some k
theorem RowO.len {α : Type} {w : World} {a : Option Addr} {n c : Nat} {f : α → List Value} {l : List α} (h : RowO w (.slice a n c) f l) : n = l.length := by
 obtain ⟨_, _, e, _⟩ := h
 injection e
abbrev Yl := @RowO.len
theorem zoj {α : Type} {w : World} {g o i : Nat} {l : List α} (f : α → Value) (h : At w g o (l.flatMap fun x => [f x])) (hi : i < l.length) : w.cell? ⟨g, o + i, none⟩ = some (f l[i]) := h i _ (by rw [flat1, List.getElem?_map, List.getElem?_eq_getElem hi]; rfl)
theorem zaJ {w : World} {g o i : Nat} {l : List Int} (h : At w g o (l.flatMap inC)) (hi : i < l.length) : w.cell? ⟨g, o + i, none⟩ = some (.int .i64 l[i]) := zoj (Value.int .i64) h hi
theorem zur {w : World} {g o i : Nat} {l : List (List UInt8)} (h : At w g o (l.flatMap txC)) (hi : i < l.length) : w.cell? ⟨g, o + i, none⟩ = some (.string (str l[i])) := zoj (fun s => Value.string (str s)) h hi
def idxP {α : Type} (p : α → Bool) (l : List α) : Int := match l.findIdx? p with | some i => (i : Nat) | none => -1
theorem zdH {α : Type} {p : α → Bool} {l : List α} {i : Nat} (h : i < l.length) (hp : p l[i] = true) (hn : ∀ j (h : j < l.length), j < i → p l[j] = false) : idxP p l = (i : Nat) := by
 unfold idxP
 rw [List.findIdx?_eq_some_iff_getElem.2 ⟨h, hp, fun j hj => by rw [hn j OM hj]; simp⟩]
theorem zef {α : Type} {p : α → Bool} {l : List α} (hn : ∀ j (h : j < l.length), p l[j] = false) : idxP p l = -1 := by
 unfold idxP
 rw [List.findIdx?_eq_none_iff.2 fun x hx => by obtain ⟨i, hi, rfl⟩ := ybh hx; exact hn i hi]
theorem zfb {α : Type} (p : α → Bool) (l : List α) : (0 ≤ idxP p l) ↔ l.any p = true := by
 unfold idxP
 cases h : l.findIdx? p with
 | none =>
  rw [List.findIdx?_eq_none_iff] at h
  simp only [List.any_eq_true]
  exact ⟨fun h => OM, fun ⟨x, hx, hp⟩ => by rw [h x hx] at hp; cases hp⟩
 | some i =>
  obtain ⟨h1, h2, _⟩ := List.findIdx?_eq_some_iff_getElem.1 h
  exact ⟨fun _ => List.any_eq_true.2 ⟨_, yak h1, h2⟩, fun _ => by simp⟩
theorem idxP_lt {α : Type} (p : α → Bool) (l : List α) : idxP p l = -1 ∨ ∃ i : Nat, ∃ h : i < l.length, idxP p l = (i : Nat) ∧ p l[i] = true ∧ ∀ j (hj : j < i), p (l[j]'OM) = false := by
 unfold idxP
 cases h : l.findIdx? p with
 | none => exact .inl rfl
 | some i =>
  obtain ⟨h1, h2, h3⟩ := List.findIdx?_eq_some_iff_getElem.1 h
  exact .inr ⟨i, h1, rfl, h2, fun j hj => by simpa using h3 j hj⟩
theorem infoI : (Tryz.prog.info? 3).map (fun i => (i.zero, i.size, i.bytes)) = some (some (.int .i64 0), 1, 8) := by kernel_rfl
theorem lenI (x : Int) : (inC x).length = 1 := rfl
theorem oneI (l : List Int) : ∀ u ∈ l.flatMap inC, u.oneCell' = true := fun u hu => by
 obtain ⟨b, _, hb⟩ := ybl.1 hu
 exact (show ∀ u ∈ inC b, u.oneCell' = true from yaF.1 (by rfl)) u hb
theorem zsy (w : World) : (Instr.buildSlice 40 0 [].toArray).run Tryz.prog w = .ok (.slice (some ⟨w.heap.size, 0, none⟩) 0 0) (w.alloc (.cells #[] 3)) := by
 simp [Instr.buildSlice, go_sem, Tryz.runUnderlying40]
theorem ztI {w : World} {v : Value} (l : List Int) (g : Nat) (c0 : Value) (p : Int → Bool) (hv : RowO w v inC l) (hl : l.length ≤ 17592186044416) (hg : ∀ (args : Array Value) (w : World), (callFunc g args).run Tryz.prog w = .ok (.enter g args) w)
  (hp : ∀ x ∈ l, ∀ w', Kp w w' n_ → Calls Tryz.prog g #[.int .i64 x, c0] w' fun e w'' => e = .returned (.bool (p x)) ∧ Kp w' w'' n_) :
  Calls Tryz.prog 236 #[v, .func (.func g) #[] #[c0]] w fun e w' => e = .returned (.int .i64 (idxP p l)) ∧ Kp w w' n_ := by
 obtain ⟨a, cap, rfl, hr⟩ := hv
 refine zaa (args := [.slice a l.length cap, .func (.func g) #[] #[c0]]) Tryz.func236 rfl NL ?_; refine GW ?_
 refine Yc (ι := Nat) (fun i => [(0, .slice a l.length cap), (1, .func (.func g) #[] #[c0]), (7, .int .i64 (l.length : Nat)), (8, .int .i64 (i : Nat))])
  (fun i wr => Kp w wr n_ ∧ i ≤ l.length ∧ ∀ j (h : j < l.length), j < i → p l[j] = false) (fun i => l.length - i) 0 FR ⟨Yb _ _, yal _, fun _ _ h => OM⟩ ?_
 rintro i gg wr ⟨hK, hi, he⟩
 refine GW ?_
 by_cases hlt : i < l.length
 ·obtain ⟨gb, o, rfl, hgb, hat⟩ := hr OM
  have hpc := hp l[i] (yak hlt) wr hK
  obtain ⟨q, hq⟩ : ∃ q, p l[i] = q := ⟨_, rfl⟩
  rw [hq] at hpc
  have hc := zaJ hat hlt
  refine KGO ?_
  refine Ya (hg _ _) hpc ?_
  rintro e w1 ⟨rfl, k1⟩
  refine RT ?_
  cases q with
  | true =>
   refine KGO ?_
   exact ⟨by rw [zdH hlt hq he], hK.trans0 k1⟩
  | false =>
   refine KGO ?_
   exact ⟨i + 1, FR, ⟨hK.trans0 k1, OM, fun j h hj => by
    rcases yby j i with h' | h'
    ·exact he j h h'
    obtain rfl : j = i := OM
    exact hq⟩, DO⟩
 refine KGO ?_
 exact ⟨by rw [zef fun j h => he j h OM], hK⟩
theorem cl_I {w : World} {v : Value} (l : List Int) (hv : RowO w v inC l) (hl : l.length ≤ 17592186044416) : Calls Tryz.prog 222 #[v] w fun e w' => ∃ v', e = .returned v' ∧ OwnI w' w.heap.size v' l ∧ Kp w w' n_ := by
 obtain ⟨a, cap, rfl, hr⟩ := hv
 have hnil : l.length = 0 → l = [] := yan
 rcases a with _ | ⟨gb, o, sp⟩
 ·obtain rfl : l = [] := hnil (by
   rcases ybj l.length with h | h
   ·exact h
   obtain ⟨g, o, h1, _⟩ := hr h; cases h1)
  refine zaa (args := [.slice none 0 cap]) Tryz.func222 rfl NL ?_; refine GW ?_
  refine KGO ?_
  exact ⟨_, rfl, World.ownsRow_nil _ _ _ _, Yb _ _⟩
 refine zaa (args := [.slice (some ⟨gb, o, sp⟩) l.length cap]) Tryz.func222 rfl NL ?_; refine GW ?_
 refine KGO ?_
 refine Ye (zsy _) ?_
 have o1 : (w.alloc (.cells #[] 3)).ownsRow w.heap.size 3 1 (.slice (some ⟨w.heap.size, 0, none⟩) 0 0) 0 [] := World.ownsRow_made w #[] 0 (yag _) (by decide) (by simp)
 have k1 : Kp w (w.alloc (.cells #[] 3)) n_ := (Yb _ _).alloc _
 have hB : w.heap.size ≤ (w.alloc (.cells #[] 3)).heap.size := k1.size
 generalize w.alloc (.cells #[] 3) = w1 at *
 refine KGO ?_
 have hnews : ∀ j u, (l.flatMap inC)[j]? = some u → w1.cell? ((⟨gb, o, sp⟩ : Addr).add j) = some u := fun j u hj => by
  rcases ybj l.length with h | h
  ·rw [hnil h] at hj; simp at hj
  obtain ⟨g', o', h1, _, h3⟩ := hr h
  injection h1 with h1
  injection h1 with h4 h5 h6
  subst h4; subst h5; subst h6
  rw [add_none]
  exact zao (h3 j u hj) k1
 refine RunN.app Tryz.underlying40 infoI rfl (by decide) o1 hB ⟨gb, o, sp⟩ l.length cap (l.flatMap inC) (flatK_len inC 1 lenI l) hnews (oneI l) OM OM fun v' w' h2 h3 => ?_
 obtain ⟨a', c', rfl⟩ : ∃ a c, v' = .slice a (0 + l.length) c := zab h2
 refine KGO ?_
 refine ⟨_, rfl, ?_, k1.own o1 (yag _) h3⟩
 rw [yaT, yaU] at h2
 rw [yaU]
 exact h2
end Go.Proofs.YtennokckmjcefaaGreatDoor
namespace Go.Proofs.YtennokckmjcefaaGreatDoor
open Go.Shelf Go.RowKit Go.Pw Go.Vc Go.Cs Go.Lib Go.Sort
def zuo : Go.Shelf.Ren := ⟨fun | 106 => 210 | 213 => 247 | 265 => 260 | n => n, fun | 3 => 3 | 5 => 5 | 9 => 9 | n => n, fun | n => n⟩
theorem zsl : Go.Proofs.Lays.n106 Tryz.prog zuo := {
 mixed := by kernel_rfl
 f106 := Tryz.func210.trans (congrArg some (by kernel_rfl))
 f213 := Tryz.func247.trans (congrArg some (by kernel_rfl))
 f265 := Tryz.func260.trans (congrArg some (by kernel_rfl))
 t3 := Tryz.underlying3
 a3 := Tryz.isAgg3
 z3 := Tryz.sizeOf3
 v3 := Tryz.zeroValue3
 t9 := Tryz.underlying9
 a9 := Tryz.isAgg9
 z9 := Tryz.sizeOf9
 v9 := Tryz.zeroValue9 }
def zuh : Go.Shelf.Ren := ⟨fun | 125 => 129 | 128 => 187 | 129 => 188 | 189 => 79 | 215 => 189 | 216 => 130 | 257 => 128 | 294 => 179 | 295 => 180 | 296 => 181 | 297 => 182 | 298 => 183 | 299 => 184 | 300 => 185 | 301 => 186 | 328 => 225 | 329 => 226 | 330 => 227 | 331 => 228 | 332 => 229 | 343 => 254 | n => n, fun | 0 => 0 | 3 => 3 | 4 => 4 | 5 => 5 | 9 => 9 | 28 => 40 | 46 => 153 | 51 => 204 | 53 => 206 | 131 => 104 | 182 => 197 | 183 => 198 | 218 => 236 | 222 => 234 | 228 => 259 | 229 => 61 | n => n, fun | n => n⟩
theorem znt : Go.Proofs.Lays.n189 Tryz.prog zuh := {
 mixed := by kernel_rfl
 f125 := Tryz.func129.trans (congrArg some (by kernel_rfl))
 f128 := Tryz.func187.trans (congrArg some (by kernel_rfl))
 f129 := Tryz.func188.trans (congrArg some (by kernel_rfl))
 f189 := Tryz.func79.trans (congrArg some (by kernel_rfl))
 f215 := Tryz.func189.trans (congrArg some (by kernel_rfl))
 f216 := Tryz.func130.trans (congrArg some (by kernel_rfl))
 f257 := Tryz.func128.trans (congrArg some (by kernel_rfl))
 f294 := Tryz.func179.trans (congrArg some (by kernel_rfl))
 f295 := Tryz.func180.trans (congrArg some (by kernel_rfl))
 f296 := Tryz.func181.trans (congrArg some (by kernel_rfl))
 f297 := Tryz.func182.trans (congrArg some (by kernel_rfl))
 f298 := Tryz.func183.trans (congrArg some (by kernel_rfl))
 f299 := Tryz.func184.trans (congrArg some (by kernel_rfl))
 f300 := Tryz.func185.trans (congrArg some (by kernel_rfl))
 f301 := Tryz.func186.trans (congrArg some (by kernel_rfl))
 f328 := Tryz.func225.trans (congrArg some (by kernel_rfl))
 f329 := Tryz.func226.trans (congrArg some (by kernel_rfl))
 f330 := Tryz.func227.trans (congrArg some (by kernel_rfl))
 f331 := Tryz.func228.trans (congrArg some (by kernel_rfl))
 f332 := Tryz.func229.trans (congrArg some (by kernel_rfl))
 f343 := Tryz.func254.trans (congrArg some (by kernel_rfl))
 t0 := Tryz.underlying0
 a0 := Tryz.isAgg0
 z0 := Tryz.sizeOf0
 v0 := Tryz.zeroValue0
 t3 := Tryz.underlying3
 a3 := Tryz.isAgg3
 z3 := Tryz.sizeOf3
 v3 := Tryz.zeroValue3
 t4 := Tryz.underlying4
 a4 := Tryz.isAgg4
 z4 := Tryz.sizeOf4
 v4 := Tryz.zeroValue4
 t5 := Tryz.underlying5
 a5 := Tryz.isAgg5
 z5 := Tryz.sizeOf5
 v5 := Tryz.zeroValue5
 t9 := Tryz.underlying9
 a9 := Tryz.isAgg9
 z9 := Tryz.sizeOf9
 v9 := Tryz.zeroValue9
 t28 := Tryz.underlying40
 a28 := Tryz.isAgg40
 z28 := Tryz.sizeOf40
 v28 := Tryz.zeroValue40
 t46 := Tryz.underlying153
 a46 := Tryz.isAgg153
 z46 := Tryz.sizeOf153
 v46 := Tryz.zeroValue153
 t51 := Tryz.underlying204
 a51 := Tryz.isAgg204
 z51 := Tryz.sizeOf204
 v51 := Tryz.zeroValue204
 t53 := Tryz.underlying206
 a53 := Tryz.isAgg206
 z53 := Tryz.sizeOf206
 v53 := Tryz.zeroValue206
 t131 := Tryz.underlying104
 a131 := Tryz.isAgg104
 z131 := Tryz.sizeOf104
 v131 := Tryz.zeroValue104
 t182 := Tryz.underlying197
 a182 := Tryz.isAgg197
 z182 := Tryz.sizeOf197
 v182 := Tryz.zeroValue197
 t183 := Tryz.underlying198
 a183 := Tryz.isAgg198
 z183 := Tryz.sizeOf198
 v183 := Tryz.zeroValue198
 t218 := Tryz.underlying236
 a218 := Tryz.isAgg236
 z218 := Tryz.sizeOf236
 v218 := Tryz.zeroValue236
 t222 := Tryz.underlying234
 a222 := Tryz.isAgg234
 z222 := Tryz.sizeOf234
 v222 := Tryz.zeroValue234
 t228 := Tryz.underlying259
 a228 := Tryz.isAgg259
 z228 := Tryz.sizeOf259
 v228 := Tryz.zeroValue259
 t229 := Tryz.underlying61
 a229 := Tryz.isAgg61
 z229 := Tryz.sizeOf61
 v229 := Tryz.zeroValue61 }
def zpM : Go.Shelf.Ren := ⟨fun | 20 => 106 | n => n, fun | 0 => 0 | 3 => 3 | 4 => 4 | 5 => 5 | 22 => 40 | n => n, fun | n => n⟩
theorem zfA : Go.Proofs.Lays2.n20 Tryz.prog zpM := {
 mixed := by kernel_rfl
 f20 := Tryz.func106.trans (congrArg some (by kernel_rfl))
 t0 := Tryz.underlying0
 a0 := Tryz.isAgg0
 z0 := Tryz.sizeOf0
 v0 := Tryz.zeroValue0
 t3 := Tryz.underlying3
 a3 := Tryz.isAgg3
 z3 := Tryz.sizeOf3
 v3 := Tryz.zeroValue3
 t4 := Tryz.underlying4
 a4 := Tryz.isAgg4
 z4 := Tryz.sizeOf4
 v4 := Tryz.zeroValue4
 t22 := Tryz.underlying40
 a22 := Tryz.isAgg40
 z22 := Tryz.sizeOf40
 v22 := Tryz.zeroValue40
 i3 := by kernel_rfl }
theorem ziU (a b : ByteArray) (w : World) : Calls Tryz.prog 210 #[.string a, .string b] w fun e w' => e = .returned (.int .i64 (compareBytes (L a) (L b))) ∧ w = w' :=
 (Any.strings_Compare zsl a b w).mono fun e w' h => ⟨h.1, h.2.symm⟩
section
variable {w : World} {B g cap : Nat}
theorem srt_I {v : Value} (l : List Int) (ho : OwnI w B v l) (hl : l.length ≤ 17592186044416) : Calls Tryz.prog 79 #[v] w fun e w' => e = .returned (.tuple #[]) ∧ OwnI w' B v (l.mergeSort fun x y => decide (x ≤ y)) ∧ Kp w w' (own_ v) := by
 rcases own_blockK ho with ⟨rfl, h0⟩ | ⟨g, cap, cells, rfl, hBg, hv, hnc, hcm, hcl, htk⟩
 ·obtain rfl : l = [] := yan h0
  exact (Any.slices_Sort_int_none znt none 0 w).mono fun e w' h => ⟨h.1, by rw [h.2, List.mergeSort_nil]; exact ho, by rw [h.2]; exact Yb _ _⟩
 have htk : cells.take l.length = l.map (Value.int .i64) := by rw [← flat1]; rw [Nat.mul_one] at htk; exact htk
 refine (Any.slices_Sort_int znt g 0 cap l w (zfJ hv htk) hv.lt OM).mono ?_
 rintro e w' ⟨rfl, n, os, rfl⟩
 refine ⟨rfl, ?_, (zfO _).mono fun q _ hq => by have hq : q = g := hq; rw [hq]; rfl⟩
 have := zol (enc := (Value.int .i64)) (q := n) (os := os) ho (l.mergeSort fun x y => decide (x ≤ y)) (yba _) (yag _)
 rw [← flat1, yaz (by rw [yba]; exact yag _)] at this
 unfold OwnI
 rw [yba]
 exact this
theorem cmp_I {v : Value} (l : List Int) (ho : OwnI w B v l) (hl : l.length ≤ 17592186044416) : Calls Tryz.prog 106 #[v] w fun e w' => ∃ v', e = .returned v' ∧ OwnI w' B v' (compact l) ∧ Kp w w' (own_ v) ∧ v'.ownBlock = v.ownBlock := by
 rcases own_blockK ho with ⟨rfl, h0⟩ | ⟨g, cap, cells, rfl, hBg, hv, hnc, hcm, hcl, htk⟩
 ·obtain rfl : l = [] := yan h0
  exact (Any.slices_Compact_int_empty zfA none 0 w).mono fun e w' h => ⟨_, h.1, by rw [h.2]; exact ho, by rw [h.2]; exact Yb _ _, rfl⟩
 by_cases h0 : l = []
 ·subst h0
  exact (Any.slices_Compact_int_empty zfA (some ⟨g, 0, none⟩) cap w).mono fun e w' h => ⟨_, h.1, by rw [h.2]; exact ho, by rw [h.2]; exact Yb _ _, rfl⟩
 have htk : cells.take l.length = l.map (Value.int .i64) := by rw [← flat1]; rw [Nat.mul_one] at htk; exact htk
 refine (Any.slices_Compact_int zfA g 0 cap l w (zfJ hv htk) OM hnc).mono ?_
 rintro e w' ⟨rfl, n, hw⟩
 rw [← grow_empty (putRow _ _ _ _ _)] at hw
 subst hw
 have hle : (compact l).length ≤ l.length := by
  unfold compact compactUpTo
  rw [yaf]
  refine yaw (yaK _ _) ?_
  simp
 refine ⟨_, rfl, ?_, (zfO _).mono fun q _ hq => by have hq : q = g := hq; rw [hq]; rfl, rfl⟩
 have := zol (enc := (Value.int .i64)) (q := n) (os := #[]) ho (compact l ++ List.replicate (l.length - (compact l).length) 0) (by rw [yaa, List.length_replicate]; omega) (m := (compact l).length) hle
 rw [yaZ, ← flat1] at this
 exact this
end
end Go.Proofs.YtennokckmjcefaaGreatDoor
namespace Go.Proofs.YtennokckmjcefaaGreatDoor
open Go.Shelf Go.RowKit Go.Pw Go.Vc Go.Cs Go.Lib
def ztU : Go.Shelf.Ren := ⟨fun | 118 => 148 | n => n, fun | 3 => 3 | 4 => 4 | 5 => 5 | 21 => 21 | n => n, fun | n => n⟩
theorem zsz : Go.Proofs.Lays.n118 Tryz.prog ztU := {
 mixed := by kernel_rfl
 f118 := Tryz.func148.trans (congrArg some (by kernel_rfl))
 t3 := Tryz.underlying3
 a3 := Tryz.isAgg3
 z3 := Tryz.sizeOf3
 v3 := Tryz.zeroValue3
 t4 := Tryz.underlying4
 a4 := Tryz.isAgg4
 z4 := Tryz.sizeOf4
 v4 := Tryz.zeroValue4
 t21 := Tryz.underlying21
 a21 := Tryz.isAgg21
 z21 := Tryz.sizeOf21
 v21 := Tryz.zeroValue21 }
def zrJ : Go.Shelf.Ren := ⟨fun | 166 => 66 | 240 => 122 | 276 => 174 | n => n, fun | 0 => 0 | 3 => 3 | 4 => 4 | 5 => 5 | 9 => 9 | 20 => 20 | 37 => 91 | 70 => 90 | 72 => 93 | 75 => 95 | 80 => 29 | 164 => 191 | n => n, fun | n => n⟩
theorem zsu : Go.Proofs.Lays.n166 Tryz.prog zrJ := {
 mixed := by kernel_rfl
 f166 := Tryz.func66.trans (congrArg some (by kernel_rfl))
 f240 := Tryz.func122.trans (congrArg some (by kernel_rfl))
 f276 := Tryz.func174.trans (congrArg some (by kernel_rfl))
 t0 := Tryz.underlying0
 a0 := Tryz.isAgg0
 z0 := Tryz.sizeOf0
 v0 := Tryz.zeroValue0
 t3 := Tryz.underlying3
 a3 := Tryz.isAgg3
 z3 := Tryz.sizeOf3
 v3 := Tryz.zeroValue3
 t4 := Tryz.underlying4
 a4 := Tryz.isAgg4
 z4 := Tryz.sizeOf4
 v4 := Tryz.zeroValue4
 t9 := Tryz.underlying9
 a9 := Tryz.isAgg9
 z9 := Tryz.sizeOf9
 v9 := Tryz.zeroValue9
 t20 := Tryz.underlying20
 a20 := Tryz.isAgg20
 z20 := Tryz.sizeOf20
 v20 := Tryz.zeroValue20
 t37 := Tryz.underlying91
 a37 := Tryz.isAgg91
 z37 := Tryz.sizeOf91
 v37 := Tryz.zeroValue91
 t70 := Tryz.underlying90
 a70 := Tryz.isAgg90
 z70 := Tryz.sizeOf90
 v70 := Tryz.zeroValue90
 t72 := Tryz.underlying93
 a72 := Tryz.isAgg93
 z72 := Tryz.sizeOf93
 v72 := Tryz.zeroValue93
 t75 := Tryz.underlying95
 a75 := Tryz.isAgg95
 z75 := Tryz.sizeOf95
 v75 := Tryz.zeroValue95
 t164 := Tryz.underlying191
 a164 := Tryz.isAgg191
 z164 := Tryz.sizeOf191
 v164 := Tryz.zeroValue191 }
def zrP : Go.Shelf.Ren := ⟨fun | 167 => 123 | 240 => 122 | 276 => 174 | n => n, fun | 0 => 0 | 4 => 4 | 5 => 5 | 9 => 9 | 20 => 20 | 37 => 91 | 70 => 90 | 72 => 93 | 75 => 95 | 80 => 29 | 164 => 191 | n => n, fun | n => n⟩
theorem ztA : Go.Proofs.Lays.n167 Tryz.prog zrP := {
 mixed := by kernel_rfl
 f167 := Tryz.func123.trans (congrArg some (by kernel_rfl))
 f240 := Tryz.func122.trans (congrArg some (by kernel_rfl))
 f276 := Tryz.func174.trans (congrArg some (by kernel_rfl))
 t0 := Tryz.underlying0
 a0 := Tryz.isAgg0
 z0 := Tryz.sizeOf0
 v0 := Tryz.zeroValue0
 t4 := Tryz.underlying4
 a4 := Tryz.isAgg4
 z4 := Tryz.sizeOf4
 v4 := Tryz.zeroValue4
 t5 := Tryz.underlying5
 a5 := Tryz.isAgg5
 z5 := Tryz.sizeOf5
 v5 := Tryz.zeroValue5
 t9 := Tryz.underlying9
 a9 := Tryz.isAgg9
 z9 := Tryz.sizeOf9
 v9 := Tryz.zeroValue9
 t20 := Tryz.underlying20
 a20 := Tryz.isAgg20
 z20 := Tryz.sizeOf20
 v20 := Tryz.zeroValue20
 t37 := Tryz.underlying91
 a37 := Tryz.isAgg91
 z37 := Tryz.sizeOf91
 v37 := Tryz.zeroValue91
 t70 := Tryz.underlying90
 a70 := Tryz.isAgg90
 z70 := Tryz.sizeOf90
 v70 := Tryz.zeroValue90
 t72 := Tryz.underlying93
 a72 := Tryz.isAgg93
 z72 := Tryz.sizeOf93
 v72 := Tryz.zeroValue93
 t75 := Tryz.underlying95
 a75 := Tryz.isAgg95
 z75 := Tryz.sizeOf95
 v75 := Tryz.zeroValue95
 t164 := Tryz.underlying191
 a164 := Tryz.isAgg191
 z164 := Tryz.sizeOf191
 v164 := Tryz.zeroValue191 }
def zrL : Go.Shelf.Ren := ⟨fun | 168 => 212 | 240 => 122 | 242 => 248 | 276 => 174 | 278 => 261 | n => n, fun | 0 => 0 | 3 => 3 | 4 => 4 | 5 => 5 | 9 => 9 | 20 => 20 | 21 => 21 | 37 => 91 | 46 => 153 | 51 => 204 | 70 => 90 | 72 => 93 | 75 => 95 | 80 => 29 | 164 => 191 | n => n, fun | n => n⟩
theorem zsi : Go.Proofs.Lays.n168 Tryz.prog zrL := {
 mixed := by kernel_rfl
 f168 := Tryz.func212.trans (congrArg some (by kernel_rfl))
 f240 := Tryz.func122.trans (congrArg some (by kernel_rfl))
 f242 := Tryz.func248.trans (congrArg some (by kernel_rfl))
 f276 := Tryz.func174.trans (congrArg some (by kernel_rfl))
 f278 := Tryz.func261.trans (congrArg some (by kernel_rfl))
 t0 := Tryz.underlying0
 a0 := Tryz.isAgg0
 z0 := Tryz.sizeOf0
 v0 := Tryz.zeroValue0
 t3 := Tryz.underlying3
 a3 := Tryz.isAgg3
 z3 := Tryz.sizeOf3
 v3 := Tryz.zeroValue3
 t4 := Tryz.underlying4
 a4 := Tryz.isAgg4
 z4 := Tryz.sizeOf4
 v4 := Tryz.zeroValue4
 t5 := Tryz.underlying5
 a5 := Tryz.isAgg5
 z5 := Tryz.sizeOf5
 v5 := Tryz.zeroValue5
 t9 := Tryz.underlying9
 a9 := Tryz.isAgg9
 z9 := Tryz.sizeOf9
 v9 := Tryz.zeroValue9
 t20 := Tryz.underlying20
 a20 := Tryz.isAgg20
 z20 := Tryz.sizeOf20
 v20 := Tryz.zeroValue20
 t21 := Tryz.underlying21
 a21 := Tryz.isAgg21
 z21 := Tryz.sizeOf21
 v21 := Tryz.zeroValue21
 t37 := Tryz.underlying91
 a37 := Tryz.isAgg91
 z37 := Tryz.sizeOf91
 v37 := Tryz.zeroValue91
 t46 := Tryz.underlying153
 a46 := Tryz.isAgg153
 z46 := Tryz.sizeOf153
 v46 := Tryz.zeroValue153
 t51 := Tryz.underlying204
 a51 := Tryz.isAgg204
 z51 := Tryz.sizeOf204
 v51 := Tryz.zeroValue204
 t70 := Tryz.underlying90
 a70 := Tryz.isAgg90
 z70 := Tryz.sizeOf90
 v70 := Tryz.zeroValue90
 t72 := Tryz.underlying93
 a72 := Tryz.isAgg93
 z72 := Tryz.sizeOf93
 v72 := Tryz.zeroValue93
 t75 := Tryz.underlying95
 a75 := Tryz.isAgg95
 z75 := Tryz.sizeOf95
 v75 := Tryz.zeroValue95
 t164 := Tryz.underlying191
 a164 := Tryz.isAgg191
 z164 := Tryz.sizeOf191
 v164 := Tryz.zeroValue191 }
def zro : Go.Shelf.Ren := ⟨fun | 169 => 71 | n => n, fun | 0 => 0 | 3 => 3 | 5 => 5 | 9 => 9 | 37 => 91 | 70 => 90 | 72 => 93 | 127 => 148 | n => n, fun | n => n⟩
theorem zsb : Go.Proofs.Lays.n169 Tryz.prog zro := {
 mixed := by kernel_rfl
 f169 := Tryz.func71.trans (congrArg some (by kernel_rfl))
 t0 := Tryz.underlying0
 a0 := Tryz.isAgg0
 z0 := Tryz.sizeOf0
 v0 := Tryz.zeroValue0
 t3 := Tryz.underlying3
 a3 := Tryz.isAgg3
 z3 := Tryz.sizeOf3
 v3 := Tryz.zeroValue3
 t9 := Tryz.underlying9
 a9 := Tryz.isAgg9
 z9 := Tryz.sizeOf9
 v9 := Tryz.zeroValue9
 t37 := Tryz.underlying91
 a37 := Tryz.isAgg91
 z37 := Tryz.sizeOf91
 v37 := Tryz.zeroValue91
 t70 := Tryz.underlying90
 a70 := Tryz.isAgg90
 z70 := Tryz.sizeOf90
 v70 := Tryz.zeroValue90
 t72 := Tryz.underlying93
 a72 := Tryz.isAgg93
 z72 := Tryz.sizeOf93
 v72 := Tryz.zeroValue93
 t127 := Tryz.underlying148
 a127 := Tryz.isAgg148
 z127 := Tryz.sizeOf148
 v127 := Tryz.zeroValue148 }
def ren99 : Go.Shelf.Ren := ⟨fun | 99 => 111 | 206 => 168 | n => n, fun | 3 => 3 | 4 => 4 | 5 => 5 | 9 => 9 | n => n, fun | n => n⟩
theorem ztV : Go.Proofs.Lays.n99 Tryz.prog ren99 := {
 mixed := by kernel_rfl
 f99 := Tryz.func111.trans (congrArg some (by kernel_rfl))
 f206 := Tryz.func168.trans (congrArg some (by kernel_rfl))
 t3 := Tryz.underlying3
 a3 := Tryz.isAgg3
 z3 := Tryz.sizeOf3
 v3 := Tryz.zeroValue3
 t4 := Tryz.underlying4
 a4 := Tryz.isAgg4
 z4 := Tryz.sizeOf4
 v4 := Tryz.zeroValue4
 t9 := Tryz.underlying9
 a9 := Tryz.isAgg9
 z9 := Tryz.sizeOf9
 v9 := Tryz.zeroValue9 }
theorem ztC : Builder.Extra Tryz.prog zrJ := {
 sizeBuilder := by kernel_rfl
 liesBuilder := by kernel_rfl
 t5 := Tryz.underlying5
 a5 := Tryz.isAgg5
 z5 := Tryz.sizeOf5
 v5 := Tryz.zeroValue5
 infoByte := by kernel_rfl
 cellsByte := by kernel_rfl
 sizeByte := by kernel_rfl
 neB5 := by decide }
theorem ztE : Builder.Extra Tryz.prog zrP := {
 sizeBuilder := by kernel_rfl
 liesBuilder := by kernel_rfl
 t5 := Tryz.underlying5
 a5 := Tryz.isAgg5
 z5 := Tryz.sizeOf5
 v5 := Tryz.zeroValue5
 infoByte := by kernel_rfl
 cellsByte := by kernel_rfl
 sizeByte := by kernel_rfl
 neB5 := by decide }
theorem ztR : Builder.Extra Tryz.prog zrL := {
 sizeBuilder := by kernel_rfl
 liesBuilder := by kernel_rfl
 t5 := Tryz.underlying5
 a5 := Tryz.isAgg5
 z5 := Tryz.sizeOf5
 v5 := Tryz.zeroValue5
 infoByte := by kernel_rfl
 cellsByte := by kernel_rfl
 sizeByte := by kernel_rfl
 neB5 := by decide }
theorem zug : Builder.Extra Tryz.prog zro := {
 sizeBuilder := by kernel_rfl
 liesBuilder := by kernel_rfl
 t5 := Tryz.underlying5
 a5 := Tryz.isAgg5
 z5 := Tryz.sizeOf5
 v5 := Tryz.zeroValue5
 infoByte := by kernel_rfl
 cellsByte := by kernel_rfl
 sizeByte := by kernel_rfl
 neB5 := by decide }
def Bld (w : World) (B b : Nat) (l : List UInt8) : Prop := IsBuilderF 93 5 B b (Go.Lib.byteCells l) w
theorem zna (r : Int) (w : World) : Calls Tryz.prog 148 #[.int .i32 r] w fun e w' => e = .returned (.int .i64 (runeLen r)) ∧ w = w' :=
 (Any.utf8_RuneLen zsz r w).mono fun e w' ⟨h1, h2⟩ => ⟨h1, h2.symm⟩
theorem zaP {B b : Nat} {l : List UInt8} (s : ByteArray) (w : World) (h : Bld w B b l) (hl : l.length + s.size ≤ 140737488355328) (hB : B ≤ w.heap.size) :
  Calls Tryz.prog 66 #[.pointer (some ⟨b, 0, none⟩), .string s] w fun e w' => e = .returned (.tuple #[.int .i64 s.size, .nilIface]) ∧ Bld w' B b (l ++ L s) ∧ Below B w w' ∧ OthersKept 5 (some b) w w' :=
 (Any.Builder_WriteString_k zsu ztC B b _ s w h (by rw [Go.Lib.byteCells_length]; exact hl) hB).mono fun e w' ⟨h1, h2, h3⟩ => ⟨h1, .inr (by rw [Go.Lib.byteCells_append]; exact h2), h3⟩
theorem zdA {B b : Nat} {l : List UInt8} (c : UInt8) (w : World) (h : Bld w B b l) (hl : l.length + 1 ≤ 140737488355328) (hB : B ≤ w.heap.size) :
  Calls Tryz.prog 123 #[.pointer (some ⟨b, 0, none⟩), .int .u8 c.toNat] w fun e w' => e = .returned .nilIface ∧ Bld w' B b (l ++ [c]) ∧ Below B w w' ∧ OthersKept 5 (some b) w w' :=
 (Any.Builder_WriteByte_k ztA ztE B b _ c.toNat w h (by rw [Go.Lib.byteCells_length]; exact hl) hB).mono fun e w' ⟨h1, h2, h3⟩ => ⟨h1, .inr (by rw [Go.Lib.byteCells_append]; exact h2), h3⟩
theorem zfG {B b : Nat} {l : List UInt8} (r : Int) (h0 : -2147483648 ≤ r) (h1 : r ≤ 2147483647) (w : World) (h : Bld w B b l) (hl : l.length + 4 ≤ 140737488355328) (hB : B ≤ w.heap.size) :
  Calls Tryz.prog 212 #[.pointer (some ⟨b, 0, none⟩), .int .i32 r] w fun e w' => (∃ n, e = .returned (.tuple #[.int .i64 n, .nilIface])) ∧ Bld w' B b (l ++ encodeRune r) ∧ Below B w w' ∧ OthersKept 5 (some b) w w' :=
 (Any.Builder_WriteRune_k zsi ztR B b _ r h0 h1 w h (by rw [Go.Lib.byteCells_length]; exact hl) hB).mono fun e w' ⟨h1, h2, h3⟩ => ⟨⟨_, h1⟩, .inr (by rw [byteCells_append, byteCells_encodeRune]; exact h2), h3⟩
theorem zdo {B b : Nat} {l : List UInt8} (w : World) (h : Bld w B b l) (hB : B ≤ w.heap.size) :
  Calls Tryz.prog 71 #[.pointer (some ⟨b, 0, none⟩)] w fun e w' => e = .returned (.string (str l)) ∧ Bld w' B b l ∧ Below B w w' ∧ OthersKept 5 (some b) w w' :=
 Any.Builder_String_any_k zsb zug B b l w h hB
theorem zex (w : World) (B : Nat) (hB : B ≤ w.heap.size) : Bld (w.alloc (.cells #[.pointer none, .slice none 0 0] 93)) B w.heap.size [] :=
 .inl ⟨hB, _, heap_alloc_new _ _, World.ownsRowF_of (World.ownsRow_nil _ _ _ _), by simp [Value.ownBlock]⟩
end Go.Proofs.YtennokckmjcefaaGreatDoor
namespace Go.Vc
open Go Go.Pw Go.RowKit
end Go.Vc
namespace Go.Vc
open Go
theorem zid (i j : Nat) (h : i + j ≤ 1000000000000) : IntKind.i64.wrap ((IntKind.u64.wrap ((i : Int) + (j : Int))).fdiv (2 ^ min (Int.toNat 1) IntKind.u64.bits)) = (((i + j) / 2 : Nat) : Int) := by
 have h1 : IntKind.u64.wrap ((i : Int) + (j : Int)) = ((i + j : Nat) : Int) := by
  unfold IntKind.wrap; simp [IntKind.signed, IntKind.bits]; omega
 have h2 : (2 : Int) ^ min (Int.toNat 1) IntKind.u64.bits = 2 := by decide
 rw [h1, h2, Int.fdiv_eq_ediv_of_nonneg _ OM]
 rw [wrap_i64 _ OM]
 omega
end Go.Vc
namespace Go.Proofs.YtennokckmjcefaaGreatDoor
open Go.RowKit Go.Pw Go.Vc Go.Cs Go.Lib
def spV (x : Int × Int × Int) : List Value := [.int .i64 x.1, .int .i64 x.2.1, .int .i64 x.2.2]
def zeV (w : World) : Prop := ∃ b o c, w.cell? ⟨0, 0, none⟩ = some (.slice (some ⟨b, o, none⟩) 19 c) ∧ ∀ i, i < 19 → At w b (o + i * 3) (spV (cutSp i))
theorem zbe {w w' : World} {b o : Nat} {vs : List Value} (h : At w b o vs) (k : Kp w w' n_) : At w' b o vs := fun i v hi => by
 have := h i v hi
 rw [k.cell (zeN this) id]; exact this
theorem zeV.keep {w w' : World} (h : zeV w) (k : Kp w w' n_) : zeV w' := by
 obtain ⟨b, o, c, h1, h2⟩ := h
 exact ⟨b, o, c, by rw [k.cell (zeN h1) id]; exact h1, fun i hi => zbe (h2 i hi) k⟩
section
variable {w : World}
theorem znE (a b : Int) : Calls Tryz.prog 209 #[.int .i64 a, .int .i64 b] w fun e w' => e = .returned (.int .i64 (cmp3 a b)) ∧ w = w' := by
 have hn : ∀ (x : Int) (w : World), Calls Tryz.prog 189 #[.int .i64 x] w fun e w' => e = .returned (.bool false) ∧ w = w' := by
  intro x w
  refine zaa (args := [.int .i64 x]) Tryz.func189 rfl NL ?_; refine GW ?_
  exact ⟨ret_bool (by simp), rfl⟩
 refine zaa (args := [.int .i64 a, .int .i64 b]) Tryz.func209 rfl NL ?_; refine GW ?_
 refine Ya (Tryz.call189 _ _) (hn a w) ?_
 rintro e w1 ⟨rfl, rfl⟩
 refine RT ?_
 refine Ya (Tryz.call189 _ _) (hn b w) ?_
 rintro e w1 ⟨rfl, rfl⟩
 refine RT ?_
 unfold cmp3
 by_cases h1 : a < b
 ·refine GO ?_
  exact ⟨by rw [if_pos h1], rfl⟩
 by_cases h2 : b < a
 ·refine GO ?_
  exact ⟨by rw [if_neg h1, if_pos h2], rfl⟩
 refine GO ?_
 exact ⟨by rw [if_neg h1, if_neg h2], rfl⟩
theorem zlC (i : Nat) (hi : i < 19) (r : Int) : Calls Tryz.prog 215 #[.agg (spV (cutSp i)).toArray, .int .i64 r] w fun e w' => e = .returned (.int .i64 (cmpC i r)) ∧ Kp w w' n_ := by
 unfold cmpC spV
 generalize cutSp i = x
 obtain ⟨lo, hi', kd⟩ := x
 dsimp only
 refine zaa (args := [.agg #[.int .i64 lo, .int .i64 hi', .int .i64 kd], .int .i64 r]) Tryz.func215 rfl NL ?_; refine GW ?_
 have k0 : Kp w (w.alloc (.cells #[.int .i64 lo, .int .i64 hi', .int .i64 kd] 229)) n_ := (Yb _ _).alloc _
 have hA := zfi (heap_alloc_new w (.cells #[.int .i64 lo, .int .i64 hi', .int .i64 kd] 229))
 have c0 : (w.alloc (.cells #[.int .i64 lo, .int .i64 hi', .int .i64 kd] 229)).cell? ⟨w.heap.size, 0, none⟩ = some (.int .i64 lo) := hA 0 _ rfl
 have c1 : (w.alloc (.cells #[.int .i64 lo, .int .i64 hi', .int .i64 kd] 229)).cell? ⟨w.heap.size, 0 + 1, none⟩ = some (.int .i64 hi') := hA 1 _ rfl
 generalize w.alloc (.cells #[.int .i64 lo, .int .i64 hi', .int .i64 kd] 229) = w1 at *
 by_cases h1 : lo ≤ r
 ·by_cases h2 : r ≤ hi'
  ·refine GO ?_
   exact ⟨by rw [if_pos ⟨h1, h2⟩], k0⟩
  refine GO ?_
  refine Ya (Tryz.call209 _ _) (znE lo r) ?_
  rintro e w2 ⟨rfl, rfl⟩
  refine RT ?_
  exact ⟨by rw [if_neg OM], k0⟩
 refine GO ?_
 refine Ya (Tryz.call209 _ _) (znE lo r) ?_
 rintro e w2 ⟨rfl, rfl⟩
 refine RT ?_
 exact ⟨by rw [if_neg OM], k0⟩
theorem ztQ (b o c : Nat) (hT : ∀ i, i < 19 → At w b (o + i * 3) (spV (cutSp i))) (r : Int) : Calls Tryz.prog 214 #[.slice (some ⟨b, o, none⟩) 19 c, .int .i64 r, .func (.func 215) #[] #[]] w fun e w' =>
  ∃ k, e = .returned (.tuple #[.int .i64 (k : Nat), .bool (decide (k < 19 ∧ cmpC k r = 0))]) ∧ Pos (fun i => cmpC i r) 19 k ∧ Kp w w' n_ := by
 refine zaa (args := [.slice (some ⟨b, o, none⟩) 19 c, .int .i64 r, .func (.func 215) #[] #[]]) Tryz.func214 rfl NL ?_; refine GW ?_
 refine Yc (ι := Nat × Nat) (fun p => [(0, .slice (some ⟨b, o, none⟩) 19 c), (1, .int .i64 r), (2, .func (.func 215) #[] #[]), (8, .int .i64 19), (9, .int .i64 p.1), (10, .int .i64 p.2)])
  (fun p wr => Kp w wr n_ ∧ p.1 ≤ p.2 ∧ p.2 ≤ 19 ∧ (∀ m, m < p.1 → cmpC m r < 0) ∧ ∀ m, p.2 ≤ m → m < 19 → 0 ≤ cmpC m r) (fun p => p.2 - p.1) (0, 19) FR
  ⟨Yb _ _, OM, yag _, fun m hm => OM, fun m h1 h2 => OM⟩ ?_
 rintro ⟨i, j⟩ g wr ⟨hK, hij, hj, hlo, hhi⟩
 dsimp only at hij hj hlo hhi ⊢
 refine GW ?_
 by_cases hlt : i < j
 ·refine GO ?_
  rw [zid i j OM]
  have hm1 : i ≤ (i + j) / 2 := OM
  have hm2 : (i + j) / 2 < j := OM
  generalize (i + j) / 2 = h at *
  refine GO ?_
  refine Load.agg (spV (cutSp h)) (by rfl) (by rfl) (by rfl) (zbe (hT h OM) hK) ?_
  refine GO ?_
  refine Ya (Tryz.call215 _ _) (zlC h OM r) ?_
  rintro e w1 ⟨rfl, k1⟩
  refine RT ?_
  by_cases hc : cmpC h r < 0
  ·refine GO ?_
   refine ⟨(h + 1, j), FR, ⟨hK.trans0 k1, DO, hj, fun m hm => ?_, hhi⟩, DO⟩
   by_cases e : m = h
   ·rw [e]; exact hc
   exact zit m h (by dsimp only at hm; omega) OM r hc
  refine GO ?_
  refine ⟨(i, h), FR, ⟨hK.trans0 k1, DO, DO, hlo, fun m m1 m2 => ?_⟩, DO⟩
  dsimp only at m1
  by_cases e : m = h
  ·rw [e]; omega
  have hx : ¬ cmpC m r < 0 := fun hn => hc (zit h m OM m2 r hn)
  omega
 have hji : j = i := OM
 subst hji
 have hpos : Pos (fun i => cmpC i r) 19 j := ⟨hj, hlo, hhi⟩
 by_cases h19 : j < 19
 ·refine GO ?_
  refine Load.agg (spV (cutSp j)) (by rfl) (by rfl) (by rfl) (zbe (hT j h19) hK) ?_
  refine GO ?_
  refine Ya (Tryz.call215 _ _) (zlC j h19 r) ?_
  rintro e w1 ⟨rfl, k1⟩
  refine RT ?_
  refine GO ?_
  exact ⟨j, by rw [show decide (j < 19 ∧ cmpC j r = 0) = (cmpC j r == 0) by by_cases h0 : cmpC j r = 0 <;> simp [h0, h19]], hpos, hK.trans0 k1⟩
 refine GO ?_
 exact ⟨j, by rw [show decide (j < 19 ∧ cmpC j r = 0) = false by simp [h19]], hpos, hK⟩
end
end Go.Proofs.YtennokckmjcefaaGreatDoor
namespace Go.Vc
open Go Go.Pw Go.RowKit
abbrev SM := List (ByteArray × Value)
section
variable {P : Program} {w : World} {b : Nat} {m : SM} {t kt et : TypeId} {K : Value → World → Prop}
def setO (w : World) (b : Nat) (o : Obj) : World := { w with heap := w.heap.set! b o }
theorem zkh (o : Obj) (hb : b < w.heap.size) : (setO w b o).heap[b]? = some o := by
 simp [setO, hb]
theorem zdu (o : Obj) : Kp w (setO w b o) (one_ b) :=
 ⟨rfl, rfl, rfl, by simp [setO], fun k hk hn => by
  have : b ≠ k := fun e => hn e.symm
  simp [setO, this]⟩
end
end Go.Vc
namespace Go.Vc

end Go.Vc
namespace Go.Vc
open Go.Cs
end Go.Vc
namespace Go.Vc
open Go Go.Pw Go.RowKit Go.Cs Go.Lib
section
variable {P : Program} {w : World} {K : Value → World → Prop}
theorem RunV.rangeS {t : TypeId} {s : ByteArray} (h : P.underlying t = some .string) (k : K (.pointer (some ⟨w.heap.size, 0, none⟩)) (w.alloc (.stringIter s 0))) : RunV P (Instr.range t (.string s)) w K :=
 ⟨_, _, run_range_string w t s h, k⟩
theorem RunV.nextS {b pos : Nat} {s : ByteArray} {ty : TypeId} (h : w.heap[b]? = some (.stringIter s pos)) (hp : pos < s.size)
  (k : K (.tuple #[.bool true, .int .i64 (pos : Nat), .int .i32 ((decodeL ((L s).drop pos)).1 : Nat)]) (setO w b (.stringIter s (pos + (decodeL ((L s).drop pos)).2)))) :
  RunV P (Instr.next (.pointer (some ⟨b, 0, none⟩)) true ty) w K := by
 refine ⟨_, _, ?_, k⟩
 have e : Utf8.decode s pos = decodeL ((L s).drop pos) := (Lib.decodeL_drop s pos).symm
 simp only [Instr.next, getObj, setObj, Sem.run_bind, Sem.run, h, Result.andThen, hp, if_true, e]
 simp [goInt, setO]
theorem RunV.nextE {b pos : Nat} {s : ByteArray} {ty : TypeId} (h : w.heap[b]? = some (.stringIter s pos)) (hp : ¬ pos < s.size) (k : K (.tuple #[.bool false]) w) : RunV P (Instr.next (.pointer (some ⟨b, 0, none⟩)) true ty) w K := by
 refine ⟨_, _, ?_, k⟩
 simp [Instr.next, getObj, Sem.run, h, hp]
theorem zbD {b : Nat} {o : Obj} (h : w.heap[b]? = some o) : b < w.heap.size := by
 rcases yby b w.heap.size with h' | h'
 ·exact h'
 rw [Array.getElem?_eq_none h'] at h; cases h
end
end Go.Vc
