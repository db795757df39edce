/- Helper text of this claim: lemmas and contracts that the proved statement rests on; no conditions of its own. -/
import Derived.Shelf.Small.Strs
import Derived.Shelf.Sort.Plain
import Derived.Shelf.Slices.CompactI
import Derived.Shelf.Slices.CompactS
import Derived.Shelf.Slices.In.SortNone
import Derived.Shelf.Strings.BuilderK
import Derived.Shelf.Strings.BuilderRune
import Derived.Shelf.Strings.Prefix
import Derived.Shelf.Small.Utf8
import Derived.Shelf.Unicode.DecodeAny
import Derived.Shelf.Unicode.ValidAny
import Derived.Test.YtohhkegmbgancaaGreatDoorGKit10
namespace Go.Proofs.YtohhkegmbgancaaGreatDoor
set_option maxHeartbeats 2000000
open Go.RowKit Go.Pw Go.Vc Go.Cs Go.Lib
set_option linter.unusedVariables false
set_option maxRecDepth 100000
theorem zpN {w : World} {v : Value} (l : List Sc) (hv : RowO w v srcC l) (hl : l.length ≤ 1000000) : Calls Tryz.prog 91 #[v] w fun e w' => ∃ v', e = .returned v' ∧ OwnSrc w' w.heap.size v' l ∧ Kp w w' n_ := by
 obtain ⟨a, cap, rfl, hr⟩ := hv
 have hnil : l.length = 0 → l = [] := List.eq_nil_of_length_eq_zero
 rcases a with _ | ⟨gb, o, sp⟩
 ·obtain rfl : l = [] := hnil (by
   rcases Nat.eq_zero_or_pos l.length with h | h
   ·exact h
   ·obtain ⟨g, o, h1, _⟩ := hr h; cases h1)
  refine zaa (args := [.slice none 0 cap]) Tryz.func91 rfl NL ?_; refine GW ?_
  refine KGO ?_
  exact ⟨_, rfl, World.ownsRow_nil _ _ _ _, Kp.refl _ _⟩
 ·refine zaa (args := [.slice (some ⟨gb, o, sp⟩) l.length cap]) Tryz.func91 rfl NL ?_; refine GW ?_
  refine KGO ?_
  refine RunV.of (build0Src _) ?_
  have o1 : (w.alloc (.cells #[] 76)).ownsRow w.heap.size 76 2 (.slice (some ⟨w.heap.size, 0, none⟩) 0 0) 0 [] := World.ownsRow_made w #[] 0 (Nat.le_refl _) (by decide) (by simp)
  have k1 : Kp w (w.alloc (.cells #[] 76)) n_ := (Kp.refl _ _).alloc _
  have hB : w.heap.size ≤ (w.alloc (.cells #[] 76)).heap.size := k1.size
  generalize w.alloc (.cells #[] 76) = w1 at *
  refine KGO ?_
  have hnews : ∀ j u, (l.flatMap srcC)[j]? = some u → w1.cell? ((⟨gb, o, sp⟩ : Addr).add j) = some u := fun j u hj => by
   rcases Nat.eq_zero_or_pos l.length with h | h
   ·rw [hnil h] at hj; simp at hj
   ·obtain ⟨g', o', h1, _, h3⟩ := hr h
    injection h1 with h1
    injection h1 with h4 h5 h6
    subst h4; subst h5; subst h6
    rw [add_none]
    exact zak (h3 j u hj) k1
  refine RunN.app Tryz.underlying33 infoSrc rfl (by decide) o1 hB ⟨gb, o, sp⟩ l.length cap (l.flatMap srcC) (zaC srcC 2 lenSrc l) hnews (oneSrc l) (by omega) (by omega) fun v' w' h2 h3 => ?_
  obtain ⟨a', c', rfl⟩ : ∃ a c, v' = .slice a (0 + l.length) c := zab h2
  refine KGO ?_
  refine ⟨_, rfl, ?_, k1.own o1 (Nat.le_refl _) h3⟩
  rw [List.nil_append, Nat.zero_add] at h2
  rw [Nat.zero_add]
  exact h2
theorem cl_Sn {w : World} {v : Value} (l : List Sn) (hv : RowO w v snC l) (hl : l.length ≤ 1000000) : Calls Tryz.prog 92 #[v] w fun e w' => ∃ v', e = .returned v' ∧ OwnSn w' w.heap.size v' l ∧ Kp w w' n_ := by
 obtain ⟨a, cap, rfl, hr⟩ := hv
 have hnil : l.length = 0 → l = [] := List.eq_nil_of_length_eq_zero
 rcases a with _ | ⟨gb, o, sp⟩
 ·obtain rfl : l = [] := hnil (by
   rcases Nat.eq_zero_or_pos l.length with h | h
   ·exact h
   ·obtain ⟨g, o, h1, _⟩ := hr h; cases h1)
  refine zaa (args := [.slice none 0 cap]) Tryz.func92 rfl NL ?_; refine GW ?_
  refine KGO ?_
  exact ⟨_, rfl, World.ownsRow_nil _ _ _ _, Kp.refl _ _⟩
 ·refine zaa (args := [.slice (some ⟨gb, o, sp⟩) l.length cap]) Tryz.func92 rfl NL ?_; refine GW ?_
  refine KGO ?_
  refine RunV.of (build0Sn _) ?_
  have o1 : (w.alloc (.cells #[] 78)).ownsRow w.heap.size 78 2 (.slice (some ⟨w.heap.size, 0, none⟩) 0 0) 0 [] := World.ownsRow_made w #[] 0 (Nat.le_refl _) (by decide) (by simp)
  have k1 : Kp w (w.alloc (.cells #[] 78)) n_ := (Kp.refl _ _).alloc _
  have hB : w.heap.size ≤ (w.alloc (.cells #[] 78)).heap.size := k1.size
  generalize w.alloc (.cells #[] 78) = w1 at *
  refine KGO ?_
  have hnews : ∀ j u, (l.flatMap snC)[j]? = some u → w1.cell? ((⟨gb, o, sp⟩ : Addr).add j) = some u := fun j u hj => by
   rcases Nat.eq_zero_or_pos l.length with h | h
   ·rw [hnil h] at hj; simp at hj
   ·obtain ⟨g', o', h1, _, h3⟩ := hr h
    injection h1 with h1
    injection h1 with h4 h5 h6
    subst h4; subst h5; subst h6
    rw [add_none]
    exact zak (h3 j u hj) k1
  refine RunN.app Tryz.underlying34 infoSn rfl (by decide) o1 hB ⟨gb, o, sp⟩ l.length cap (l.flatMap snC) (zaC snC 2 lenSn l) hnews (oneSn l) (by omega) (by omega) fun v' w' h2 h3 => ?_
  obtain ⟨a', c', rfl⟩ : ∃ a c, v' = .slice a (0 + l.length) c := zab h2
  refine KGO ?_
  refine ⟨_, rfl, ?_, k1.own o1 (Nat.le_refl _) h3⟩
  rw [List.nil_append, Nat.zero_add] at h2
  rw [Nat.zero_add]
  exact h2
theorem cl_Ml {w : World} {v : Value} (l : List Mr) (hv : RowO w v mrC l) (hl : l.length ≤ 1000000) : Calls Tryz.prog 93 #[v] w fun e w' => ∃ v', e = .returned v' ∧ OwnMl w' w.heap.size v' l ∧ Kp w w' n_ := by
 obtain ⟨a, cap, rfl, hr⟩ := hv
 have hnil : l.length = 0 → l = [] := List.eq_nil_of_length_eq_zero
 rcases a with _ | ⟨gb, o, sp⟩
 ·obtain rfl : l = [] := hnil (by
   rcases Nat.eq_zero_or_pos l.length with h | h
   ·exact h
   ·obtain ⟨g, o, h1, _⟩ := hr h; cases h1)
  refine zaa (args := [.slice none 0 cap]) Tryz.func93 rfl NL ?_; refine GW ?_
  refine KGO ?_
  exact ⟨_, rfl, World.ownsRow_nil _ _ _ _, Kp.refl _ _⟩
 ·refine zaa (args := [.slice (some ⟨gb, o, sp⟩) l.length cap]) Tryz.func93 rfl NL ?_; refine GW ?_
  refine KGO ?_
  refine RunV.of (build0Ml _) ?_
  have o1 : (w.alloc (.cells #[] 42)).ownsRow w.heap.size 42 38 (.slice (some ⟨w.heap.size, 0, none⟩) 0 0) 0 [] := World.ownsRow_made w #[] 0 (Nat.le_refl _) (by decide) (by simp)
  have k1 : Kp w (w.alloc (.cells #[] 42)) n_ := (Kp.refl _ _).alloc _
  have hB : w.heap.size ≤ (w.alloc (.cells #[] 42)).heap.size := k1.size
  generalize w.alloc (.cells #[] 42) = w1 at *
  refine KGO ?_
  have hnews : ∀ j u, (l.flatMap mrC)[j]? = some u → w1.cell? ((⟨gb, o, sp⟩ : Addr).add j) = some u := fun j u hj => by
   rcases Nat.eq_zero_or_pos l.length with h | h
   ·rw [hnil h] at hj; simp at hj
   ·obtain ⟨g', o', h1, _, h3⟩ := hr h
    injection h1 with h1
    injection h1 with h4 h5 h6
    subst h4; subst h5; subst h6
    rw [add_none]
    exact zak (h3 j u hj) k1
  refine RunN.app Tryz.underlying32 infoMl rfl (by decide) o1 hB ⟨gb, o, sp⟩ l.length cap (l.flatMap mrC) (zaC mrC 38 lenMl l) hnews (oneMl l) (by omega) (by omega) fun v' w' h2 h3 => ?_
  obtain ⟨a', c', rfl⟩ : ∃ a c, v' = .slice a (0 + l.length) c := zab h2
  refine KGO ?_
  refine ⟨_, rfl, ?_, k1.own o1 (Nat.le_refl _) h3⟩
  rw [List.nil_append, Nat.zero_add] at h2
  rw [Nat.zero_add]
  exact h2
theorem cl_I {w : World} {v : Value} (l : List Int) (hv : RowO w v inC l) (hl : l.length ≤ 17592186044416) : Calls Tryz.prog 96 #[v] w fun e w' => ∃ v', e = .returned v' ∧ OwnI w' w.heap.size v' l ∧ Kp w w' n_ := by
 obtain ⟨a, cap, rfl, hr⟩ := hv
 have hnil : l.length = 0 → l = [] := List.eq_nil_of_length_eq_zero
 rcases a with _ | ⟨gb, o, sp⟩
 ·obtain rfl : l = [] := hnil (by
   rcases Nat.eq_zero_or_pos l.length with h | h
   ·exact h
   ·obtain ⟨g, o, h1, _⟩ := hr h; cases h1)
  refine zaa (args := [.slice none 0 cap]) Tryz.func96 rfl NL ?_; refine GW ?_
  refine KGO ?_
  exact ⟨_, rfl, World.ownsRow_nil _ _ _ _, Kp.refl _ _⟩
 ·refine zaa (args := [.slice (some ⟨gb, o, sp⟩) l.length cap]) Tryz.func96 rfl NL ?_; refine GW ?_
  refine KGO ?_
  refine RunV.of (build0I _) ?_
  have o1 : (w.alloc (.cells #[] 3)).ownsRow w.heap.size 3 1 (.slice (some ⟨w.heap.size, 0, none⟩) 0 0) 0 [] := World.ownsRow_made w #[] 0 (Nat.le_refl _) (by decide) (by simp)
  have k1 : Kp w (w.alloc (.cells #[] 3)) n_ := (Kp.refl _ _).alloc _
  have hB : w.heap.size ≤ (w.alloc (.cells #[] 3)).heap.size := k1.size
  generalize w.alloc (.cells #[] 3) = w1 at *
  refine KGO ?_
  have hnews : ∀ j u, (l.flatMap inC)[j]? = some u → w1.cell? ((⟨gb, o, sp⟩ : Addr).add j) = some u := fun j u hj => by
   rcases Nat.eq_zero_or_pos l.length with h | h
   ·rw [hnil h] at hj; simp at hj
   ·obtain ⟨g', o', h1, _, h3⟩ := hr h
    injection h1 with h1
    injection h1 with h4 h5 h6
    subst h4; subst h5; subst h6
    rw [add_none]
    exact zak (h3 j u hj) k1
  refine RunN.app Tryz.underlying25 infoI rfl (by decide) o1 hB ⟨gb, o, sp⟩ l.length cap (l.flatMap inC) (zaC inC 1 lenI l) hnews (oneI l) (by omega) (by omega) fun v' w' h2 h3 => ?_
  obtain ⟨a', c', rfl⟩ : ∃ a c, v' = .slice a (0 + l.length) c := zab h2
  refine KGO ?_
  refine ⟨_, rfl, ?_, k1.own o1 (Nat.le_refl _) h3⟩
  rw [List.nil_append, Nat.zero_add] at h2
  rw [Nat.zero_add]
  exact h2
theorem cl_T {w : World} {v : Value} (l : List (List UInt8)) (hv : RowO w v txC l) (hl : l.length ≤ 8796093022208) : Calls Tryz.prog 97 #[v] w fun e w' => ∃ v', e = .returned v' ∧ OwnT w' w.heap.size v' l ∧ Kp w w' n_ := by
 obtain ⟨a, cap, rfl, hr⟩ := hv
 have hnil : l.length = 0 → l = [] := List.eq_nil_of_length_eq_zero
 rcases a with _ | ⟨gb, o, sp⟩
 ·obtain rfl : l = [] := hnil (by
   rcases Nat.eq_zero_or_pos l.length with h | h
   ·exact h
   ·obtain ⟨g, o, h1, _⟩ := hr h; cases h1)
  refine zaa (args := [.slice none 0 cap]) Tryz.func97 rfl NL ?_; refine GW ?_
  refine KGO ?_
  exact ⟨_, rfl, World.ownsRow_nil _ _ _ _, Kp.refl _ _⟩
 ·refine zaa (args := [.slice (some ⟨gb, o, sp⟩) l.length cap]) Tryz.func97 rfl NL ?_; refine GW ?_
  refine KGO ?_
  refine RunV.of (build0T _) ?_
  have o1 : (w.alloc (.cells #[] 9)).ownsRow w.heap.size 9 1 (.slice (some ⟨w.heap.size, 0, none⟩) 0 0) 0 [] := World.ownsRow_made w #[] 0 (Nat.le_refl _) (by decide) (by simp)
  have k1 : Kp w (w.alloc (.cells #[] 9)) n_ := (Kp.refl _ _).alloc _
  have hB : w.heap.size ≤ (w.alloc (.cells #[] 9)).heap.size := k1.size
  generalize w.alloc (.cells #[] 9) = w1 at *
  refine KGO ?_
  have hnews : ∀ j u, (l.flatMap txC)[j]? = some u → w1.cell? ((⟨gb, o, sp⟩ : Addr).add j) = some u := fun j u hj => by
   rcases Nat.eq_zero_or_pos l.length with h | h
   ·rw [hnil h] at hj; simp at hj
   ·obtain ⟨g', o', h1, _, h3⟩ := hr h
    injection h1 with h1
    injection h1 with h4 h5 h6
    subst h4; subst h5; subst h6
    rw [add_none]
    exact zak (h3 j u hj) k1
  refine RunN.app Tryz.underlying26 textInfo rfl (by decide) o1 hB ⟨gb, o, sp⟩ l.length cap (l.flatMap txC) (zaC txC 1 lenT l) hnews (oneT l) (by omega) (by omega) fun v' w' h2 h3 => ?_
  obtain ⟨a', c', rfl⟩ : ∃ a c, v' = .slice a (0 + l.length) c := zab h2
  refine KGO ?_
  refine ⟨_, rfl, ?_, k1.own o1 (Nat.le_refl _) h3⟩
  rw [List.nil_append, Nat.zero_add] at h2
  rw [Nat.zero_add]
  exact h2
end Go.Proofs.YtohhkegmbgancaaGreatDoor
namespace Go.Proofs.YtohhkegmbgancaaGreatDoor
set_option maxHeartbeats 2000000
open Go.Shelf Go.RowKit Go.Pw Go.Vc Go.Cs Go.Lib Go.Sort
set_option linter.unusedVariables false
set_option maxRecDepth 100000
def ren106 : Go.Shelf.Ren := ⟨fun | 106 => 149 | 213 => 180 | 265 => 214 | n => n, fun | 3 => 3 | 5 => 5 | 9 => 9 | n => n, fun | n => n⟩
theorem lays106 : Go.Proofs.Lays.n106 Tryz.prog ren106 := {
 mixed := by kernel_rfl
 f106 := Tryz.func149.trans (congrArg some (by kernel_rfl))
 f213 := Tryz.func180.trans (congrArg some (by kernel_rfl))
 f265 := Tryz.func214.trans (congrArg some (by kernel_rfl))
 t3 := Tryz.underlying3
 a3 := Tryz.isAgg3
 z3 := Tryz.sizeOf3
 v3 := Tryz.zeroValue3
 t9 := Tryz.underlying9
 a9 := Tryz.isAgg9
 z9 := Tryz.sizeOf9
 v9 := Tryz.zeroValue9 }
def ren137 : Go.Shelf.Ren := ⟨fun | 137 => 178 | 217 => 213 | 266 => 232 | n => n, fun | 3 => 3 | 5 => 5 | 9 => 9 | n => n, fun | n => n⟩
theorem lays137 : Go.Proofs.Lays.n137 Tryz.prog ren137 := {
 mixed := by kernel_rfl
 f137 := Tryz.func178.trans (congrArg some (by kernel_rfl))
 f217 := Tryz.func213.trans (congrArg some (by kernel_rfl))
 f266 := Tryz.func232.trans (congrArg some (by kernel_rfl))
 t3 := Tryz.underlying3
 a3 := Tryz.isAgg3
 z3 := Tryz.sizeOf3
 v3 := Tryz.zeroValue3
 t5 := Tryz.underlying5
 a5 := Tryz.isAgg5
 z5 := Tryz.sizeOf5
 v5 := Tryz.zeroValue5
 t9 := Tryz.underlying9
 a9 := Tryz.isAgg9
 z9 := Tryz.sizeOf9
 v9 := Tryz.zeroValue9 }
def ren189 : Go.Shelf.Ren := ⟨fun | 125 => 176 | 128 => 202 | 129 => 203 | 189 => 132 | 215 => 153 | 216 => 199 | 257 => 175 | 294 => 193 | 295 => 194 | 296 => 195 | 297 => 196 | 298 => 197 | 299 => 198 | 300 => 200 | 301 => 201 | 328 => 223 | 329 => 224 | 330 => 225 | 331 => 226 | 332 => 227 | 343 => 235 | n => n, fun | 0 => 0 | 3 => 3 | 4 => 4 | 5 => 5 | 9 => 9 | 28 => 25 | 46 => 160 | 51 => 206 | 53 => 208 | 131 => 70 | 182 => 199 | 183 => 200 | 218 => 221 | 222 => 225 | 228 => 230 | 229 => 231 | n => n, fun | n => n⟩
theorem lays189 : Go.Proofs.Lays.n189 Tryz.prog ren189 := {
 mixed := by kernel_rfl
 f125 := Tryz.func176.trans (congrArg some (by kernel_rfl))
 f128 := Tryz.func202.trans (congrArg some (by kernel_rfl))
 f129 := Tryz.func203.trans (congrArg some (by kernel_rfl))
 f189 := Tryz.func132.trans (congrArg some (by kernel_rfl))
 f215 := Tryz.func153.trans (congrArg some (by kernel_rfl))
 f216 := Tryz.func199.trans (congrArg some (by kernel_rfl))
 f257 := Tryz.func175.trans (congrArg some (by kernel_rfl))
 f294 := Tryz.func193.trans (congrArg some (by kernel_rfl))
 f295 := Tryz.func194.trans (congrArg some (by kernel_rfl))
 f296 := Tryz.func195.trans (congrArg some (by kernel_rfl))
 f297 := Tryz.func196.trans (congrArg some (by kernel_rfl))
 f298 := Tryz.func197.trans (congrArg some (by kernel_rfl))
 f299 := Tryz.func198.trans (congrArg some (by kernel_rfl))
 f300 := Tryz.func200.trans (congrArg some (by kernel_rfl))
 f301 := Tryz.func201.trans (congrArg some (by kernel_rfl))
 f328 := Tryz.func223.trans (congrArg some (by kernel_rfl))
 f329 := Tryz.func224.trans (congrArg some (by kernel_rfl))
 f330 := Tryz.func225.trans (congrArg some (by kernel_rfl))
 f331 := Tryz.func226.trans (congrArg some (by kernel_rfl))
 f332 := Tryz.func227.trans (congrArg some (by kernel_rfl))
 f343 := Tryz.func235.trans (congrArg some (by kernel_rfl))
 t0 := Tryz.underlying0
 a0 := Tryz.isAgg0
 z0 := Tryz.sizeOf0
 v0 := Tryz.zeroValue0
 t3 := Tryz.underlying3
 a3 := Tryz.isAgg3
 z3 := Tryz.sizeOf3
 v3 := Tryz.zeroValue3
 t4 := Tryz.underlying4
 a4 := Tryz.isAgg4
 z4 := Tryz.sizeOf4
 v4 := Tryz.zeroValue4
 t5 := Tryz.underlying5
 a5 := Tryz.isAgg5
 z5 := Tryz.sizeOf5
 v5 := Tryz.zeroValue5
 t9 := Tryz.underlying9
 a9 := Tryz.isAgg9
 z9 := Tryz.sizeOf9
 v9 := Tryz.zeroValue9
 t28 := Tryz.underlying25
 a28 := Tryz.isAgg25
 z28 := Tryz.sizeOf25
 v28 := Tryz.zeroValue25
 t46 := Tryz.underlying160
 a46 := Tryz.isAgg160
 z46 := Tryz.sizeOf160
 v46 := Tryz.zeroValue160
 t51 := Tryz.underlying206
 a51 := Tryz.isAgg206
 z51 := Tryz.sizeOf206
 v51 := Tryz.zeroValue206
 t53 := Tryz.underlying208
 a53 := Tryz.isAgg208
 z53 := Tryz.sizeOf208
 v53 := Tryz.zeroValue208
 t131 := Tryz.underlying70
 a131 := Tryz.isAgg70
 z131 := Tryz.sizeOf70
 v131 := Tryz.zeroValue70
 t182 := Tryz.underlying199
 a182 := Tryz.isAgg199
 z182 := Tryz.sizeOf199
 v182 := Tryz.zeroValue199
 t183 := Tryz.underlying200
 a183 := Tryz.isAgg200
 z183 := Tryz.sizeOf200
 v183 := Tryz.zeroValue200
 t218 := Tryz.underlying221
 a218 := Tryz.isAgg221
 z218 := Tryz.sizeOf221
 v218 := Tryz.zeroValue221
 t222 := Tryz.underlying225
 a222 := Tryz.isAgg225
 z222 := Tryz.sizeOf225
 v222 := Tryz.zeroValue225
 t228 := Tryz.underlying230
 a228 := Tryz.isAgg230
 z228 := Tryz.sizeOf230
 v228 := Tryz.zeroValue230
 t229 := Tryz.underlying231
 a229 := Tryz.isAgg231
 z229 := Tryz.sizeOf231
 v229 := Tryz.zeroValue231 }
def ren190 : Go.Shelf.Ren := ⟨fun | 125 => 176 | 128 => 202 | 129 => 203 | 190 => 134 | 258 => 177 | 302 => 204 | 303 => 205 | 304 => 206 | 305 => 207 | 306 => 208 | 307 => 209 | 308 => 210 | 309 => 211 | 310 => 212 | 329 => 224 | 330 => 225 | 333 => 228 | 334 => 229 | 335 => 230 | 336 => 231 | 344 => 236 | n => n, fun | 0 => 0 | 3 => 3 | 4 => 4 | 5 => 5 | 9 => 9 | 31 => 26 | 46 => 160 | 51 => 206 | 53 => 208 | 131 => 70 | 182 => 199 | 183 => 200 | 218 => 221 | 222 => 225 | 228 => 230 | 229 => 231 | n => n, fun | n => n⟩
theorem lays190 : Go.Proofs.Lays.n190 Tryz.prog ren190 := {
 mixed := by kernel_rfl
 f125 := Tryz.func176.trans (congrArg some (by kernel_rfl))
 f128 := Tryz.func202.trans (congrArg some (by kernel_rfl))
 f129 := Tryz.func203.trans (congrArg some (by kernel_rfl))
 f190 := Tryz.func134.trans (congrArg some (by kernel_rfl))
 f258 := Tryz.func177.trans (congrArg some (by kernel_rfl))
 f302 := Tryz.func204.trans (congrArg some (by kernel_rfl))
 f303 := Tryz.func205.trans (congrArg some (by kernel_rfl))
 f304 := Tryz.func206.trans (congrArg some (by kernel_rfl))
 f305 := Tryz.func207.trans (congrArg some (by kernel_rfl))
 f306 := Tryz.func208.trans (congrArg some (by kernel_rfl))
 f307 := Tryz.func209.trans (congrArg some (by kernel_rfl))
 f308 := Tryz.func210.trans (congrArg some (by kernel_rfl))
 f309 := Tryz.func211.trans (congrArg some (by kernel_rfl))
 f310 := Tryz.func212.trans (congrArg some (by kernel_rfl))
 f329 := Tryz.func224.trans (congrArg some (by kernel_rfl))
 f330 := Tryz.func225.trans (congrArg some (by kernel_rfl))
 f333 := Tryz.func228.trans (congrArg some (by kernel_rfl))
 f334 := Tryz.func229.trans (congrArg some (by kernel_rfl))
 f335 := Tryz.func230.trans (congrArg some (by kernel_rfl))
 f336 := Tryz.func231.trans (congrArg some (by kernel_rfl))
 f344 := Tryz.func236.trans (congrArg some (by kernel_rfl))
 t0 := Tryz.underlying0
 a0 := Tryz.isAgg0
 z0 := Tryz.sizeOf0
 v0 := Tryz.zeroValue0
 t3 := Tryz.underlying3
 a3 := Tryz.isAgg3
 z3 := Tryz.sizeOf3
 v3 := Tryz.zeroValue3
 t4 := Tryz.underlying4
 a4 := Tryz.isAgg4
 z4 := Tryz.sizeOf4
 v4 := Tryz.zeroValue4
 t5 := Tryz.underlying5
 a5 := Tryz.isAgg5
 z5 := Tryz.sizeOf5
 v5 := Tryz.zeroValue5
 t9 := Tryz.underlying9
 a9 := Tryz.isAgg9
 z9 := Tryz.sizeOf9
 v9 := Tryz.zeroValue9
 t31 := Tryz.underlying26
 a31 := Tryz.isAgg26
 z31 := Tryz.sizeOf26
 v31 := Tryz.zeroValue26
 t46 := Tryz.underlying160
 a46 := Tryz.isAgg160
 z46 := Tryz.sizeOf160
 v46 := Tryz.zeroValue160
 t51 := Tryz.underlying206
 a51 := Tryz.isAgg206
 z51 := Tryz.sizeOf206
 v51 := Tryz.zeroValue206
 t53 := Tryz.underlying208
 a53 := Tryz.isAgg208
 z53 := Tryz.sizeOf208
 v53 := Tryz.zeroValue208
 t131 := Tryz.underlying70
 a131 := Tryz.isAgg70
 z131 := Tryz.sizeOf70
 v131 := Tryz.zeroValue70
 t182 := Tryz.underlying199
 a182 := Tryz.isAgg199
 z182 := Tryz.sizeOf199
 v182 := Tryz.zeroValue199
 t183 := Tryz.underlying200
 a183 := Tryz.isAgg200
 z183 := Tryz.sizeOf200
 v183 := Tryz.zeroValue200
 t218 := Tryz.underlying221
 a218 := Tryz.isAgg221
 z218 := Tryz.sizeOf221
 v218 := Tryz.zeroValue221
 t222 := Tryz.underlying225
 a222 := Tryz.isAgg225
 z222 := Tryz.sizeOf225
 v222 := Tryz.zeroValue225
 t228 := Tryz.underlying230
 a228 := Tryz.isAgg230
 z228 := Tryz.sizeOf230
 v228 := Tryz.zeroValue230
 t229 := Tryz.underlying231
 a229 := Tryz.isAgg231
 z229 := Tryz.sizeOf231
 v229 := Tryz.zeroValue231 }
def ren194 : Go.Shelf.Ren := ⟨fun | 194 => 135 | n => n, fun | 0 => 0 | 3 => 3 | 4 => 4 | 5 => 5 | 9 => 9 | 31 => 26 | n => n, fun | n => n⟩
theorem lays194 : Go.Proofs.Lays.n194 Tryz.prog ren194 := {
 mixed := by kernel_rfl
 f194 := Tryz.func135.trans (congrArg some (by kernel_rfl))
 t0 := Tryz.underlying0
 a0 := Tryz.isAgg0
 z0 := Tryz.sizeOf0
 v0 := Tryz.zeroValue0
 t3 := Tryz.underlying3
 a3 := Tryz.isAgg3
 z3 := Tryz.sizeOf3
 v3 := Tryz.zeroValue3
 t4 := Tryz.underlying4
 a4 := Tryz.isAgg4
 z4 := Tryz.sizeOf4
 v4 := Tryz.zeroValue4
 t9 := Tryz.underlying9
 a9 := Tryz.isAgg9
 z9 := Tryz.sizeOf9
 v9 := Tryz.zeroValue9
 t31 := Tryz.underlying26
 a31 := Tryz.isAgg26
 z31 := Tryz.sizeOf26
 v31 := Tryz.zeroValue26 }
def renL2_20 : Go.Shelf.Ren := ⟨fun | 20 => 133 | n => n, fun | 0 => 0 | 3 => 3 | 4 => 4 | 5 => 5 | 22 => 25 | n => n, fun | n => n⟩
theorem zeV : Go.Proofs.Lays2.n20 Tryz.prog renL2_20 := {
 mixed := by kernel_rfl
 f20 := Tryz.func133.trans (congrArg some (by kernel_rfl))
 t0 := Tryz.underlying0
 a0 := Tryz.isAgg0
 z0 := Tryz.sizeOf0
 v0 := Tryz.zeroValue0
 t3 := Tryz.underlying3
 a3 := Tryz.isAgg3
 z3 := Tryz.sizeOf3
 v3 := Tryz.zeroValue3
 t4 := Tryz.underlying4
 a4 := Tryz.isAgg4
 z4 := Tryz.sizeOf4
 v4 := Tryz.zeroValue4
 t22 := Tryz.underlying25
 a22 := Tryz.isAgg25
 z22 := Tryz.sizeOf25
 v22 := Tryz.zeroValue25
 i3 := by kernel_rfl }
theorem zkx (a b : ByteArray) (w : World) : Calls Tryz.prog 149 #[.string a, .string b] w fun e w' => e = .returned (.int .i64 (compareBytes (L a) (L b))) ∧ w = w' :=
 (Any.strings_Compare lays106 a b w).mono fun e w' h => ⟨h.1, h.2.symm⟩
theorem zcW (s : ByteArray) (c : UInt8) (w : World) : Calls Tryz.prog 178 #[.string s, .int .u8 c.toNat] w fun e w' => e = .returned (.int .i64 (indexByte (L s) c)) ∧ w = w' :=
 (Any.strings_IndexByte lays137 s c.toNat w).mono fun e w' h => ⟨by rw [h.1]; simp [L], h.2.symm⟩
section
variable {w : World} {B g cap : Nat}
theorem srt_I {v : Value} (l : List Int) (ho : OwnI w B v l) (hl : l.length ≤ 17592186044416) : Calls Tryz.prog 132 #[v] w fun e w' => e = .returned (.tuple #[]) ∧ OwnI w' B v (l.mergeSort fun x y => decide (x ≤ y)) ∧ Kp w w' (own_ v) := by
 rcases own_blockK ho with ⟨rfl, h0⟩ | ⟨g, cap, cells, rfl, hBg, hv, hnc, hcm, hcl, htk⟩
 ·obtain rfl : l = [] := List.eq_nil_of_length_eq_zero h0
  exact (Any.slices_Sort_int_none lays189 none 0 w).mono fun e w' h => ⟨h.1, by rw [h.2, List.mergeSort_nil]; exact ho, by rw [h.2]; exact Kp.refl _ _⟩
 ·have htk : cells.take l.length = l.map (Value.int .i64) := by rw [← flat1]; rw [Nat.mul_one] at htk; exact htk
  refine (Any.slices_Sort_int lays189 g 0 cap l w (zdh hv htk) hv.lt (by omega)).mono ?_
  rintro e w' ⟨rfl, n, os, rfl⟩
  refine ⟨rfl, ?_, (zdE _).mono fun q _ hq => by have hq : q = g := hq; rw [hq]; rfl⟩
  have := zgQ (enc := (Value.int .i64)) (q := n) (os := os) ho (l.mergeSort fun x y => decide (x ≤ y)) (List.length_mergeSort _) (Nat.le_refl _)
  rw [← flat1, List.take_of_length_le (by rw [List.length_mergeSort]; exact Nat.le_refl _)] at this
  unfold OwnI
  rw [List.length_mergeSort]
  exact this
theorem cmp_I {v : Value} (l : List Int) (ho : OwnI w B v l) (hl : l.length ≤ 17592186044416) : Calls Tryz.prog 133 #[v] w fun e w' => ∃ v', e = .returned v' ∧ OwnI w' B v' (compact l) ∧ Kp w w' (own_ v) ∧ v'.ownBlock = v.ownBlock := by
 rcases own_blockK ho with ⟨rfl, h0⟩ | ⟨g, cap, cells, rfl, hBg, hv, hnc, hcm, hcl, htk⟩
 ·obtain rfl : l = [] := List.eq_nil_of_length_eq_zero h0
  exact (Any.slices_Compact_int_empty zeV none 0 w).mono fun e w' h => ⟨_, h.1, by rw [h.2]; exact ho, by rw [h.2]; exact Kp.refl _ _, rfl⟩
 ·by_cases h0 : l = []
  ·subst h0
   exact (Any.slices_Compact_int_empty zeV (some ⟨g, 0, none⟩) cap w).mono fun e w' h => ⟨_, h.1, by rw [h.2]; exact ho, by rw [h.2]; exact Kp.refl _ _, rfl⟩
  have htk : cells.take l.length = l.map (Value.int .i64) := by rw [← flat1]; rw [Nat.mul_one] at htk; exact htk
  refine (Any.slices_Compact_int zeV g 0 cap l w (zdh hv htk) (by omega) hnc).mono ?_
  rintro e w' ⟨rfl, n, hw⟩
  rw [← grow_empty (putRow _ _ _ _ _)] at hw
  subst hw
  have hle : (compact l).length ≤ l.length := by
   unfold compact compactUpTo
   rw [List.length_map]
   refine Nat.le_trans (List.length_filter_le _ _) ?_
   simp
  refine ⟨_, rfl, ?_, (zdE _).mono fun q _ hq => by have hq : q = g := hq; rw [hq]; rfl, rfl⟩
  have := zgQ (enc := (Value.int .i64)) (q := n) (os := #[]) ho (compact l ++ List.replicate (l.length - (compact l).length) 0) (by rw [List.length_append, List.length_replicate]; omega) (m := (compact l).length) hle
  rw [List.take_left, ← flat1] at this
  exact this
theorem srt_T {v : Value} (l : List (List UInt8)) (ho : OwnT w B v l) (hl : l.length ≤ 8796093022208) : Calls Tryz.prog 134 #[v] w fun e w' => e = .returned (.tuple #[]) ∧ OwnT w' B v (l.mergeSort fun x y => decide (x ≤ y)) ∧ Kp w w' (own_ v) := by
 rcases own_blockK ho with ⟨rfl, h0⟩ | ⟨g, cap, cells, rfl, hBg, hv, hnc, hcm, hcl, htk⟩
 ·obtain rfl : l = [] := List.eq_nil_of_length_eq_zero h0
  exact (Any.slices_Sort_string_none lays190 none 0 w).mono fun e w' h => ⟨h.1, by rw [h.2, List.mergeSort_nil]; exact ho, by rw [h.2]; exact Kp.refl _ _⟩
 ·have htk : cells.take l.length = l.map encStr := by rw [← flat1]; rw [Nat.mul_one] at htk; exact htk
  refine (Any.slices_Sort_string lays190 g 0 cap l w (zdh hv htk) hv.lt (by omega)).mono ?_
  rintro e w' ⟨rfl, n, os, rfl⟩
  refine ⟨rfl, ?_, (zdE _).mono fun q _ hq => by have hq : q = g := hq; rw [hq]; rfl⟩
  have := zgQ (enc := encStr) (q := n) (os := os) ho (l.mergeSort fun x y => decide (x ≤ y)) (List.length_mergeSort _) (Nat.le_refl _)
  rw [← flat1, List.take_of_length_le (by rw [List.length_mergeSort]; exact Nat.le_refl _)] at this
  unfold OwnT
  rw [List.length_mergeSort]
  exact this
theorem cmp_T {v : Value} (l : List (List UInt8)) (ho : OwnT w B v l) (hl : l.length ≤ 8796093022208) : Calls Tryz.prog 135 #[v] w fun e w' => ∃ v', e = .returned v' ∧ OwnT w' B v' (compact l) ∧ Kp w w' (own_ v) ∧ v'.ownBlock = v.ownBlock := by
 rcases own_blockK ho with ⟨rfl, h0⟩ | ⟨g, cap, cells, rfl, hBg, hv, hnc, hcm, hcl, htk⟩
 ·obtain rfl : l = [] := List.eq_nil_of_length_eq_zero h0
  exact (Any.slices_Compact_string_empty lays194 none 0 w).mono fun e w' h => ⟨_, h.1, by rw [h.2]; exact ho, by rw [h.2]; exact Kp.refl _ _, rfl⟩
 ·by_cases h0 : l = []
  ·subst h0
   exact (Any.slices_Compact_string_empty lays194 (some ⟨g, 0, none⟩) cap w).mono fun e w' h => ⟨_, h.1, by rw [h.2]; exact ho, by rw [h.2]; exact Kp.refl _ _, rfl⟩
  have htk : cells.take l.length = l.map encStr := by rw [← flat1]; rw [Nat.mul_one] at htk; exact htk
  refine (Any.slices_Compact_string lays194 g 0 cap l w (zdh hv htk) (by omega) hnc).mono ?_
  rintro e w' ⟨rfl, n, hw⟩
  rw [← grow_empty (putRow _ _ _ _ _)] at hw
  subst hw
  have hle : (compact l).length ≤ l.length := by
   unfold compact compactUpTo
   rw [List.length_map]
   refine Nat.le_trans (List.length_filter_le _ _) ?_
   simp
  refine ⟨_, rfl, ?_, (zdE _).mono fun q _ hq => by have hq : q = g := hq; rw [hq]; rfl, rfl⟩
  have := zgQ (enc := encStr) (q := n) (os := #[]) ho (compact l ++ List.replicate (l.length - (compact l).length) []) (by rw [List.length_append, List.length_replicate]; omega) (m := (compact l).length) hle
  rw [List.take_left, ← flat1] at this
  exact this
end
end Go.Proofs.YtohhkegmbgancaaGreatDoor
namespace Go.Proofs.YtohhkegmbgancaaGreatDoor
set_option maxHeartbeats 2000000
open Go.Shelf Go.RowKit Go.Pw Go.Vc Go.Cs Go.Lib
set_option linter.unusedVariables false
set_option maxRecDepth 100000
def ren167 : Go.Shelf.Ren := ⟨fun | 167 => 155 | 240 => 183 | 276 => 216 | n => n, fun | 0 => 0 | 4 => 4 | 5 => 5 | 9 => 9 | 20 => 20 | 37 => 162 | 70 => 161 | 72 => 164 | 75 => 166 | 80 => 171 | 164 => 215 | n => n, fun | n => n⟩
theorem lays167 : Go.Proofs.Lays.n167 Tryz.prog ren167 := {
 mixed := by kernel_rfl
 f167 := Tryz.func155.trans (congrArg some (by kernel_rfl))
 f240 := Tryz.func183.trans (congrArg some (by kernel_rfl))
 f276 := Tryz.func216.trans (congrArg some (by kernel_rfl))
 t0 := Tryz.underlying0
 a0 := Tryz.isAgg0
 z0 := Tryz.sizeOf0
 v0 := Tryz.zeroValue0
 t4 := Tryz.underlying4
 a4 := Tryz.isAgg4
 z4 := Tryz.sizeOf4
 v4 := Tryz.zeroValue4
 t5 := Tryz.underlying5
 a5 := Tryz.isAgg5
 z5 := Tryz.sizeOf5
 v5 := Tryz.zeroValue5
 t9 := Tryz.underlying9
 a9 := Tryz.isAgg9
 z9 := Tryz.sizeOf9
 v9 := Tryz.zeroValue9
 t20 := Tryz.underlying20
 a20 := Tryz.isAgg20
 z20 := Tryz.sizeOf20
 v20 := Tryz.zeroValue20
 t37 := Tryz.underlying162
 a37 := Tryz.isAgg162
 z37 := Tryz.sizeOf162
 v37 := Tryz.zeroValue162
 t70 := Tryz.underlying161
 a70 := Tryz.isAgg161
 z70 := Tryz.sizeOf161
 v70 := Tryz.zeroValue161
 t72 := Tryz.underlying164
 a72 := Tryz.isAgg164
 z72 := Tryz.sizeOf164
 v72 := Tryz.zeroValue164
 t75 := Tryz.underlying166
 a75 := Tryz.isAgg166
 z75 := Tryz.sizeOf166
 v75 := Tryz.zeroValue166
 t164 := Tryz.underlying215
 a164 := Tryz.isAgg215
 z164 := Tryz.sizeOf215
 v164 := Tryz.zeroValue215 }
def ren168 : Go.Shelf.Ren := ⟨fun | 168 => 156 | 240 => 183 | 242 => 184 | 276 => 216 | 278 => 217 | n => n, fun | 0 => 0 | 3 => 3 | 4 => 4 | 5 => 5 | 9 => 9 | 20 => 20 | 21 => 21 | 37 => 162 | 46 => 160 | 51 => 206 | 70 => 161 | 72 => 164 | 75 => 166 | 80 => 171 | 164 => 215 | n => n, fun | n => n⟩
theorem lays168 : Go.Proofs.Lays.n168 Tryz.prog ren168 := {
 mixed := by kernel_rfl
 f168 := Tryz.func156.trans (congrArg some (by kernel_rfl))
 f240 := Tryz.func183.trans (congrArg some (by kernel_rfl))
 f242 := Tryz.func184.trans (congrArg some (by kernel_rfl))
 f276 := Tryz.func216.trans (congrArg some (by kernel_rfl))
 f278 := Tryz.func217.trans (congrArg some (by kernel_rfl))
 t0 := Tryz.underlying0
 a0 := Tryz.isAgg0
 z0 := Tryz.sizeOf0
 v0 := Tryz.zeroValue0
 t3 := Tryz.underlying3
 a3 := Tryz.isAgg3
 z3 := Tryz.sizeOf3
 v3 := Tryz.zeroValue3
 t4 := Tryz.underlying4
 a4 := Tryz.isAgg4
 z4 := Tryz.sizeOf4
 v4 := Tryz.zeroValue4
 t5 := Tryz.underlying5
 a5 := Tryz.isAgg5
 z5 := Tryz.sizeOf5
 v5 := Tryz.zeroValue5
 t9 := Tryz.underlying9
 a9 := Tryz.isAgg9
 z9 := Tryz.sizeOf9
 v9 := Tryz.zeroValue9
 t20 := Tryz.underlying20
 a20 := Tryz.isAgg20
 z20 := Tryz.sizeOf20
 v20 := Tryz.zeroValue20
 t21 := Tryz.underlying21
 a21 := Tryz.isAgg21
 z21 := Tryz.sizeOf21
 v21 := Tryz.zeroValue21
 t37 := Tryz.underlying162
 a37 := Tryz.isAgg162
 z37 := Tryz.sizeOf162
 v37 := Tryz.zeroValue162
 t46 := Tryz.underlying160
 a46 := Tryz.isAgg160
 z46 := Tryz.sizeOf160
 v46 := Tryz.zeroValue160
 t51 := Tryz.underlying206
 a51 := Tryz.isAgg206
 z51 := Tryz.sizeOf206
 v51 := Tryz.zeroValue206
 t70 := Tryz.underlying161
 a70 := Tryz.isAgg161
 z70 := Tryz.sizeOf161
 v70 := Tryz.zeroValue161
 t72 := Tryz.underlying164
 a72 := Tryz.isAgg164
 z72 := Tryz.sizeOf164
 v72 := Tryz.zeroValue164
 t75 := Tryz.underlying166
 a75 := Tryz.isAgg166
 z75 := Tryz.sizeOf166
 v75 := Tryz.zeroValue166
 t164 := Tryz.underlying215
 a164 := Tryz.isAgg215
 z164 := Tryz.sizeOf215
 v164 := Tryz.zeroValue215 }
def ren169 : Go.Shelf.Ren := ⟨fun | 169 => 158 | n => n, fun | 0 => 0 | 3 => 3 | 5 => 5 | 9 => 9 | 37 => 162 | 70 => 161 | 72 => 164 | 127 => 188 | n => n, fun | n => n⟩
theorem lays169 : Go.Proofs.Lays.n169 Tryz.prog ren169 := {
 mixed := by kernel_rfl
 f169 := Tryz.func158.trans (congrArg some (by kernel_rfl))
 t0 := Tryz.underlying0
 a0 := Tryz.isAgg0
 z0 := Tryz.sizeOf0
 v0 := Tryz.zeroValue0
 t3 := Tryz.underlying3
 a3 := Tryz.isAgg3
 z3 := Tryz.sizeOf3
 v3 := Tryz.zeroValue3
 t9 := Tryz.underlying9
 a9 := Tryz.isAgg9
 z9 := Tryz.sizeOf9
 v9 := Tryz.zeroValue9
 t37 := Tryz.underlying162
 a37 := Tryz.isAgg162
 z37 := Tryz.sizeOf162
 v37 := Tryz.zeroValue162
 t70 := Tryz.underlying161
 a70 := Tryz.isAgg161
 z70 := Tryz.sizeOf161
 v70 := Tryz.zeroValue161
 t72 := Tryz.underlying164
 a72 := Tryz.isAgg164
 z72 := Tryz.sizeOf164
 v72 := Tryz.zeroValue164
 t127 := Tryz.underlying188
 a127 := Tryz.isAgg188
 z127 := Tryz.sizeOf188
 v127 := Tryz.zeroValue188 }
def ren196 : Go.Shelf.Ren := ⟨fun | 196 => 172 | 259 => 190 | n => n, fun | 0 => 0 | 3 => 3 | 4 => 4 | 5 => 5 | 9 => 9 | 12 => 12 | 46 => 160 | 53 => 208 | 119 => 192 | 138 => 194 | 139 => 195 | n => n, fun | 3 => 2 | 4 => 3 | n => n⟩
theorem lays196 : Go.Proofs.Lays.n196 Tryz.prog ren196 := {
 mixed := by kernel_rfl
 f196 := Tryz.func172.trans (congrArg some (by kernel_rfl))
 f259 := Tryz.func190.trans (congrArg some (by kernel_rfl))
 t0 := Tryz.underlying0
 a0 := Tryz.isAgg0
 z0 := Tryz.sizeOf0
 v0 := Tryz.zeroValue0
 t3 := Tryz.underlying3
 a3 := Tryz.isAgg3
 z3 := Tryz.sizeOf3
 v3 := Tryz.zeroValue3
 t4 := Tryz.underlying4
 a4 := Tryz.isAgg4
 z4 := Tryz.sizeOf4
 v4 := Tryz.zeroValue4
 t5 := Tryz.underlying5
 a5 := Tryz.isAgg5
 z5 := Tryz.sizeOf5
 v5 := Tryz.zeroValue5
 t9 := Tryz.underlying9
 a9 := Tryz.isAgg9
 z9 := Tryz.sizeOf9
 v9 := Tryz.zeroValue9
 t12 := Tryz.underlying12
 a12 := Tryz.isAgg12
 z12 := Tryz.sizeOf12
 v12 := Tryz.zeroValue12
 t46 := Tryz.underlying160
 a46 := Tryz.isAgg160
 z46 := Tryz.sizeOf160
 v46 := Tryz.zeroValue160
 t53 := Tryz.underlying208
 a53 := Tryz.isAgg208
 z53 := Tryz.sizeOf208
 v53 := Tryz.zeroValue208
 t119 := Tryz.underlying192
 a119 := Tryz.isAgg192
 z119 := Tryz.sizeOf192
 t138 := Tryz.underlying194
 a138 := Tryz.isAgg194
 z138 := Tryz.sizeOf194
 v138 := Tryz.zeroValue194
 t139 := Tryz.underlying195
 a139 := Tryz.isAgg195
 z139 := Tryz.sizeOf195
 v139 := Tryz.zeroValue195
 g3 := by kernel_rfl
 g4 := by kernel_rfl }
def ren99 : Go.Shelf.Ren := ⟨fun | 99 => 154 | 206 => 182 | n => n, fun | 3 => 3 | 4 => 4 | 5 => 5 | 9 => 9 | n => n, fun | n => n⟩
theorem lays99 : Go.Proofs.Lays.n99 Tryz.prog ren99 := {
 mixed := by kernel_rfl
 f99 := Tryz.func154.trans (congrArg some (by kernel_rfl))
 f206 := Tryz.func182.trans (congrArg some (by kernel_rfl))
 t3 := Tryz.underlying3
 a3 := Tryz.isAgg3
 z3 := Tryz.sizeOf3
 v3 := Tryz.zeroValue3
 t4 := Tryz.underlying4
 a4 := Tryz.isAgg4
 z4 := Tryz.sizeOf4
 v4 := Tryz.zeroValue4
 t9 := Tryz.underlying9
 a9 := Tryz.isAgg9
 z9 := Tryz.sizeOf9
 v9 := Tryz.zeroValue9 }
theorem ext167 : Builder.Extra Tryz.prog ren167 := {
 sizeBuilder := by kernel_rfl
 liesBuilder := by kernel_rfl
 t5 := Tryz.underlying5
 a5 := Tryz.isAgg5
 z5 := Tryz.sizeOf5
 v5 := Tryz.zeroValue5
 infoByte := by kernel_rfl
 cellsByte := by kernel_rfl
 sizeByte := by kernel_rfl
 neB5 := by decide }
theorem ext168 : Builder.Extra Tryz.prog ren168 := {
 sizeBuilder := by kernel_rfl
 liesBuilder := by kernel_rfl
 t5 := Tryz.underlying5
 a5 := Tryz.isAgg5
 z5 := Tryz.sizeOf5
 v5 := Tryz.zeroValue5
 infoByte := by kernel_rfl
 cellsByte := by kernel_rfl
 sizeByte := by kernel_rfl
 neB5 := by decide }
theorem ext169 : Builder.Extra Tryz.prog ren169 := {
 sizeBuilder := by kernel_rfl
 liesBuilder := by kernel_rfl
 t5 := Tryz.underlying5
 a5 := Tryz.isAgg5
 z5 := Tryz.sizeOf5
 v5 := Tryz.zeroValue5
 infoByte := by kernel_rfl
 cellsByte := by kernel_rfl
 sizeByte := by kernel_rfl
 neB5 := by decide }
def Tabs (w : World) : Prop := Utf8Tabs 2 3 w
theorem Tabs.keep {w w' : World} (h : Tabs w) (k : Kp w w' n_) : Tabs w' :=
 ⟨fun c hc => by rw [k.cell (cell_lt (h.1 c hc)) id]; exact h.1 c hc, fun i hi => ⟨by rw [k.cell (cell_lt (h.2 i hi).1) id]; exact (h.2 i hi).1, by rw [k.cell (cell_lt (h.2 i hi).2) id]; exact (h.2 i hi).2⟩⟩
def Bld (w : World) (B b : Nat) (l : List UInt8) : Prop := IsBuilderF 164 5 B b (Go.Lib.byteCells l) w
theorem zox (s : ByteArray) (w : World) (hT : Tabs w) (hs : s.size ≤ 9223372036854775807) : Calls Tryz.prog 172 #[.string s] w fun e w' =>
  e = .returned (.bool (validD (L s))) ∧ Kp w w' n_ :=
 (Any.utf8_ValidString lays196 s w hs hT).mono fun e w' ⟨h1, h2⟩ => ⟨h1, Kp.of_below h2⟩
theorem zib {B b : Nat} {l : List UInt8} (c : UInt8) (w : World) (h : Bld w B b l) (hl : l.length + 1 ≤ 140737488355328) (hB : B ≤ w.heap.size) :
  Calls Tryz.prog 155 #[.pointer (some ⟨b, 0, none⟩), .int .u8 c.toNat] w fun e w' => e = .returned .nilIface ∧ Bld w' B b (l ++ [c]) ∧ Below B w w' ∧ OthersKept 5 (some b) w w' :=
 (Any.Builder_WriteByte_k lays167 ext167 B b _ c.toNat w h (by rw [Go.Lib.byteCells_length]; exact hl) hB).mono fun e w' ⟨h1, h2, h3⟩ => ⟨h1, .inr (by rw [Go.Lib.byteCells_append]; exact h2), h3⟩
theorem zfm {B b : Nat} {l : List UInt8} (r : Int) (h0 : -2147483648 ≤ r) (h1 : r ≤ 2147483647) (w : World) (h : Bld w B b l) (hl : l.length + 4 ≤ 140737488355328) (hB : B ≤ w.heap.size) :
  Calls Tryz.prog 156 #[.pointer (some ⟨b, 0, none⟩), .int .i32 r] w fun e w' => (∃ n, e = .returned (.tuple #[.int .i64 n, .nilIface])) ∧ Bld w' B b (l ++ encodeRune r) ∧ Below B w w' ∧ OthersKept 5 (some b) w w' :=
 (Any.Builder_WriteRune_k lays168 ext168 B b _ r h0 h1 w h (by rw [Go.Lib.byteCells_length]; exact hl) hB).mono fun e w' ⟨h1, h2, h3⟩ => ⟨⟨_, h1⟩, .inr (by rw [byteCells_append, byteCells_encodeRune]; exact h2), h3⟩
theorem zmV {B b : Nat} {l : List UInt8} (w : World) (h : Bld w B b l) (hB : B ≤ w.heap.size) :
  Calls Tryz.prog 158 #[.pointer (some ⟨b, 0, none⟩)] w fun e w' => e = .returned (.string (str l)) ∧ Bld w' B b l ∧ Below B w w' ∧ OthersKept 5 (some b) w w' :=
 Any.Builder_String_any_k lays169 ext169 B b l w h hB
theorem zoB (w : World) (B : Nat) (hB : B ≤ w.heap.size) : Bld (w.alloc (.cells #[.pointer none, .slice none 0 0] 164)) B w.heap.size [] :=
 .inl ⟨hB, _, heap_alloc_new _ _, World.ownsRowF_of (World.ownsRow_nil _ _ _ _), by simp [Value.ownBlock]⟩
end Go.Proofs.YtohhkegmbgancaaGreatDoor
set_option linter.unusedVariables false
namespace Go.Vc
set_option maxHeartbeats 2000000
open Go Go.Pw Go.RowKit
def Bs (w : World) (b : Nat) (l : List UInt8) : Prop := At w b 0 (Lib.byteCells l) ∧ ∀ j, j < l.length → w.frozen? ⟨b, 0 + j, none⟩ = false
theorem Bs.store {w : World} {b i : Nat} {l : List UInt8} (h : Bs w b l) (hi : i < l.length) (x : UInt8) : (∃ u, w.cell? ⟨b, 0 + i, none⟩ = some u) ∧ w.frozen? ⟨b, 0 + i, none⟩ = false ∧ Bs (w.setCell ⟨b, 0 + i, none⟩ (.int .u8 (x.toNat : Int))) b (l.set i x) := by
 have hc : w.cell? ⟨b, 0 + i, none⟩ = some (.int .u8 (l[i].toNat : Int)) := h.1 i _ (by simp [Lib.byteCells, hi])
 refine ⟨⟨_, hc⟩, h.2 i hi, fun j v hj => ?_, fun j hj => ?_⟩
 ·by_cases e : i = j
  ·subst e
   simp [Lib.byteCells, hi] at hj
   rw [ziy hc, hj]
  ·have : (⟨b, 0 + i, none⟩ : Addr) ≠ ⟨b, 0 + j, none⟩ := fun e' => by injection e'; omega
   rw [World.cell?_setCell_other (h := this)]
   refine h.1 j v ?_
   simpa [Lib.byteCells, List.getElem?_set_ne e] using hj
 ·rw [World.frozen?_setCell]
  rw [List.length_set] at hj
  exact h.2 j hj
theorem Bs.cell {w : World} {b i : Nat} {l : List UInt8} (h : Bs w b l) (hi : i < l.length) : w.cell? ⟨b, 0 + i, none⟩ = some (.int .u8 (((l.getD i 0).toNat : Nat) : Int)) := h.1 i _ (by simp [Lib.byteCells, hi, List.getD])
theorem Bs.keep {w w' : World} {b : Nat} {l : List UInt8} {c : Nat → Prop} (h : Bs w b l) (k : Kp w w' c) (hb : b < w.heap.size) (hc : ¬ c b) : Bs w' b l :=
 ⟨fun i v hi => by rw [k.cell (p := ⟨b, 0 + i, none⟩) hb hc]; exact h.1 i v hi, fun j hj => by rw [k.frozen (p := ⟨b, 0 + j, none⟩) hb hc]; exact h.2 j hj⟩
theorem RunV.back {P : Program} {w : World} {src dst e : TypeId} {b cap : Nat} {l : List UInt8} {K : Value → World → Prop} (hs : P.underlying src = some (.slice e)) (he : P.underlying e = some (.int .u8)) (hd : P.underlying dst = some .string)
  (h : Bs w b l) (k : K (.string ⟨l.toArray⟩) w) : RunV P (convert src dst (.slice (some ⟨b, 0, none⟩) l.length cap)) w K :=
 ⟨_, _, run_convert_bytes_back w src dst e ⟨b, 0, none⟩ cap l hs he hd (fun j hj => by rw [add_none]; exact h.1 j _ (by simp [Lib.byteCells, hj])), k⟩
end Go.Vc
namespace Go.Vc
set_option maxHeartbeats 2000000
open Go
theorem zio (i j : Nat) (h : i + j ≤ 1000000000000) : IntKind.i64.wrap ((IntKind.u64.wrap ((i : Int) + (j : Int))).fdiv (2 ^ min (Int.toNat 1) IntKind.u64.bits)) = (((i + j) / 2 : Nat) : Int) := by
 have h1 : IntKind.u64.wrap ((i : Int) + (j : Int)) = ((i + j : Nat) : Int) := by
  unfold IntKind.wrap; simp [IntKind.signed, IntKind.bits]; omega
 have h2 : (2 : Int) ^ min (Int.toNat 1) IntKind.u64.bits = 2 := by decide
 rw [h1, h2, Int.fdiv_eq_ediv_of_nonneg _ (by omega)]
 rw [zbl _ (by omega)]
 omega
end Go.Vc
namespace Go.Proofs.YtohhkegmbgancaaGreatDoor
set_option maxHeartbeats 2000000
open Go.RowKit Go.Pw Go.Vc Go.Cs Go.Lib
set_option linter.unusedVariables false
set_option maxRecDepth 100000
theorem zcG {w w' : World} {b o : Nat} {vs : List Value} (h : At w b o vs) (k : Kp w w' n_) : At w' b o vs := fun i v hi => by
 have := h i v hi
 rw [k.cell (cell_lt this) id]; exact this
section
variable {w : World}
theorem zoz (a b : Int) : Calls Tryz.prog 100 #[.int .i64 a, .int .i64 b] w fun e w' => e = .returned (.int .i64 (cmp3 a b)) ∧ w = w' := by
 have hn : ∀ (x : Int) (w : World), Calls Tryz.prog 153 #[.int .i64 x] w fun e w' => e = .returned (.bool false) ∧ w = w' := by
  intro x w
  refine zaa (args := [.int .i64 x]) Tryz.func153 rfl NL ?_; refine GW ?_
  exact ⟨zad (by simp), rfl⟩
 refine zaa (args := [.int .i64 a, .int .i64 b]) Tryz.func100 rfl NL ?_; refine GW ?_
 refine CallS.of (Tryz.call153 _ _) (hn a w) ?_
 rintro e w1 ⟨rfl, rfl⟩
 refine RT ?_
 refine CallS.of (Tryz.call153 _ _) (hn b w) ?_
 rintro e w1 ⟨rfl, rfl⟩
 refine RT ?_
 unfold cmp3
 by_cases h1 : a < b
 ·refine GO ?_
  exact ⟨by rw [if_pos h1], rfl⟩
 ·by_cases h2 : b < a
  ·refine GO ?_
   exact ⟨by rw [if_neg h1, if_pos h2], rfl⟩
  ·refine GO ?_
   exact ⟨by rw [if_neg h1, if_neg h2], rfl⟩
end
end Go.Proofs.YtohhkegmbgancaaGreatDoor
namespace Go.Vc
set_option maxHeartbeats 2000000
open Go Go.Pw Go.RowKit
set_option linter.unusedVariables false
theorem zjs (a b : ByteArray) : (a == b) = decide (a = b) := by
 obtain ⟨a⟩ := a
 obtain ⟨b⟩ := b
 have e : ((ByteArray.mk a == ByteArray.mk b) : Bool) = (a == b) := rfl
 rw [e]
 by_cases h : a = b <;> simp [h]
abbrev SM := List (ByteArray × Value)
def SM.get : SM → ByteArray → Option Value
 | [], _ => none
 | (s, v) :: r, k => if k = s then some v else SM.get r k
def SM.put : SM → ByteArray → Value → SM
 | [], k, x => [(k, x)]
 | (s, v) :: r, k, x => if k = s then (s, x) :: r else (s, v) :: SM.put r k x
def SM.del : SM → ByteArray → SM
 | [], _ => []
 | (s, v) :: r, k => if k = s then r else (s, v) :: SM.del r k
def entP (e : MapEntry) : Value × Value := (e.key, e.val)
def smP (p : ByteArray × Value) : Value × Value := (.string p.1, p.2)
def SMap (w : World) (b : Nat) (m : SM) : Prop := ∃ es clock, w.heap[b]? = some (.map es clock) ∧ es.toList.map entP = m.map smP
theorem findNow_str (k : ByteArray) : ∀ (es : List MapEntry) (m : SM) (i : Nat), es.map entP = m.map smP →
  (m.get k = none ∧ Instr.findNow .string (.string k) es i = some none ∧ (∀ x, m.put k x = m ++ [(k, x)]) ∧ m.del k = m) ∨
  ∃ v j, m.get k = some v ∧ j < es.length ∧ Instr.findNow .string (.string k) es i = some (some (i + j, v)) ∧ (es[j]?).map (·.key) = some (.string k) ∧ (∀ x, (es.modify j fun e => { e with key := .string k, val := x }).map entP = (m.put k x).map smP) ∧ (es.eraseIdx j).map entP = (m.del k).map smP
 | [], m, i, h => by
  have : m = [] := by cases m with | nil => rfl | cons a r => simp at h
  subst this
  exact .inl ⟨rfl, rfl, fun _ => rfl, rfl⟩
 | e :: es, [], i, h => by simp at h
 | e :: es, (s, v) :: r, i, h => by
  simp only [List.map_cons, List.cons.injEq] at h
  obtain ⟨h1, h2⟩ := h
  simp only [entP, smP, Prod.mk.injEq] at h1
  obtain ⟨h3, h4⟩ := h1
  by_cases hk : k = s
  ·right
   subst hk
   refine ⟨v, 0, by simp [SM.get], by simp, ?_, by simp [h3], fun x => ?_, ?_⟩
   ·simp [Instr.findNow, h3, Instr.sameNow, h4, zjs]
   ·simp [SM.put, entP, smP, h2]
   ·simp [SM.del, h2]
  ·rcases findNow_str k es r (i + 1) h2 with ⟨a1, a2, a3, a4⟩ | ⟨v', j, a1, a2, a3, a4, a5, a6⟩
   ·left
    refine ⟨by simp [SM.get, hk, a1], ?_, fun x => by simp [SM.put, hk, a3], by simp [SM.del, hk, a4]⟩
    simp [Instr.findNow, h3, Instr.sameNow, hk, a2, zjs]
   ·right
    refine ⟨v', j + 1, by simp [SM.get, hk, a1], Nat.succ_lt_succ a2, ?_, by simpa using a4, fun x => ?_, ?_⟩
    ·simp [Instr.findNow, h3, Instr.sameNow, hk, a3, zjs]; omega
    ·simp only [List.modify_succ_cons, List.map_cons, SM.put, if_neg hk, a5 x]
     simp [entP, smP, h3, h4]
    ·simp only [List.eraseIdx_cons_succ, List.map_cons, SM.del, if_neg hk, a6]
     simp [entP, smP, h3, h4]
section
variable {P : Program} {w : World} {b : Nat} {m : SM} {t kt et : TypeId} {K : Value → World → Prop}
theorem checkKey_str' (hk : P.underlying kt = some .string) (e : Bool) (s : ByteArray) (n : Nat) : (Instr.checkKey e (n + 1) kt (.string s)).run P w = .ok () w := by
 unfold Instr.checkKey
 simp [zaG hk]
theorem zeh (hk : P.underlying kt = some .string) (e : Bool) (s : ByteArray) : (Instr.checkKey e 10000 kt (.string s)).run P w = .ok () w := checkKey_str' hk e s 9999
def setO (w : World) (b : Nat) (o : Obj) : World := { w with heap := w.heap.set! b o }
theorem zex (o : Obj) (hb : b < w.heap.size) : (setO w b o).heap[b]? = some o := by
 simp [setO, hb]
theorem zbI (o : Obj) : Kp w (setO w b o) (one_ b) :=
 ⟨rfl, rfl, rfl, by simp [setO], fun k hk hn => by
  have : b ≠ k := fun e => hn e.symm
  simp [setO, this]⟩
theorem RunU.upd {K : World → Prop} (ht : P.underlying t = some (.map kt et)) (hk : P.underlying kt = some .string) (h : SMap w b m) (s : ByteArray) (x : Value) (k : ∀ w', SMap w' b (m.put s x) → Kp w w' (one_ b) → K w') :
  RunU P (Instr.mapUpdate t (.map (some b)) (.string s) x) w K := by
 obtain ⟨es, clock, hb, he⟩ := h
 have hlt : b < w.heap.size := by
  rcases Nat.lt_or_ge b w.heap.size with h' | h'
  ·exact h'
  ·rw [Array.getElem?_eq_none h'] at hb; cases hb
 rcases findNow_str s es.toList m 0 he with ⟨a1, a2, a3, _⟩ | ⟨v, j, a1, a2, a3, a4, a5, _⟩
 ·refine ⟨setO w b (.map (es.push { key := .string s, val := x, born := clock }) (clock + 1)), ?_, k _ ⟨_, _, zex _ hlt, ?_⟩ (zbI _)⟩
  ·simp [Instr.mapUpdate, zaG ht, getObj, setObj, Sem.run, hb, zeh hk, Instr.findKey, zaG hk, a2, setO]
  ·simp [a3, he, entP, smP]
 ·have e : (es.toList[j]?).map (·.key) = some (.string s) := a4
  have e2 : ((es[j]?).map (·.key)).getD (.string s) = .string s := by
   rw [← Array.getElem?_toList, e]; rfl
  refine ⟨setO w b (.map (es.modify j fun e => { e with key := .string s, val := x }) clock), ?_, k _ ⟨_, _, zex _ hlt, ?_⟩ (zbI _)⟩
  ·simp [Instr.mapUpdate, zaG ht, getObj, setObj, Sem.run, hb, zeh hk, Instr.findKey, zaG hk, a3, setO, e2, Instr.keyThatStays, Instr.sameBits, zjs]
  ·rw [Array.toList_modify]; exact a5 x
end
end Go.Vc
namespace Go.Vc
set_option maxHeartbeats 2000000
theorem SM.put_new : ∀ (m : SM) (k : ByteArray) (x : Value) (ks : List ByteArray), m.map (·.1) = ks → ¬ k ∈ ks → m.put k x = m ++ [(k, x)]
 | [], k, x, _, _, _ => rfl
 | (s, v) :: r, k, x, _, rfl, hn => by
  simp only [List.map_cons, List.mem_cons, not_or] at hn
  simp only [SM.put, if_neg hn.1, SM.put_new r k x _ rfl hn.2]; rfl
end Go.Vc
namespace Go.Vc
set_option maxHeartbeats 2000000
open Go.Cs
end Go.Vc
