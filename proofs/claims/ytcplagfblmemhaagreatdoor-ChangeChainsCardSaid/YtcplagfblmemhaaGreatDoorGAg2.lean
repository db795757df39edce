/- Helper text of this claim: lemmas and contracts that the proved statement rests on; no conditions of its own. -/
import Derived.Shelf.Small.Strs
import Derived.Shelf.Sort.Plain
import Derived.Shelf.Slices.CompactI
import Derived.Shelf.Slices.CompactS
import Derived.Shelf.Slices.In.SortNone
import Derived.Test.YtcplagfblmemhaaGreatDoorGAx0
namespace Go.Proofs.YtcplagfblmemhaaGreatDoor
set_option linter.unusedVariables false
set_option maxHeartbeats 2000000
open Go.RowKit Go.Pw Go.Vc Go.Cs Go.Lib
set_option linter.unusedVariables false
set_option maxRecDepth 100000
theorem zqn {w : World} {v : Value} (l : List Mr) (g : Nat) (c0 : Value) (p : Mr → Bool) (hv : RowO w v mrC l) (hl : l.length ≤ 1000000) (hg : ∀ (args : Array Value) (w : World), (callFunc g args).run Tryz.prog w = .ok (.enter g args) w)
  (hp : ∀ x ∈ l, ∀ w', Kp w w' n_ → Calls Tryz.prog g #[.agg (mrC x).toArray, c0] w' fun e w'' => e = .returned (.bool (p x)) ∧ Kp w' w'' n_) :
  Calls Tryz.prog 68 #[v, .func (.func g) #[] #[c0]] w fun e w' => e = .returned (.int .i64 (idxP p l)) ∧ Kp w w' n_ := by
 obtain ⟨a, cap, rfl, hr⟩ := hv
 refine zaa (args := [.slice a l.length cap, .func (.func g) #[] #[c0]]) Tryz.func68 rfl NL ?_; refine GW ?_
 refine Loop.intro (ι := Nat) (fun i => [(0, .slice a l.length cap), (1, .func (.func g) #[] #[c0]), (7, .int .i64 (l.length : Nat)), (8, .int .i64 (i : Nat))])
  (fun i wr => Kp w wr n_ ∧ i ≤ l.length ∧ ∀ j (h : j < l.length), j < i → p l[j] = false) (fun i => l.length - i) 0 ⟨rfl, rfl, rfl, rfl, trivial⟩ ⟨Kp.refl _ _, Nat.zero_le _, fun _ _ h => by omega⟩ ?_
 rintro i gg wr ⟨hK, hi, he⟩
 refine GW ?_
 by_cases hlt : i < l.length
 ·obtain ⟨gb, o, rfl, hgb, hat⟩ := hr (by omega)
  have hpc := hp l[i] (List.getElem_mem hlt) wr hK
  obtain ⟨q, hq⟩ : ∃ q, p l[i] = q := ⟨_, rfl⟩
  rw [hq] at hpc
  refine KGO ?_
  refine CallS.of (hg _ _) hpc ?_
  rintro e w1 ⟨rfl, k1⟩
  refine RT ?_
  cases q with
  | true =>
   refine KGO ?_
   exact ⟨by rw [zbP hlt hq he], hK.trans0 k1⟩
  | false =>
   refine KGO ?_
   exact ⟨i + 1, ⟨rfl, rfl, rfl, v_int (by simp), trivial⟩, ⟨hK.trans0 k1, by omega, fun j h hj => by
    rcases Nat.lt_or_ge j i with h' | h'
    ·exact he j h h'
    ·obtain rfl : j = i := by omega
     exact hq⟩, by dsimp only; omega⟩
 ·refine KGO ?_
  exact ⟨by rw [zbR fun j h => he j h (by omega)], hK⟩
theorem zqB {w : World} {v : Value} (l : List (List UInt8)) (g : Nat) (p : (List UInt8) → Bool) (hv : RowO w v txC l) (hl : l.length ≤ 8796093022208) (hg : ∀ (args : Array Value) (w : World), (callFunc g args).run Tryz.prog w = .ok (.enter g args) w)
  (hp : ∀ x ∈ l, ∀ w', Kp w w' n_ → Calls Tryz.prog g #[.string (str x)] w' fun e w'' => e = .returned (.bool (p x)) ∧ Kp w' w'' n_) :
  Calls Tryz.prog 151 #[v, .func (.func g) #[] #[]] w fun e w' => e = .returned (.int .i64 (idxP p l)) ∧ Kp w w' n_ := by
 obtain ⟨a, cap, rfl, hr⟩ := hv
 refine zaa (args := [.slice a l.length cap, .func (.func g) #[] #[]]) Tryz.func151 rfl NL ?_; refine GW ?_
 refine Loop.intro (ι := Nat) (fun i => [(0, .slice a l.length cap), (1, .func (.func g) #[] #[]), (7, .int .i64 (l.length : Nat)), (8, .int .i64 (i : Nat))])
  (fun i wr => Kp w wr n_ ∧ i ≤ l.length ∧ ∀ j (h : j < l.length), j < i → p l[j] = false) (fun i => l.length - i) 0 ⟨rfl, rfl, rfl, rfl, trivial⟩ ⟨Kp.refl _ _, Nat.zero_le _, fun _ _ h => by omega⟩ ?_
 rintro i gg wr ⟨hK, hi, he⟩
 refine GW ?_
 by_cases hlt : i < l.length
 ·obtain ⟨gb, o, rfl, hgb, hat⟩ := hr (by omega)
  have hpc := hp l[i] (List.getElem_mem hlt) wr hK
  obtain ⟨q, hq⟩ : ∃ q, p l[i] = q := ⟨_, rfl⟩
  rw [hq] at hpc
  have hc := zdW hat hlt
  refine KGO ?_
  refine CallS.of (hg _ _) hpc ?_
  rintro e w1 ⟨rfl, k1⟩
  refine RT ?_
  cases q with
  | true =>
   refine KGO ?_
   exact ⟨by rw [zbP hlt hq he], hK.trans0 k1⟩
  | false =>
   refine KGO ?_
   exact ⟨i + 1, ⟨rfl, rfl, rfl, v_int (by simp), trivial⟩, ⟨hK.trans0 k1, by omega, fun j h hj => by
    rcases Nat.lt_or_ge j i with h' | h'
    ·exact he j h h'
    ·obtain rfl : j = i := by omega
     exact hq⟩, by dsimp only; omega⟩
 ·refine KGO ?_
  exact ⟨by rw [zbR fun j h => he j h (by omega)], hK⟩
theorem zqp {w : World} {v : Value} (l : List (List UInt8)) (g : Nat) (p : (List UInt8) → Bool) (hv : RowO w v txC l) (hl : l.length ≤ 8796093022208) (hg : ∀ (args : Array Value) (w : World), (callFunc g args).run Tryz.prog w = .ok (.enter g args) w)
  (hp : ∀ x ∈ l, ∀ w', Kp w w' n_ → Calls Tryz.prog g #[.string (str x)] w' fun e w'' => e = .returned (.bool (p x)) ∧ Kp w' w'' n_) :
  Calls Tryz.prog 145 #[v, .func (.func g) #[] #[]] w fun e w' => e = .returned (.bool (l.any p)) ∧ Kp w w' n_ := by
 have hv0 := hv
 obtain ⟨a, cap, rfl, hr⟩ := hv
 refine zaa (args := [.slice a l.length cap, .func (.func g) #[] #[]]) Tryz.func145 rfl NL ?_; refine GW ?_
 refine CallS.of (Tryz.call151 _ _) (zqB l g p hv0 hl hg hp) ?_
 rintro e w1 ⟨rfl, k1⟩
 refine RT ?_
 refine ⟨zag ?_, k1⟩
 rw [Bool.eq_iff_iff, decide_eq_true_eq]
 exact zcu p l
theorem zrd {w : World} {v : Value} (l : List (List UInt8)) (g : Nat) (c0 : Value) (p : (List UInt8) → Bool) (hv : RowO w v txC l) (hl : l.length ≤ 8796093022208) (hg : ∀ (args : Array Value) (w : World), (callFunc g args).run Tryz.prog w = .ok (.enter g args) w)
  (hp : ∀ x ∈ l, ∀ w', Kp w w' n_ → Calls Tryz.prog g #[.string (str x), c0] w' fun e w'' => e = .returned (.bool (p x)) ∧ Kp w' w'' n_) :
  Calls Tryz.prog 151 #[v, .func (.func g) #[] #[c0]] w fun e w' => e = .returned (.int .i64 (idxP p l)) ∧ Kp w w' n_ := by
 obtain ⟨a, cap, rfl, hr⟩ := hv
 refine zaa (args := [.slice a l.length cap, .func (.func g) #[] #[c0]]) Tryz.func151 rfl NL ?_; refine GW ?_
 refine Loop.intro (ι := Nat) (fun i => [(0, .slice a l.length cap), (1, .func (.func g) #[] #[c0]), (7, .int .i64 (l.length : Nat)), (8, .int .i64 (i : Nat))])
  (fun i wr => Kp w wr n_ ∧ i ≤ l.length ∧ ∀ j (h : j < l.length), j < i → p l[j] = false) (fun i => l.length - i) 0 ⟨rfl, rfl, rfl, rfl, trivial⟩ ⟨Kp.refl _ _, Nat.zero_le _, fun _ _ h => by omega⟩ ?_
 rintro i gg wr ⟨hK, hi, he⟩
 refine GW ?_
 by_cases hlt : i < l.length
 ·obtain ⟨gb, o, rfl, hgb, hat⟩ := hr (by omega)
  have hpc := hp l[i] (List.getElem_mem hlt) wr hK
  obtain ⟨q, hq⟩ : ∃ q, p l[i] = q := ⟨_, rfl⟩
  rw [hq] at hpc
  have hc := zdW hat hlt
  refine KGO ?_
  refine CallS.of (hg _ _) hpc ?_
  rintro e w1 ⟨rfl, k1⟩
  refine RT ?_
  cases q with
  | true =>
   refine KGO ?_
   exact ⟨by rw [zbP hlt hq he], hK.trans0 k1⟩
  | false =>
   refine KGO ?_
   exact ⟨i + 1, ⟨rfl, rfl, rfl, v_int (by simp), trivial⟩, ⟨hK.trans0 k1, by omega, fun j h hj => by
    rcases Nat.lt_or_ge j i with h' | h'
    ·exact he j h h'
    ·obtain rfl : j = i := by omega
     exact hq⟩, by dsimp only; omega⟩
 ·refine KGO ?_
  exact ⟨by rw [zbR fun j h => he j h (by omega)], hK⟩
theorem zqR {w : World} {v : Value} (l : List Int) (g : Nat) (c0 : Value) (p : Int → Bool) (hv : RowO w v inC l) (hl : l.length ≤ 17592186044416) (hg : ∀ (args : Array Value) (w : World), (callFunc g args).run Tryz.prog w = .ok (.enter g args) w)
  (hp : ∀ x ∈ l, ∀ w', Kp w w' n_ → Calls Tryz.prog g #[.int .i64 x, c0] w' fun e w'' => e = .returned (.bool (p x)) ∧ Kp w' w'' n_) :
  Calls Tryz.prog 178 #[v, .func (.func g) #[] #[c0]] w fun e w' => e = .returned (.int .i64 (idxP p l)) ∧ Kp w w' n_ := by
 obtain ⟨a, cap, rfl, hr⟩ := hv
 refine zaa (args := [.slice a l.length cap, .func (.func g) #[] #[c0]]) Tryz.func178 rfl NL ?_; refine GW ?_
 refine Loop.intro (ι := Nat) (fun i => [(0, .slice a l.length cap), (1, .func (.func g) #[] #[c0]), (7, .int .i64 (l.length : Nat)), (8, .int .i64 (i : Nat))])
  (fun i wr => Kp w wr n_ ∧ i ≤ l.length ∧ ∀ j (h : j < l.length), j < i → p l[j] = false) (fun i => l.length - i) 0 ⟨rfl, rfl, rfl, rfl, trivial⟩ ⟨Kp.refl _ _, Nat.zero_le _, fun _ _ h => by omega⟩ ?_
 rintro i gg wr ⟨hK, hi, he⟩
 refine GW ?_
 by_cases hlt : i < l.length
 ·obtain ⟨gb, o, rfl, hgb, hat⟩ := hr (by omega)
  have hpc := hp l[i] (List.getElem_mem hlt) wr hK
  obtain ⟨q, hq⟩ : ∃ q, p l[i] = q := ⟨_, rfl⟩
  rw [hq] at hpc
  have hc := zfb hat hlt
  refine KGO ?_
  refine CallS.of (hg _ _) hpc ?_
  rintro e w1 ⟨rfl, k1⟩
  refine RT ?_
  cases q with
  | true =>
   refine KGO ?_
   exact ⟨by rw [zbP hlt hq he], hK.trans0 k1⟩
  | false =>
   refine KGO ?_
   exact ⟨i + 1, ⟨rfl, rfl, rfl, v_int (by simp), trivial⟩, ⟨hK.trans0 k1, by omega, fun j h hj => by
    rcases Nat.lt_or_ge j i with h' | h'
    ·exact he j h h'
    ·obtain rfl : j = i := by omega
     exact hq⟩, by dsimp only; omega⟩
 ·refine KGO ?_
  exact ⟨by rw [zbR fun j h => he j h (by omega)], hK⟩
theorem zqQ {w : World} {v : Value} (l : List Int) (g : Nat) (c0 : Value) (p : Int → Bool) (hv : RowO w v inC l) (hl : l.length ≤ 17592186044416) (hg : ∀ (args : Array Value) (w : World), (callFunc g args).run Tryz.prog w = .ok (.enter g args) w)
  (hp : ∀ x ∈ l, ∀ w', Kp w w' n_ → Calls Tryz.prog g #[.int .i64 x, c0] w' fun e w'' => e = .returned (.bool (p x)) ∧ Kp w' w'' n_) :
  Calls Tryz.prog 148 #[v, .func (.func g) #[] #[c0]] w fun e w' => e = .returned (.bool (l.any p)) ∧ Kp w w' n_ := by
 have hv0 := hv
 obtain ⟨a, cap, rfl, hr⟩ := hv
 refine zaa (args := [.slice a l.length cap, .func (.func g) #[] #[c0]]) Tryz.func148 rfl NL ?_; refine GW ?_
 refine CallS.of (Tryz.call178 _ _) (zqR l g c0 p hv0 hl hg hp) ?_
 rintro e w1 ⟨rfl, k1⟩
 refine RT ?_
 refine ⟨zag ?_, k1⟩
 rw [Bool.eq_iff_iff, decide_eq_true_eq]
 exact zcu p l
theorem zpW {w : World} {v : Value} (l : List Sn) (g : Nat) (c0 : Value) (p : Sn → Bool) (hv : RowO w v snC l) (hl : l.length ≤ 1000000) (hg : ∀ (args : Array Value) (w : World), (callFunc g args).run Tryz.prog w = .ok (.enter g args) w)
  (hp : ∀ x ∈ l, ∀ w', Kp w w' n_ → Calls Tryz.prog g #[.agg (snC x).toArray, c0] w' fun e w'' => e = .returned (.bool (p x)) ∧ Kp w' w'' n_) :
  Calls Tryz.prog 161 #[v, .func (.func g) #[] #[c0]] w fun e w' => e = .returned (.int .i64 (idxP p l)) ∧ Kp w w' n_ := by
 obtain ⟨a, cap, rfl, hr⟩ := hv
 refine zaa (args := [.slice a l.length cap, .func (.func g) #[] #[c0]]) Tryz.func161 rfl NL ?_; refine GW ?_
 refine Loop.intro (ι := Nat) (fun i => [(0, .slice a l.length cap), (1, .func (.func g) #[] #[c0]), (7, .int .i64 (l.length : Nat)), (8, .int .i64 (i : Nat))])
  (fun i wr => Kp w wr n_ ∧ i ≤ l.length ∧ ∀ j (h : j < l.length), j < i → p l[j] = false) (fun i => l.length - i) 0 ⟨rfl, rfl, rfl, rfl, trivial⟩ ⟨Kp.refl _ _, Nat.zero_le _, fun _ _ h => by omega⟩ ?_
 rintro i gg wr ⟨hK, hi, he⟩
 refine GW ?_
 by_cases hlt : i < l.length
 ·obtain ⟨gb, o, rfl, hgb, hat⟩ := hr (by omega)
  have hpc := hp l[i] (List.getElem_mem hlt) wr hK
  obtain ⟨q, hq⟩ : ∃ q, p l[i] = q := ⟨_, rfl⟩
  rw [hq] at hpc
  refine KGO ?_
  refine CallS.of (hg _ _) hpc ?_
  rintro e w1 ⟨rfl, k1⟩
  refine RT ?_
  cases q with
  | true =>
   refine KGO ?_
   exact ⟨by rw [zbP hlt hq he], hK.trans0 k1⟩
  | false =>
   refine KGO ?_
   exact ⟨i + 1, ⟨rfl, rfl, rfl, v_int (by simp), trivial⟩, ⟨hK.trans0 k1, by omega, fun j h hj => by
    rcases Nat.lt_or_ge j i with h' | h'
    ·exact he j h h'
    ·obtain rfl : j = i := by omega
     exact hq⟩, by dsimp only; omega⟩
 ·refine KGO ?_
  exact ⟨by rw [zbR fun j h => he j h (by omega)], hK⟩
theorem ix_I {w : World} {v : Value} (l : List Int) (z : Int) (hv : RowI w v l) (hl : l.length ≤ 17592186044416) : Calls Tryz.prog 104 #[v, .int .i64 z] w fun e w' => e = .returned (.int .i64 (idxP (fun x => decide (x = z)) l)) ∧ Kp w w' n_ := by
 obtain ⟨a, cap, rfl, hr⟩ := hv
 refine zaa (args := [.slice a l.length cap, .int .i64 z]) Tryz.func104 rfl NL ?_; refine GW ?_
 refine Loop.intro (ι := Nat) (fun i => [(0, .slice a l.length cap), (1, .int .i64 z), (7, .int .i64 (l.length : Nat)), (8, .int .i64 (i : Nat))])
  (fun i wr => Kp w wr n_ ∧ i ≤ l.length ∧ ∀ j (h : j < l.length), j < i → decide (l[j] = z) = false) (fun i => l.length - i) 0 ⟨rfl, rfl, rfl, rfl, trivial⟩ ⟨Kp.refl _ _, Nat.zero_le _, fun _ _ h => by omega⟩ ?_
 rintro i gg wr ⟨hK, hi, he⟩
 refine GW ?_
 by_cases hlt : i < l.length
 ·obtain ⟨gb, o, rfl, hgb, hat⟩ := hr (by omega)
  have hc := zfb hat hlt
  by_cases hq : z = l[i]
  ·refine KGO ?_
   exact ⟨by rw [zbP hlt (by simp [hq]) he], hK⟩
  ·refine KGO ?_
   exact ⟨i + 1, ⟨rfl, rfl, rfl, v_int (by simp), trivial⟩, ⟨hK, by omega, fun j h hj => by
    rcases Nat.lt_or_ge j i with h' | h'
    ·exact he j h h'
    ·obtain rfl : j = i := by omega
     exact decide_eq_false fun e => hq e.symm⟩, by dsimp only; omega⟩
 ·refine KGO ?_
  exact ⟨by rw [zbR fun j h => he j h (by omega)], hK⟩
theorem zqC {w : World} {v : Value} (l : List Sc) (hv : RowO w v srcC l) (hl : l.length ≤ 1000000) : Calls Tryz.prog 112 #[v] w fun e w' => ∃ v', e = .returned v' ∧ OwnSrc w' w.heap.size v' l ∧ Kp w w' n_ := by
 obtain ⟨a, cap, rfl, hr⟩ := hv
 have hnil : l.length = 0 → l = [] := List.eq_nil_of_length_eq_zero
 rcases a with _ | ⟨gb, o, sp⟩
 ·obtain rfl : l = [] := hnil (by
   rcases Nat.eq_zero_or_pos l.length with h | h
   ·exact h
   ·obtain ⟨g, o, h1, _⟩ := hr h; cases h1)
  refine zaa (args := [.slice none 0 cap]) Tryz.func112 rfl NL ?_; refine GW ?_
  refine KGO ?_
  exact ⟨_, rfl, World.ownsRow_nil _ _ _ _, Kp.refl _ _⟩
 ·refine zaa (args := [.slice (some ⟨gb, o, sp⟩) l.length cap]) Tryz.func112 rfl NL ?_; refine GW ?_
  refine KGO ?_
  refine RunV.of (build0Src _) ?_
  have o1 : (w.alloc (.cells #[] 49)).ownsRow w.heap.size 49 2 (.slice (some ⟨w.heap.size, 0, none⟩) 0 0) 0 [] := World.ownsRow_made w #[] 0 (Nat.le_refl _) (by decide) (by simp)
  have k1 : Kp w (w.alloc (.cells #[] 49)) n_ := (Kp.refl _ _).alloc _
  have hB : w.heap.size ≤ (w.alloc (.cells #[] 49)).heap.size := k1.size
  generalize w.alloc (.cells #[] 49) = w1 at *
  refine KGO ?_
  have hnews : ∀ j u, (l.flatMap srcC)[j]? = some u → w1.cell? ((⟨gb, o, sp⟩ : Addr).add j) = some u := fun j u hj => by
   rcases Nat.eq_zero_or_pos l.length with h | h
   ·rw [hnil h] at hj; simp at hj
   ·obtain ⟨g', o', h1, _, h3⟩ := hr h
    injection h1 with h1
    injection h1 with h4 h5 h6
    subst h4; subst h5; subst h6
    rw [add_none]
    exact zao (h3 j u hj) k1
  refine RunN.app Tryz.underlying33 infoSrc rfl (by decide) o1 hB ⟨gb, o, sp⟩ l.length cap (l.flatMap srcC) (zay srcC 2 lenSrc l) hnews (oneSrc l) (by omega) (by omega) fun v' w' h2 h3 => ?_
  obtain ⟨a', c', rfl⟩ : ∃ a c, v' = .slice a (0 + l.length) c := zac h2
  refine KGO ?_
  refine ⟨_, rfl, ?_, k1.own o1 (Nat.le_refl _) h3⟩
  rw [List.nil_append, Nat.zero_add] at h2
  rw [Nat.zero_add]
  exact h2
theorem cl_Sn {w : World} {v : Value} (l : List Sn) (hv : RowO w v snC l) (hl : l.length ≤ 1000000) : Calls Tryz.prog 113 #[v] w fun e w' => ∃ v', e = .returned v' ∧ OwnSn w' w.heap.size v' l ∧ Kp w w' n_ := by
 obtain ⟨a, cap, rfl, hr⟩ := hv
 have hnil : l.length = 0 → l = [] := List.eq_nil_of_length_eq_zero
 rcases a with _ | ⟨gb, o, sp⟩
 ·obtain rfl : l = [] := hnil (by
   rcases Nat.eq_zero_or_pos l.length with h | h
   ·exact h
   ·obtain ⟨g, o, h1, _⟩ := hr h; cases h1)
  refine zaa (args := [.slice none 0 cap]) Tryz.func113 rfl NL ?_; refine GW ?_
  refine KGO ?_
  exact ⟨_, rfl, World.ownsRow_nil _ _ _ _, Kp.refl _ _⟩
 ·refine zaa (args := [.slice (some ⟨gb, o, sp⟩) l.length cap]) Tryz.func113 rfl NL ?_; refine GW ?_
  refine KGO ?_
  refine RunV.of (build0Sn _) ?_
  have o1 : (w.alloc (.cells #[] 175)).ownsRow w.heap.size 175 2 (.slice (some ⟨w.heap.size, 0, none⟩) 0 0) 0 [] := World.ownsRow_made w #[] 0 (Nat.le_refl _) (by decide) (by simp)
  have k1 : Kp w (w.alloc (.cells #[] 175)) n_ := (Kp.refl _ _).alloc _
  have hB : w.heap.size ≤ (w.alloc (.cells #[] 175)).heap.size := k1.size
  generalize w.alloc (.cells #[] 175) = w1 at *
  refine KGO ?_
  have hnews : ∀ j u, (l.flatMap snC)[j]? = some u → w1.cell? ((⟨gb, o, sp⟩ : Addr).add j) = some u := fun j u hj => by
   rcases Nat.eq_zero_or_pos l.length with h | h
   ·rw [hnil h] at hj; simp at hj
   ·obtain ⟨g', o', h1, _, h3⟩ := hr h
    injection h1 with h1
    injection h1 with h4 h5 h6
    subst h4; subst h5; subst h6
    rw [add_none]
    exact zao (h3 j u hj) k1
  refine RunN.app Tryz.underlying34 infoSn rfl (by decide) o1 hB ⟨gb, o, sp⟩ l.length cap (l.flatMap snC) (zay snC 2 lenSn l) hnews (oneSn l) (by omega) (by omega) fun v' w' h2 h3 => ?_
  obtain ⟨a', c', rfl⟩ : ∃ a c, v' = .slice a (0 + l.length) c := zac h2
  refine KGO ?_
  refine ⟨_, rfl, ?_, k1.own o1 (Nat.le_refl _) h3⟩
  rw [List.nil_append, Nat.zero_add] at h2
  rw [Nat.zero_add]
  exact h2
theorem cl_Ml {w : World} {v : Value} (l : List Mr) (hv : RowO w v mrC l) (hl : l.length ≤ 1000000) : Calls Tryz.prog 114 #[v] w fun e w' => ∃ v', e = .returned v' ∧ OwnMl w' w.heap.size v' l ∧ Kp w w' n_ := by
 obtain ⟨a, cap, rfl, hr⟩ := hv
 have hnil : l.length = 0 → l = [] := List.eq_nil_of_length_eq_zero
 rcases a with _ | ⟨gb, o, sp⟩
 ·obtain rfl : l = [] := hnil (by
   rcases Nat.eq_zero_or_pos l.length with h | h
   ·exact h
   ·obtain ⟨g, o, h1, _⟩ := hr h; cases h1)
  refine zaa (args := [.slice none 0 cap]) Tryz.func114 rfl NL ?_; refine GW ?_
  refine KGO ?_
  exact ⟨_, rfl, World.ownsRow_nil _ _ _ _, Kp.refl _ _⟩
 ·refine zaa (args := [.slice (some ⟨gb, o, sp⟩) l.length cap]) Tryz.func114 rfl NL ?_; refine GW ?_
  refine KGO ?_
  refine RunV.of (build0Ml _) ?_
  have o1 : (w.alloc (.cells #[] 60)).ownsRow w.heap.size 60 38 (.slice (some ⟨w.heap.size, 0, none⟩) 0 0) 0 [] := World.ownsRow_made w #[] 0 (Nat.le_refl _) (by decide) (by simp)
  have k1 : Kp w (w.alloc (.cells #[] 60)) n_ := (Kp.refl _ _).alloc _
  have hB : w.heap.size ≤ (w.alloc (.cells #[] 60)).heap.size := k1.size
  generalize w.alloc (.cells #[] 60) = w1 at *
  refine KGO ?_
  have hnews : ∀ j u, (l.flatMap mrC)[j]? = some u → w1.cell? ((⟨gb, o, sp⟩ : Addr).add j) = some u := fun j u hj => by
   rcases Nat.eq_zero_or_pos l.length with h | h
   ·rw [hnil h] at hj; simp at hj
   ·obtain ⟨g', o', h1, _, h3⟩ := hr h
    injection h1 with h1
    injection h1 with h4 h5 h6
    subst h4; subst h5; subst h6
    rw [add_none]
    exact zao (h3 j u hj) k1
  refine RunN.app Tryz.underlying32 infoMl rfl (by decide) o1 hB ⟨gb, o, sp⟩ l.length cap (l.flatMap mrC) (zay mrC 38 lenMl l) hnews (oneMl l) (by omega) (by omega) fun v' w' h2 h3 => ?_
  obtain ⟨a', c', rfl⟩ : ∃ a c, v' = .slice a (0 + l.length) c := zac h2
  refine KGO ?_
  refine ⟨_, rfl, ?_, k1.own o1 (Nat.le_refl _) h3⟩
  rw [List.nil_append, Nat.zero_add] at h2
  rw [Nat.zero_add]
  exact h2
theorem cl_I {w : World} {v : Value} (l : List Int) (hv : RowO w v inC l) (hl : l.length ≤ 17592186044416) : Calls Tryz.prog 70 #[v] w fun e w' => ∃ v', e = .returned v' ∧ OwnI w' w.heap.size v' l ∧ Kp w w' n_ := by
 obtain ⟨a, cap, rfl, hr⟩ := hv
 have hnil : l.length = 0 → l = [] := List.eq_nil_of_length_eq_zero
 rcases a with _ | ⟨gb, o, sp⟩
 ·obtain rfl : l = [] := hnil (by
   rcases Nat.eq_zero_or_pos l.length with h | h
   ·exact h
   ·obtain ⟨g, o, h1, _⟩ := hr h; cases h1)
  refine zaa (args := [.slice none 0 cap]) Tryz.func70 rfl NL ?_; refine GW ?_
  refine KGO ?_
  exact ⟨_, rfl, World.ownsRow_nil _ _ _ _, Kp.refl _ _⟩
 ·refine zaa (args := [.slice (some ⟨gb, o, sp⟩) l.length cap]) Tryz.func70 rfl NL ?_; refine GW ?_
  refine KGO ?_
  refine RunV.of (build0I _) ?_
  have o1 : (w.alloc (.cells #[] 3)).ownsRow w.heap.size 3 1 (.slice (some ⟨w.heap.size, 0, none⟩) 0 0) 0 [] := World.ownsRow_made w #[] 0 (Nat.le_refl _) (by decide) (by simp)
  have k1 : Kp w (w.alloc (.cells #[] 3)) n_ := (Kp.refl _ _).alloc _
  have hB : w.heap.size ≤ (w.alloc (.cells #[] 3)).heap.size := k1.size
  generalize w.alloc (.cells #[] 3) = w1 at *
  refine KGO ?_
  have hnews : ∀ j u, (l.flatMap inC)[j]? = some u → w1.cell? ((⟨gb, o, sp⟩ : Addr).add j) = some u := fun j u hj => by
   rcases Nat.eq_zero_or_pos l.length with h | h
   ·rw [hnil h] at hj; simp at hj
   ·obtain ⟨g', o', h1, _, h3⟩ := hr h
    injection h1 with h1
    injection h1 with h4 h5 h6
    subst h4; subst h5; subst h6
    rw [add_none]
    exact zao (h3 j u hj) k1
  refine RunN.app Tryz.underlying37 infoI rfl (by decide) o1 hB ⟨gb, o, sp⟩ l.length cap (l.flatMap inC) (zay inC 1 lenI l) hnews (oneI l) (by omega) (by omega) fun v' w' h2 h3 => ?_
  obtain ⟨a', c', rfl⟩ : ∃ a c, v' = .slice a (0 + l.length) c := zac h2
  refine KGO ?_
  refine ⟨_, rfl, ?_, k1.own o1 (Nat.le_refl _) h3⟩
  rw [List.nil_append, Nat.zero_add] at h2
  rw [Nat.zero_add]
  exact h2
theorem cl_T {w : World} {v : Value} (l : List (List UInt8)) (hv : RowO w v txC l) (hl : l.length ≤ 8796093022208) : Calls Tryz.prog 71 #[v] w fun e w' => ∃ v', e = .returned v' ∧ OwnT w' w.heap.size v' l ∧ Kp w w' n_ := by
 obtain ⟨a, cap, rfl, hr⟩ := hv
 have hnil : l.length = 0 → l = [] := List.eq_nil_of_length_eq_zero
 rcases a with _ | ⟨gb, o, sp⟩
 ·obtain rfl : l = [] := hnil (by
   rcases Nat.eq_zero_or_pos l.length with h | h
   ·exact h
   ·obtain ⟨g, o, h1, _⟩ := hr h; cases h1)
  refine zaa (args := [.slice none 0 cap]) Tryz.func71 rfl NL ?_; refine GW ?_
  refine KGO ?_
  exact ⟨_, rfl, World.ownsRow_nil _ _ _ _, Kp.refl _ _⟩
 ·refine zaa (args := [.slice (some ⟨gb, o, sp⟩) l.length cap]) Tryz.func71 rfl NL ?_; refine GW ?_
  refine KGO ?_
  refine RunV.of (build0T _) ?_
  have o1 : (w.alloc (.cells #[] 9)).ownsRow w.heap.size 9 1 (.slice (some ⟨w.heap.size, 0, none⟩) 0 0) 0 [] := World.ownsRow_made w #[] 0 (Nat.le_refl _) (by decide) (by simp)
  have k1 : Kp w (w.alloc (.cells #[] 9)) n_ := (Kp.refl _ _).alloc _
  have hB : w.heap.size ≤ (w.alloc (.cells #[] 9)).heap.size := k1.size
  generalize w.alloc (.cells #[] 9) = w1 at *
  refine KGO ?_
  have hnews : ∀ j u, (l.flatMap txC)[j]? = some u → w1.cell? ((⟨gb, o, sp⟩ : Addr).add j) = some u := fun j u hj => by
   rcases Nat.eq_zero_or_pos l.length with h | h
   ·rw [hnil h] at hj; simp at hj
   ·obtain ⟨g', o', h1, _, h3⟩ := hr h
    injection h1 with h1
    injection h1 with h4 h5 h6
    subst h4; subst h5; subst h6
    rw [add_none]
    exact zao (h3 j u hj) k1
  refine RunN.app Tryz.underlying58 textInfo rfl (by decide) o1 hB ⟨gb, o, sp⟩ l.length cap (l.flatMap txC) (zay txC 1 lenT l) hnews (oneT l) (by omega) (by omega) fun v' w' h2 h3 => ?_
  obtain ⟨a', c', rfl⟩ : ∃ a c, v' = .slice a (0 + l.length) c := zac h2
  refine KGO ?_
  refine ⟨_, rfl, ?_, k1.own o1 (Nat.le_refl _) h3⟩
  rw [List.nil_append, Nat.zero_add] at h2
  rw [Nat.zero_add]
  exact h2
end Go.Proofs.YtcplagfblmemhaaGreatDoor
namespace Go.Proofs.YtcplagfblmemhaaGreatDoor
set_option linter.unusedVariables false
set_option maxHeartbeats 2000000
open Go.Shelf Go.RowKit Go.Pw Go.Vc Go.Cs Go.Lib Go.Sort
set_option linter.unusedVariables false
set_option maxRecDepth 100000
def ren106 : Go.Shelf.Ren := ⟨fun | 106 => 158 | 213 => 179 | 265 => 199 | n => n, fun | 3 => 3 | 5 => 5 | 9 => 9 | n => n, fun | n => n⟩
theorem lays106 : Go.Proofs.Lays.n106 Tryz.prog ren106 := {
 mixed := by kernel_rfl
 f106 := Tryz.func158.trans (congrArg some (by kernel_rfl))
 f213 := Tryz.func179.trans (congrArg some (by kernel_rfl))
 f265 := Tryz.func199.trans (congrArg some (by kernel_rfl))
 t3 := Tryz.underlying3
 a3 := Tryz.isAgg3
 z3 := Tryz.sizeOf3
 v3 := Tryz.zeroValue3
 t9 := Tryz.underlying9
 a9 := Tryz.isAgg9
 z9 := Tryz.sizeOf9
 v9 := Tryz.zeroValue9 }
def ren137 : Go.Shelf.Ren := ⟨fun | 137 => 177 | 217 => 198 | 266 => 206 | n => n, fun | 3 => 3 | 5 => 5 | 9 => 9 | n => n, fun | n => n⟩
theorem lays137 : Go.Proofs.Lays.n137 Tryz.prog ren137 := {
 mixed := by kernel_rfl
 f137 := Tryz.func177.trans (congrArg some (by kernel_rfl))
 f217 := Tryz.func198.trans (congrArg some (by kernel_rfl))
 f266 := Tryz.func206.trans (congrArg some (by kernel_rfl))
 t3 := Tryz.underlying3
 a3 := Tryz.isAgg3
 z3 := Tryz.sizeOf3
 v3 := Tryz.zeroValue3
 t5 := Tryz.underlying5
 a5 := Tryz.isAgg5
 z5 := Tryz.sizeOf5
 v5 := Tryz.zeroValue5
 t9 := Tryz.underlying9
 a9 := Tryz.isAgg9
 z9 := Tryz.sizeOf9
 v9 := Tryz.zeroValue9 }
def ren189 : Go.Shelf.Ren := ⟨fun | 125 => 65 | 128 => 124 | 129 => 125 | 189 => 24 | 215 => 167 | 216 => 121 | 257 => 64 | 294 => 115 | 295 => 116 | 296 => 117 | 297 => 118 | 298 => 119 | 299 => 120 | 300 => 122 | 301 => 123 | 328 => 162 | 329 => 163 | 330 => 164 | 331 => 165 | 332 => 166 | 343 => 181 | n => n, fun | 0 => 0 | 3 => 3 | 4 => 4 | 5 => 5 | 9 => 9 | 28 => 37 | 46 => 122 | 51 => 189 | 53 => 191 | 131 => 144 | 182 => 181 | 183 => 182 | 218 => 223 | 222 => 227 | 228 => 238 | 229 => 239 | n => n, fun | n => n⟩
theorem lays189 : Go.Proofs.Lays.n189 Tryz.prog ren189 := {
 mixed := by kernel_rfl
 f125 := Tryz.func65.trans (congrArg some (by kernel_rfl))
 f128 := Tryz.func124.trans (congrArg some (by kernel_rfl))
 f129 := Tryz.func125.trans (congrArg some (by kernel_rfl))
 f189 := Tryz.func24.trans (congrArg some (by kernel_rfl))
 f215 := Tryz.func167.trans (congrArg some (by kernel_rfl))
 f216 := Tryz.func121.trans (congrArg some (by kernel_rfl))
 f257 := Tryz.func64.trans (congrArg some (by kernel_rfl))
 f294 := Tryz.func115.trans (congrArg some (by kernel_rfl))
 f295 := Tryz.func116.trans (congrArg some (by kernel_rfl))
 f296 := Tryz.func117.trans (congrArg some (by kernel_rfl))
 f297 := Tryz.func118.trans (congrArg some (by kernel_rfl))
 f298 := Tryz.func119.trans (congrArg some (by kernel_rfl))
 f299 := Tryz.func120.trans (congrArg some (by kernel_rfl))
 f300 := Tryz.func122.trans (congrArg some (by kernel_rfl))
 f301 := Tryz.func123.trans (congrArg some (by kernel_rfl))
 f328 := Tryz.func162.trans (congrArg some (by kernel_rfl))
 f329 := Tryz.func163.trans (congrArg some (by kernel_rfl))
 f330 := Tryz.func164.trans (congrArg some (by kernel_rfl))
 f331 := Tryz.func165.trans (congrArg some (by kernel_rfl))
 f332 := Tryz.func166.trans (congrArg some (by kernel_rfl))
 f343 := Tryz.func181.trans (congrArg some (by kernel_rfl))
 t0 := Tryz.underlying0
 a0 := Tryz.isAgg0
 z0 := Tryz.sizeOf0
 v0 := Tryz.zeroValue0
 t3 := Tryz.underlying3
 a3 := Tryz.isAgg3
 z3 := Tryz.sizeOf3
 v3 := Tryz.zeroValue3
 t4 := Tryz.underlying4
 a4 := Tryz.isAgg4
 z4 := Tryz.sizeOf4
 v4 := Tryz.zeroValue4
 t5 := Tryz.underlying5
 a5 := Tryz.isAgg5
 z5 := Tryz.sizeOf5
 v5 := Tryz.zeroValue5
 t9 := Tryz.underlying9
 a9 := Tryz.isAgg9
 z9 := Tryz.sizeOf9
 v9 := Tryz.zeroValue9
 t28 := Tryz.underlying37
 a28 := Tryz.isAgg37
 z28 := Tryz.sizeOf37
 v28 := Tryz.zeroValue37
 t46 := Tryz.underlying122
 a46 := Tryz.isAgg122
 z46 := Tryz.sizeOf122
 v46 := Tryz.zeroValue122
 t51 := Tryz.underlying189
 a51 := Tryz.isAgg189
 z51 := Tryz.sizeOf189
 v51 := Tryz.zeroValue189
 t53 := Tryz.underlying191
 a53 := Tryz.isAgg191
 z53 := Tryz.sizeOf191
 v53 := Tryz.zeroValue191
 t131 := Tryz.underlying144
 a131 := Tryz.isAgg144
 z131 := Tryz.sizeOf144
 v131 := Tryz.zeroValue144
 t182 := Tryz.underlying181
 a182 := Tryz.isAgg181
 z182 := Tryz.sizeOf181
 v182 := Tryz.zeroValue181
 t183 := Tryz.underlying182
 a183 := Tryz.isAgg182
 z183 := Tryz.sizeOf182
 v183 := Tryz.zeroValue182
 t218 := Tryz.underlying223
 a218 := Tryz.isAgg223
 z218 := Tryz.sizeOf223
 v218 := Tryz.zeroValue223
 t222 := Tryz.underlying227
 a222 := Tryz.isAgg227
 z222 := Tryz.sizeOf227
 v222 := Tryz.zeroValue227
 t228 := Tryz.underlying238
 a228 := Tryz.isAgg238
 z228 := Tryz.sizeOf238
 v228 := Tryz.zeroValue238
 t229 := Tryz.underlying239
 a229 := Tryz.isAgg239
 z229 := Tryz.sizeOf239
 v229 := Tryz.zeroValue239 }
def ren190 : Go.Shelf.Ren := ⟨fun | 125 => 65 | 128 => 124 | 129 => 125 | 190 => 143 | 258 => 176 | 302 => 189 | 303 => 190 | 304 => 191 | 305 => 192 | 306 => 193 | 307 => 194 | 308 => 195 | 309 => 196 | 310 => 197 | 329 => 163 | 330 => 164 | 333 => 202 | 334 => 203 | 335 => 204 | 336 => 205 | 344 => 207 | n => n, fun | 0 => 0 | 3 => 3 | 4 => 4 | 5 => 5 | 9 => 9 | 31 => 58 | 46 => 122 | 51 => 189 | 53 => 191 | 131 => 144 | 182 => 181 | 183 => 182 | 218 => 223 | 222 => 227 | 228 => 238 | 229 => 239 | n => n, fun | n => n⟩
theorem lays190 : Go.Proofs.Lays.n190 Tryz.prog ren190 := {
 mixed := by kernel_rfl
 f125 := Tryz.func65.trans (congrArg some (by kernel_rfl))
 f128 := Tryz.func124.trans (congrArg some (by kernel_rfl))
 f129 := Tryz.func125.trans (congrArg some (by kernel_rfl))
 f190 := Tryz.func143.trans (congrArg some (by kernel_rfl))
 f258 := Tryz.func176.trans (congrArg some (by kernel_rfl))
 f302 := Tryz.func189.trans (congrArg some (by kernel_rfl))
 f303 := Tryz.func190.trans (congrArg some (by kernel_rfl))
 f304 := Tryz.func191.trans (congrArg some (by kernel_rfl))
 f305 := Tryz.func192.trans (congrArg some (by kernel_rfl))
 f306 := Tryz.func193.trans (congrArg some (by kernel_rfl))
 f307 := Tryz.func194.trans (congrArg some (by kernel_rfl))
 f308 := Tryz.func195.trans (congrArg some (by kernel_rfl))
 f309 := Tryz.func196.trans (congrArg some (by kernel_rfl))
 f310 := Tryz.func197.trans (congrArg some (by kernel_rfl))
 f329 := Tryz.func163.trans (congrArg some (by kernel_rfl))
 f330 := Tryz.func164.trans (congrArg some (by kernel_rfl))
 f333 := Tryz.func202.trans (congrArg some (by kernel_rfl))
 f334 := Tryz.func203.trans (congrArg some (by kernel_rfl))
 f335 := Tryz.func204.trans (congrArg some (by kernel_rfl))
 f336 := Tryz.func205.trans (congrArg some (by kernel_rfl))
 f344 := Tryz.func207.trans (congrArg some (by kernel_rfl))
 t0 := Tryz.underlying0
 a0 := Tryz.isAgg0
 z0 := Tryz.sizeOf0
 v0 := Tryz.zeroValue0
 t3 := Tryz.underlying3
 a3 := Tryz.isAgg3
 z3 := Tryz.sizeOf3
 v3 := Tryz.zeroValue3
 t4 := Tryz.underlying4
 a4 := Tryz.isAgg4
 z4 := Tryz.sizeOf4
 v4 := Tryz.zeroValue4
 t5 := Tryz.underlying5
 a5 := Tryz.isAgg5
 z5 := Tryz.sizeOf5
 v5 := Tryz.zeroValue5
 t9 := Tryz.underlying9
 a9 := Tryz.isAgg9
 z9 := Tryz.sizeOf9
 v9 := Tryz.zeroValue9
 t31 := Tryz.underlying58
 a31 := Tryz.isAgg58
 z31 := Tryz.sizeOf58
 v31 := Tryz.zeroValue58
 t46 := Tryz.underlying122
 a46 := Tryz.isAgg122
 z46 := Tryz.sizeOf122
 v46 := Tryz.zeroValue122
 t51 := Tryz.underlying189
 a51 := Tryz.isAgg189
 z51 := Tryz.sizeOf189
 v51 := Tryz.zeroValue189
 t53 := Tryz.underlying191
 a53 := Tryz.isAgg191
 z53 := Tryz.sizeOf191
 v53 := Tryz.zeroValue191
 t131 := Tryz.underlying144
 a131 := Tryz.isAgg144
 z131 := Tryz.sizeOf144
 v131 := Tryz.zeroValue144
 t182 := Tryz.underlying181
 a182 := Tryz.isAgg181
 z182 := Tryz.sizeOf181
 v182 := Tryz.zeroValue181
 t183 := Tryz.underlying182
 a183 := Tryz.isAgg182
 z183 := Tryz.sizeOf182
 v183 := Tryz.zeroValue182
 t218 := Tryz.underlying223
 a218 := Tryz.isAgg223
 z218 := Tryz.sizeOf223
 v218 := Tryz.zeroValue223
 t222 := Tryz.underlying227
 a222 := Tryz.isAgg227
 z222 := Tryz.sizeOf227
 v222 := Tryz.zeroValue227
 t228 := Tryz.underlying238
 a228 := Tryz.isAgg238
 z228 := Tryz.sizeOf238
 v228 := Tryz.zeroValue238
 t229 := Tryz.underlying239
 a229 := Tryz.isAgg239
 z229 := Tryz.sizeOf239
 v229 := Tryz.zeroValue239 }
def ren194 : Go.Shelf.Ren := ⟨fun | 194 => 144 | n => n, fun | 0 => 0 | 3 => 3 | 4 => 4 | 5 => 5 | 9 => 9 | 31 => 58 | n => n, fun | n => n⟩
theorem lays194 : Go.Proofs.Lays.n194 Tryz.prog ren194 := {
 mixed := by kernel_rfl
 f194 := Tryz.func144.trans (congrArg some (by kernel_rfl))
 t0 := Tryz.underlying0
 a0 := Tryz.isAgg0
 z0 := Tryz.sizeOf0
 v0 := Tryz.zeroValue0
 t3 := Tryz.underlying3
 a3 := Tryz.isAgg3
 z3 := Tryz.sizeOf3
 v3 := Tryz.zeroValue3
 t4 := Tryz.underlying4
 a4 := Tryz.isAgg4
 z4 := Tryz.sizeOf4
 v4 := Tryz.zeroValue4
 t9 := Tryz.underlying9
 a9 := Tryz.isAgg9
 z9 := Tryz.sizeOf9
 v9 := Tryz.zeroValue9
 t31 := Tryz.underlying58
 a31 := Tryz.isAgg58
 z31 := Tryz.sizeOf58
 v31 := Tryz.zeroValue58 }
def renL2_20 : Go.Shelf.Ren := ⟨fun | 20 => 142 | n => n, fun | 0 => 0 | 3 => 3 | 4 => 4 | 5 => 5 | 22 => 37 | n => n, fun | n => n⟩
theorem zfr : Go.Proofs.Lays2.n20 Tryz.prog renL2_20 := {
 mixed := by kernel_rfl
 f20 := Tryz.func142.trans (congrArg some (by kernel_rfl))
 t0 := Tryz.underlying0
 a0 := Tryz.isAgg0
 z0 := Tryz.sizeOf0
 v0 := Tryz.zeroValue0
 t3 := Tryz.underlying3
 a3 := Tryz.isAgg3
 z3 := Tryz.sizeOf3
 v3 := Tryz.zeroValue3
 t4 := Tryz.underlying4
 a4 := Tryz.isAgg4
 z4 := Tryz.sizeOf4
 v4 := Tryz.zeroValue4
 t22 := Tryz.underlying37
 a22 := Tryz.isAgg37
 z22 := Tryz.sizeOf37
 v22 := Tryz.zeroValue37
 i3 := by kernel_rfl }
theorem zlc (a b : ByteArray) (w : World) : Calls Tryz.prog 158 #[.string a, .string b] w fun e w' => e = .returned (.int .i64 (compareBytes (L a) (L b))) ∧ w = w' :=
 (Any.strings_Compare lays106 a b w).mono fun e w' h => ⟨h.1, h.2.symm⟩
theorem zdq (s : ByteArray) (c : UInt8) (w : World) : Calls Tryz.prog 177 #[.string s, .int .u8 c.toNat] w fun e w' => e = .returned (.int .i64 (indexByte (L s) c)) ∧ w = w' :=
 (Any.strings_IndexByte lays137 s c.toNat w).mono fun e w' h => ⟨by rw [h.1]; simp [L], h.2.symm⟩
section
variable {w : World} {B g cap : Nat}
theorem srt_I {v : Value} (l : List Int) (ho : OwnI w B v l) (hl : l.length ≤ 17592186044416) : Calls Tryz.prog 24 #[v] w fun e w' => e = .returned (.tuple #[]) ∧ OwnI w' B v (l.mergeSort fun x y => decide (x ≤ y)) ∧ Kp w w' (own_ v) := by
 rcases own_blockK ho with ⟨rfl, h0⟩ | ⟨g, cap, cells, rfl, hBg, hv, hnc, hcm, hcl, htk⟩
 ·obtain rfl : l = [] := List.eq_nil_of_length_eq_zero h0
  exact (Any.slices_Sort_int_none lays189 none 0 w).mono fun e w' h => ⟨h.1, by rw [h.2, List.mergeSort_nil]; exact ho, by rw [h.2]; exact Kp.refl _ _⟩
 ·have htk : cells.take l.length = l.map (Value.int .i64) := by rw [← flat1]; rw [Nat.mul_one] at htk; exact htk
  refine (Any.slices_Sort_int lays189 g 0 cap l w (zdX hv htk) hv.lt (by omega)).mono ?_
  rintro e w' ⟨rfl, n, os, rfl⟩
  refine ⟨rfl, ?_, (zdR _).mono fun q _ hq => by have hq : q = g := hq; rw [hq]; rfl⟩
  have := zgY (enc := (Value.int .i64)) (q := n) (os := os) ho (l.mergeSort fun x y => decide (x ≤ y)) (List.length_mergeSort _) (Nat.le_refl _)
  rw [← flat1, List.take_of_length_le (by rw [List.length_mergeSort]; exact Nat.le_refl _)] at this
  unfold OwnI
  rw [List.length_mergeSort]
  exact this
theorem cmp_I {v : Value} (l : List Int) (ho : OwnI w B v l) (hl : l.length ≤ 17592186044416) : Calls Tryz.prog 142 #[v] w fun e w' => ∃ v', e = .returned v' ∧ OwnI w' B v' (compact l) ∧ Kp w w' (own_ v) ∧ v'.ownBlock = v.ownBlock := by
 rcases own_blockK ho with ⟨rfl, h0⟩ | ⟨g, cap, cells, rfl, hBg, hv, hnc, hcm, hcl, htk⟩
 ·obtain rfl : l = [] := List.eq_nil_of_length_eq_zero h0
  exact (Any.slices_Compact_int_empty zfr none 0 w).mono fun e w' h => ⟨_, h.1, by rw [h.2]; exact ho, by rw [h.2]; exact Kp.refl _ _, rfl⟩
 ·by_cases h0 : l = []
  ·subst h0
   exact (Any.slices_Compact_int_empty zfr (some ⟨g, 0, none⟩) cap w).mono fun e w' h => ⟨_, h.1, by rw [h.2]; exact ho, by rw [h.2]; exact Kp.refl _ _, rfl⟩
  have htk : cells.take l.length = l.map (Value.int .i64) := by rw [← flat1]; rw [Nat.mul_one] at htk; exact htk
  refine (Any.slices_Compact_int zfr g 0 cap l w (zdX hv htk) (by omega) hnc).mono ?_
  rintro e w' ⟨rfl, n, hw⟩
  rw [← grow_empty (putRow _ _ _ _ _)] at hw
  subst hw
  have hle : (compact l).length ≤ l.length := by
   unfold compact compactUpTo
   rw [List.length_map]
   refine Nat.le_trans (List.length_filter_le _ _) ?_
   simp
  refine ⟨_, rfl, ?_, (zdR _).mono fun q _ hq => by have hq : q = g := hq; rw [hq]; rfl, rfl⟩
  have := zgY (enc := (Value.int .i64)) (q := n) (os := #[]) ho (compact l ++ List.replicate (l.length - (compact l).length) 0) (by rw [List.length_append, List.length_replicate]; omega) (m := (compact l).length) hle
  rw [List.take_left, ← flat1] at this
  exact this
theorem srt_T {v : Value} (l : List (List UInt8)) (ho : OwnT w B v l) (hl : l.length ≤ 8796093022208) : Calls Tryz.prog 143 #[v] w fun e w' => e = .returned (.tuple #[]) ∧ OwnT w' B v (l.mergeSort fun x y => decide (x ≤ y)) ∧ Kp w w' (own_ v) := by
 rcases own_blockK ho with ⟨rfl, h0⟩ | ⟨g, cap, cells, rfl, hBg, hv, hnc, hcm, hcl, htk⟩
 ·obtain rfl : l = [] := List.eq_nil_of_length_eq_zero h0
  exact (Any.slices_Sort_string_none lays190 none 0 w).mono fun e w' h => ⟨h.1, by rw [h.2, List.mergeSort_nil]; exact ho, by rw [h.2]; exact Kp.refl _ _⟩
 ·have htk : cells.take l.length = l.map encStr := by rw [← flat1]; rw [Nat.mul_one] at htk; exact htk
  refine (Any.slices_Sort_string lays190 g 0 cap l w (zdX hv htk) hv.lt (by omega)).mono ?_
  rintro e w' ⟨rfl, n, os, rfl⟩
  refine ⟨rfl, ?_, (zdR _).mono fun q _ hq => by have hq : q = g := hq; rw [hq]; rfl⟩
  have := zgY (enc := encStr) (q := n) (os := os) ho (l.mergeSort fun x y => decide (x ≤ y)) (List.length_mergeSort _) (Nat.le_refl _)
  rw [← flat1, List.take_of_length_le (by rw [List.length_mergeSort]; exact Nat.le_refl _)] at this
  unfold OwnT
  rw [List.length_mergeSort]
  exact this
theorem cmp_T {v : Value} (l : List (List UInt8)) (ho : OwnT w B v l) (hl : l.length ≤ 8796093022208) : Calls Tryz.prog 144 #[v] w fun e w' => ∃ v', e = .returned v' ∧ OwnT w' B v' (compact l) ∧ Kp w w' (own_ v) ∧ v'.ownBlock = v.ownBlock := by
 rcases own_blockK ho with ⟨rfl, h0⟩ | ⟨g, cap, cells, rfl, hBg, hv, hnc, hcm, hcl, htk⟩
 ·obtain rfl : l = [] := List.eq_nil_of_length_eq_zero h0
  exact (Any.slices_Compact_string_empty lays194 none 0 w).mono fun e w' h => ⟨_, h.1, by rw [h.2]; exact ho, by rw [h.2]; exact Kp.refl _ _, rfl⟩
 ·by_cases h0 : l = []
  ·subst h0
   exact (Any.slices_Compact_string_empty lays194 (some ⟨g, 0, none⟩) cap w).mono fun e w' h => ⟨_, h.1, by rw [h.2]; exact ho, by rw [h.2]; exact Kp.refl _ _, rfl⟩
  have htk : cells.take l.length = l.map encStr := by rw [← flat1]; rw [Nat.mul_one] at htk; exact htk
  refine (Any.slices_Compact_string lays194 g 0 cap l w (zdX hv htk) (by omega) hnc).mono ?_
  rintro e w' ⟨rfl, n, hw⟩
  rw [← grow_empty (putRow _ _ _ _ _)] at hw
  subst hw
  have hle : (compact l).length ≤ l.length := by
   unfold compact compactUpTo
   rw [List.length_map]
   refine Nat.le_trans (List.length_filter_le _ _) ?_
   simp
  refine ⟨_, rfl, ?_, (zdR _).mono fun q _ hq => by have hq : q = g := hq; rw [hq]; rfl, rfl⟩
  have := zgY (enc := encStr) (q := n) (os := #[]) ho (compact l ++ List.replicate (l.length - (compact l).length) []) (by rw [List.length_append, List.length_replicate]; omega) (m := (compact l).length) hle
  rw [List.take_left, ← flat1] at this
  exact this
end
end Go.Proofs.YtcplagfblmemhaaGreatDoor
set_option linter.unusedVariables false
namespace Go.Vc
set_option linter.unusedVariables false
set_option maxHeartbeats 2000000
open Go Go.Pw Go.RowKit
def Bs (w : World) (b : Nat) (l : List UInt8) : Prop := At w b 0 (Lib.byteCells l) ∧ ∀ j, j < l.length → w.frozen? ⟨b, 0 + j, none⟩ = false
theorem Bs.store {w : World} {b i : Nat} {l : List UInt8} (h : Bs w b l) (hi : i < l.length) (x : UInt8) : (∃ u, w.cell? ⟨b, 0 + i, none⟩ = some u) ∧ w.frozen? ⟨b, 0 + i, none⟩ = false ∧ Bs (w.setCell ⟨b, 0 + i, none⟩ (.int .u8 (x.toNat : Int))) b (l.set i x) := by
 have hc : w.cell? ⟨b, 0 + i, none⟩ = some (.int .u8 (l[i].toNat : Int)) := h.1 i _ (by simp [Lib.byteCells, hi])
 refine ⟨⟨_, hc⟩, h.2 i hi, fun j v hj => ?_, fun j hj => ?_⟩
 ·by_cases e : i = j
  ·subst e
   simp [Lib.byteCells, hi] at hj
   rw [zig hc, hj]
  ·have : (⟨b, 0 + i, none⟩ : Addr) ≠ ⟨b, 0 + j, none⟩ := fun e' => by injection e'; omega
   rw [World.cell?_setCell_other (h := this)]
   refine h.1 j v ?_
   simpa [Lib.byteCells, List.getElem?_set_ne e] using hj
 ·rw [World.frozen?_setCell]
  rw [List.length_set] at hj
  exact h.2 j hj
theorem Bs.cell {w : World} {b i : Nat} {l : List UInt8} (h : Bs w b l) (hi : i < l.length) : w.cell? ⟨b, 0 + i, none⟩ = some (.int .u8 (((l.getD i 0).toNat : Nat) : Int)) := h.1 i _ (by simp [Lib.byteCells, hi, List.getD])
theorem Bs.keep {w w' : World} {b : Nat} {l : List UInt8} {c : Nat → Prop} (h : Bs w b l) (k : Kp w w' c) (hb : b < w.heap.size) (hc : ¬ c b) : Bs w' b l :=
 ⟨fun i v hi => by rw [k.cell (p := ⟨b, 0 + i, none⟩) hb hc]; exact h.1 i v hi, fun j hj => by rw [k.frozen (p := ⟨b, 0 + j, none⟩) hb hc]; exact h.2 j hj⟩
theorem RunV.back {P : Program} {w : World} {src dst e : TypeId} {b cap : Nat} {l : List UInt8} {K : Value → World → Prop} (hs : P.underlying src = some (.slice e)) (he : P.underlying e = some (.int .u8)) (hd : P.underlying dst = some .string)
  (h : Bs w b l) (k : K (.string ⟨l.toArray⟩) w) : RunV P (convert src dst (.slice (some ⟨b, 0, none⟩) l.length cap)) w K :=
 ⟨_, _, run_convert_bytes_back w src dst e ⟨b, 0, none⟩ cap l hs he hd (fun j hj => by rw [add_none]; exact h.1 j _ (by simp [Lib.byteCells, hj])), k⟩
end Go.Vc
namespace Go.Vc
set_option linter.unusedVariables false
set_option maxHeartbeats 2000000
open Go
theorem zie (i j : Nat) (h : i + j ≤ 1000000000000) : IntKind.i64.wrap ((IntKind.u64.wrap ((i : Int) + (j : Int))).fdiv (2 ^ min (Int.toNat 1) IntKind.u64.bits)) = (((i + j) / 2 : Nat) : Int) := by
 have h1 : IntKind.u64.wrap ((i : Int) + (j : Int)) = ((i + j : Nat) : Int) := by
  unfold IntKind.wrap; simp [IntKind.signed, IntKind.bits]; omega
 have h2 : (2 : Int) ^ min (Int.toNat 1) IntKind.u64.bits = 2 := by decide
 rw [h1, h2, Int.fdiv_eq_ediv_of_nonneg _ (by omega)]
 rw [zdB _ (by omega)]
 omega
end Go.Vc
namespace Go.Proofs.YtcplagfblmemhaaGreatDoor
set_option linter.unusedVariables false
set_option maxHeartbeats 2000000
open Go.RowKit Go.Pw Go.Vc Go.Cs Go.Lib
set_option linter.unusedVariables false
set_option maxRecDepth 100000
theorem zds {w w' : World} {b o : Nat} {vs : List Value} (h : At w b o vs) (k : Kp w w' n_) : At w' b o vs := fun i v hi => by
 have := h i v hi
 rw [k.cell (cell_lt this) id]; exact this
section
variable {w : World}
theorem zqd (a b : Int) : Calls Tryz.prog 130 #[.int .i64 a, .int .i64 b] w fun e w' => e = .returned (.int .i64 (cmp3 a b)) ∧ w = w' := by
 have hn : ∀ (x : Int) (w : World), Calls Tryz.prog 167 #[.int .i64 x] w fun e w' => e = .returned (.bool false) ∧ w = w' := by
  intro x w
  refine zaa (args := [.int .i64 x]) Tryz.func167 rfl NL ?_; refine GW ?_
  exact ⟨zag (by simp), rfl⟩
 refine zaa (args := [.int .i64 a, .int .i64 b]) Tryz.func130 rfl NL ?_; refine GW ?_
 refine CallS.of (Tryz.call167 _ _) (hn a w) ?_
 rintro e w1 ⟨rfl, rfl⟩
 refine RT ?_
 refine CallS.of (Tryz.call167 _ _) (hn b w) ?_
 rintro e w1 ⟨rfl, rfl⟩
 refine RT ?_
 unfold cmp3
 by_cases h1 : a < b
 ·refine GO ?_
  exact ⟨by rw [if_pos h1], rfl⟩
 ·by_cases h2 : b < a
  ·refine GO ?_
   exact ⟨by rw [if_neg h1, if_pos h2], rfl⟩
  ·refine GO ?_
   exact ⟨by rw [if_neg h1, if_neg h2], rfl⟩
end
end Go.Proofs.YtcplagfblmemhaaGreatDoor
