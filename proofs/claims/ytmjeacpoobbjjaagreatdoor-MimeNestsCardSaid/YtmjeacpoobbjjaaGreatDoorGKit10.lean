/- Helper lemmas that the proved statement rests on; no conditions of their own. -/
import Derived.Sort.Grow
import Derived.Sort.EncStr
import Derived.Shelf.Small.Strs
import Derived.Shelf.Sort.Plain
import Derived.Shelf.Slices.CompactI
import Derived.Shelf.Slices.CompactS
import Derived.Shelf.Slices.In.SortNone
import Derived.Shelf.Small.Wraps
import Derived.Shelf.Strings.Prefix
import Derived.Shelf.Strings.Cut
import Derived.Shelf.Strings.Search3
import Derived.Shelf.Strings.LastIndex
import Derived.Shelf.Strings.Replace
import Derived.Shelf.Strings.SlTrimAscii
import Derived.Test.YtmjeacpoobbjjaaGreatDoorGCs3
set_option linter.unusedVariables false
set_option maxRecDepth 100000
namespace Go.Pw
open Go
set_option linter.unusedSectionVars false
section
variable {P : Program} {ops : Array Oper} {S : World → Prop} {hs : Option Tmp → Bool}
structure TailOk (P : Program) (ops : Array Oper) (m : Array Nat) (k : Nat) : Prop where
 last : ∀ (i : Nat) (o : Oper), ops[i]? = some o → k ≤ i → kindOf P o = .pure ∨ ∀ j, j < k → (m.getD i 0).testBit j = true
 comm : ∀ (i : Nat) (o : Oper), ops[i]? = some o → ∀ (j : Nat) (p : Oper), ops[j]? = some p → k ≤ j → j < i → (m.getD i 0).testBit j = false → commB P ops p o = true
def tailB (P : Program) (ops : Array Oper) (k : Nat) : Bool :=
  let m := Region.before ops
  (List.range ops.size).all fun i => Nat.blt i k ||
    ((kindOf P (ops.getD i default) == .pure || (List.range k).all fun j => (m.getD i 0).testBit j) &&
     (List.range i).all fun j => Nat.blt j k || (m.getD i 0).testBit j || commB P ops (ops.getD j default) (ops.getD i default))
theorem zia {k : Nat} (h : tailB P ops k = true) : TailOk P ops (Region.before ops) k := by
 unfold tailB at h
 simp only [List.all_eq_true, List.mem_range, Bool.and_eq_true, Bool.or_eq_true, Nat.blt_eq, beq_iff_eq] at h
 have lt : ∀ (i : Nat) (o : Oper), ops[i]? = some o → i < ops.size ∧ ops.getD i default = o := fun i o ho => by
  obtain ⟨hi, he⟩ := Array.getElem?_eq_some_iff.1 ho
  exact ⟨hi, by simp [hi, he]⟩
 refine ⟨fun i o ho hk => ?_, fun i o ho j p hp hk hj hm => ?_⟩
 ·obtain ⟨hi, he⟩ := lt i o ho
  rcases h i hi with h | h
  ·omega
  ·rw [he] at h
   exact h.1
 ·obtain ⟨hi, he⟩ := lt i o ho
  obtain ⟨_, hp'⟩ := lt j p hp
  rcases h i hi with h | h
  ·omega
  ·rcases h.2 j hj with (h | h) | h
   ·omega
   ·rw [hm] at h; cases h
   ·rw [he, hp'] at h; exact h
theorem bubbleT {Q : Act → World → Prop} {m : Array Nat} {k : Nat} (ok : TextOkH P hs ops m) (tk : TailOk P ops m k) {i : Nat} {o : Oper} (ho : ops[i]? = some o) : ∀ (pre post : List Nat),
  (∀ j ∈ pre, k ≤ j ∧ j < i ∧ (m.getD i 0).testBit j = false) → ∀ (a : Act) (w : World), wpI P ops Q (pre ++ i :: post) a w → TI P ops i (wpI P ops Q (pre ++ post)) a w
 | [], post, _, a, w, h => h
 | j :: pre, post, hp, a, w, h => by
  have ih := bubbleT (Q := Q) ok tk ho pre post (fun k hk => hp k (List.mem_cons_of_mem _ hk))
  have h' : TI P ops j (TI P ops i (wpI P ops Q (pre ++ post))) a w := TI_mono (fun a w => ih a w) h
  show TI P ops i (TI P ops j (wpI P ops Q (pre ++ post))) a w
  obtain ⟨hjk, hj, hm⟩ := hp j List.mem_cons_self
  unfold TI at h' ⊢
  simp only [ho] at h' ⊢
  cases hpj : ops[j]? with
  | none => simp only [hpj] at h' ⊢; exact h'
  | some p =>
   simp only [hpj] at h' ⊢
   exact swap (ok.sel j p hpj) (ok.sel i o ho) (tk.comm i o ho j p hpj hjk hj hm) h'
theorem zgO {Q : Act → World → Prop} (i : Nat) : ∀ (L : List Nat), wpIh P S hs ops (TIh P S hs ops i Q) L = wpIh P S hs ops Q (L ++ [i])
 | [] => rfl
 | j :: L => by
  show TIh P S hs ops j _ = TIh P S hs ops j (wpIh P S hs ops Q (L ++ [i]))
  rw [zgO i L]
theorem zfS {Q Q' : Act → World → Prop} : ∀ (L : List Nat) {a : Act} {w : World}, S w → (∀ a w, S w → Q a w → Q' a w) → wpIh P S hs ops Q L a w → wpIh P S hs ops Q' L a w
 | [], a, w, hw, hq, h => hq a w hw h
 | j :: L, a, w, hw, hq, h => TIh_mono hw (fun a w hS h => zfS L hS hq h) h
theorem TIh_of_pure {i : Nat} {o : Oper} (ho : ops[i]? = some o) (hk : kindOf P o = .pure) {R : Act → World → Prop} {a : Act} {w : World} (hw : S w) (h : TI P ops i R a w) : TIh P S hs ops i (fun a w => S w → R a w) a w := by
 unfold TI at h
 unfold TIh
 simp only [ho] at h ⊢
 unfold T1 at h
 unfold T1h
 split
 ·rename_i hwt
  rw [if_pos hwt] at h
  obtain ⟨h1, h2⟩ := h
  refine ⟨fun _ => (zco hk).2 (h1 hk), ?_⟩
  exact Oper.wpN_mono (fun a w hh => ⟨hh.1, fun _ => hh.2⟩) (Go.Vc.calm_wp hw hk (h1 hk) h2)
 ·rename_i hwt
  rw [if_neg hwt] at h
  exact fun _ => h
def HoldsT (P : Program) (S : World → Prop) (hs : Option Tmp → Bool) (ops : Array Oper) (Q : Act → World → Prop) : List Nat → List Nat → Act → World → Prop
 | [], LB, a, w => wpI P ops Q LB a w
 | x :: LA, LB, a, w => S w ∧ wpIh P S hs ops (fun a w => S w → wpI P ops Q LB a w) (x :: LA) a w
theorem HoldsT.of {Q : Act → World → Prop} {LA LB : List Nat} {a : Act} {w : World} (h : S w ∧ wpIh P S hs ops (fun a w => S w → wpI P ops Q LB a w) LA a w) : HoldsT P S hs ops Q LA LB a w := by
 cases LA with
 | nil => exact h.2 h.1
 | cons x LA => exact h
theorem anyOrderT {Q : Exit → Act → World → Prop} {m : Array Nat} {k : Nat} (ok : TextOkH P hs ops m) (tk : TailOk P ops m k) : ∀ (fuel : Nat) (LA LB : List Nat) (listed : Array Bool) (a : Act) (w : World),
  (LA ++ LB).length = fuel → listed.size = ops.size → Closed ops listed → (LA ++ LB).Pairwise (· < ·) → (∀ j ∈ LA, j < k) → (∀ j ∈ LB, k ≤ j) → (∀ j, j ∈ LA ++ LB ↔ j < ops.size ∧ listed.getD j false = false) →
  HoldsT P S hs ops (Q .normal) LA LB a w → wpAnyX P .any ops (Q .normal) fuel listed a w := by
 intro fuel
 induction fuel with
 | zero =>
  intro LA LB listed a w hlen hsz hcl hpw hA hB hmem h
  obtain ⟨rfl, rfl⟩ := List.append_eq_nil_iff.1 (List.eq_nil_of_length_eq_zero hlen)
  refine ⟨?_, h⟩
  refine List.eq_nil_iff_forall_not_mem.2 fun i hi => ?_
  obtain ⟨h0, o, ho, _⟩ := mem_ready.1 hi
  have hlt : i < ops.size := (Array.getElem?_eq_some_iff.1 ho).1
  have h0' : listed.getD i false = false := by
   have : i < listed.size := by omega
   simp [this] at h0 ⊢; exact h0
  have := (hmem i).2 ⟨hlt, h0'⟩
  cases this
 | succ fuel ih =>
  intro LA LB listed a w hlen hsz hcl hpw hA hB hmem h
  refine ⟨fun hr => ?_, fun i hi => ?_⟩
  ·cases hL : LA ++ LB with
   | nil => rw [hL] at hlen; cases hlen
   | cons i L =>
    exfalso
    rw [hL] at hpw
    obtain ⟨hlt, h0⟩ := (hmem i).1 (by rw [hL]; exact List.mem_cons_self)
    have hrdy : i ∈ Region.ready .any ops listed := by
     refine mem_ready.2 ⟨?_, ops[i], Array.getElem?_eq_getElem hlt, fun e he hb => ?_⟩
     ·have : i < listed.size := by omega
      simp [this] at h0 ⊢; exact h0
     ·have hlt' := ok.back i _ (Array.getElem?_eq_getElem hlt) e he hb
      cases hl : listed.getD e.on false with
      | true => rfl
      | false =>
       have hin := (hmem e.on).2 ⟨by omega, hl⟩
       rw [hL] at hin
       rcases List.mem_cons.1 hin with heq | hin
       ·omega
       ·have := (List.pairwise_cons.1 hpw).1 _ hin; omega
    rw [hr] at hrdy; cases hrdy
  ·obtain ⟨h0, o, ho, hdeps⟩ := mem_ready.1 hi
   have hlt : i < ops.size := (Array.getElem?_eq_some_iff.1 ho).1
   have hil : i < listed.size := by omega
   have h0' : listed.getD i false = false := by simp [hil] at h0 ⊢; exact h0
   have hfree : ∀ j ∈ LA ++ LB, j < i → (m.getD i 0).testBit j = false := fun j hj hji => by
    cases hm : (m.getD i 0).testBit j with
    | false => rfl
    | true =>
     have hl := zbs ok hcl i i o (Nat.le_refl _) ho hdeps j hji hm
     have := ((hmem j).1 hj).2
     rw [hl] at this; cases this
   have hcl' : Closed ops (listed.setIfInBounds i true) := by
    intro k p hk hl e he hb
    by_cases hki : k = i
    ·subst hki
     obtain rfl : p = o := Option.some.inj (hk.symm.trans ho)
     exact getD_set_true (hdeps e he hb)
    ·rw [getD_set_ne false (fun h => hki h.symm)] at hl
     exact getD_set_true (hcl k p hk hl e he hb)
   have hin := (hmem i).2 ⟨hlt, h0'⟩
   have hnd : (LA ++ LB).Nodup := hpw.imp fun h => by omega
   have hmem' : ∀ (LA' LB' : List Nat), (∀ j, j ∈ LA' ++ LB' ↔ j ≠ i ∧ j ∈ LA ++ LB) → ∀ j, j ∈ LA' ++ LB' ↔ j < ops.size ∧ (listed.setIfInBounds i true).getD j false = false := fun LA' LB' hh j => by
    rw [hh, hmem]
    constructor
    ·rintro ⟨k0, k1, k2⟩
     exact ⟨k1, by rw [getD_set_ne false (fun h => k0 h.symm)]; exact k2⟩
    ·rintro ⟨k1, k2⟩
     have hji : j ≠ i := fun e => by subst e; simp [hil] at k2
     rw [getD_set_ne false (fun h => hji h.symm)] at k2
     exact ⟨hji, k1, k2⟩
   rcases List.mem_append.1 hin with hiA | hiB
   ·obtain ⟨pre, post, rfl⟩ := List.append_of_mem hiA
    have hpwA := (List.pairwise_append.1 hpw).1
    have hpre : ∀ j ∈ pre, j < i := fun j hj => (List.pairwise_append.1 hpwA).2.2 j hj i List.mem_cons_self
    have hpost : ∀ j ∈ post, i < j := fun j hj => (List.pairwise_cons.1 (List.pairwise_append.1 hpwA).2.1).1 j hj
    have hLB : ∀ j ∈ LB, i < j := fun j hj => (List.pairwise_append.1 hpw).2.2 i (by simp) j hj
    have h1 : S w ∧ wpIh P S hs ops (fun a w => S w → wpI P ops (Q .normal) LB a w) (pre ++ i :: post) a w := by
     cases pre with
     | nil => exact h
     | cons x pre => exact h
    refine zbo (fun a w h => ?_) (zbt (bubbleH ok ho pre post (fun j hj => ⟨hpre j hj, hfree j (by simp [hj]) (hpre j hj)⟩) a w h1.1 h1.2) h1.1)
    refine ih (pre ++ post) LB _ a w (by simp at hlen ⊢; omega) (by simp [hsz]) hcl' ?_ (fun j hj => hA j (by rcases List.mem_append.1 hj with h | h <;> simp [h])) hB (hmem' _ _ fun j => ?_) (HoldsT.of h)
    ·exact hpw.sublist ((List.Sublist.append_left (List.sublist_cons_self _ _) _).append_right _)
    ·constructor
     ·intro hj
      rcases List.mem_append.1 hj with hj | hj
      ·rcases List.mem_append.1 hj with hj | hj
       ·have := hpre j hj; exact ⟨by omega, by simp [hj]⟩
       ·have := hpost j hj; exact ⟨by omega, by simp [hj]⟩
      ·have := hLB j hj; exact ⟨by omega, by simp [hj]⟩
     ·rintro ⟨hne, hj⟩
      rcases List.mem_append.1 hj with hj | hj
      ·rcases List.mem_append.1 hj with hj | hj
       ·simp [hj]
       ·rcases List.mem_cons.1 hj with rfl | hj
        ·exact absurd rfl hne
        ·simp [hj]
      ·simp [hj]
   ·obtain ⟨pre, post, rfl⟩ := List.append_of_mem hiB
    have hpwB := (List.pairwise_append.1 hpw).2.1
    have hpre : ∀ j ∈ pre, j < i := fun j hj => (List.pairwise_append.1 hpwB).2.2 j hj i List.mem_cons_self
    have hpost : ∀ j ∈ post, i < j := fun j hj => (List.pairwise_cons.1 (List.pairwise_append.1 hpwB).2.1).1 j hj
    have hLA : ∀ j ∈ LA, j < i := fun j hj => (List.pairwise_append.1 hpw).2.2 j hj i (by simp)
    have hik : k ≤ i := hB i (by simp)
    have hbub : ∀ a w, wpI P ops (Q .normal) (pre ++ i :: post) a w → TI P ops i (wpI P ops (Q .normal) (pre ++ post)) a w :=
     bubbleT ok tk ho pre post (fun j hj => ⟨hB j (by simp [hj]), hpre j hj, hfree j (by simp [hj]) (hpre j hj)⟩)
    have goOn : ∀ a w, HoldsT P S hs ops (Q .normal) LA (pre ++ post) a w → wpAnyX P .any ops (Q .normal) fuel (listed.setIfInBounds i true) a w := fun a w hh =>
     ih LA (pre ++ post) _ a w (by simp at hlen ⊢; omega) (by simp [hsz]) hcl' (hpw.sublist (List.Sublist.append_left (List.Sublist.append_left (List.sublist_cons_self _ _) _) _)) hA (fun j hj => hB j (by rcases List.mem_append.1 hj with h | h <;> simp [h])) (hmem' _ _ fun j => by
      constructor
      ·intro hj
       rcases List.mem_append.1 hj with hj | hj
       ·have := hLA j hj; exact ⟨by omega, by simp [hj]⟩
       ·rcases List.mem_append.1 hj with hj | hj
        ·have := hpre j hj; exact ⟨by omega, by simp [hj]⟩
        ·have := hpost j hj; exact ⟨by omega, by simp [hj]⟩
      ·rintro ⟨hne, hj⟩
       rcases List.mem_append.1 hj with hj | hj
       ·simp [hj]
       ·rcases List.mem_append.1 hj with hj | hj
        ·simp [hj]
        ·rcases List.mem_cons.1 hj with rfl | hj
         ·exact absurd rfl hne
         ·simp [hj]) hh
    cases LA with
    | nil =>
     have h : wpI P ops (Q .normal) (pre ++ i :: post) a w := h
     exact zcE (TI_mono (fun a w hh => goOn a w hh) (hbub a w h))
    | cons x LA =>
     obtain ⟨hw, h⟩ : S w ∧ wpIh P S hs ops (fun a w => S w → wpI P ops (Q .normal) (pre ++ i :: post) a w) (x :: LA) a w := h
     have hpure : kindOf P o = .pure := by
      rcases tk.last i o ho hik with h | h
      ·exact h
      ·have := hfree x (by simp) (hLA x (by simp))
       rw [h x (hA x (by simp))] at this; cases this
     have h2 : wpIh P S hs ops (TIh P S hs ops i (fun a w => S w → wpI P ops (Q .normal) (pre ++ post) a w)) (x :: LA) a w :=
      zfS (x :: LA) hw (fun a w hS hh => TIh_of_pure ho hpure hS (hbub a w (hh hS))) h
     rw [zgO] at h2
     have h3 := bubbleH (post := []) ok ho (x :: LA) (fun j hj => ⟨hLA j hj, hfree j (List.mem_append_left _ hj) (hLA j hj)⟩) a w hw h2
     rw [List.append_nil] at h3
     exact zbo (fun a w hh => goOn a w (HoldsT.of hh)) (zbt h3 hw)
theorem zld {Q : Act → World → Prop} (l : List Oper) : ∀ k, (∀ j, l[j]? = ops[k + j]?) → wpI P ops Q (List.range' k l.length) = wpT P ops Q l := zei l
theorem zbY {Q : Exit → Act → World → Prop} {id : Nat} {pre post : List Oper} {a : Act} {w : World} (hm : P.follows .mixedOrders = true) (hs : Option Tmp → Bool) (S : World → Prop) (hw0 : S w.drew)
  (hB : textH P hs (pre ++ post).toArray = true) (hT : tailB P (pre ++ post).toArray pre.length = true)
  (h : wpTh P S hs (pre ++ post).toArray (fun a w => S w → wpT P (pre ++ post).toArray (fun a w => Q .normal a w) post a w) pre a w.drew) : (Code.region id (pre ++ post).toArray true).wpX P Q a w := by
 refine zaO hm ?_
 have ok := zcB hB
 have tk := zia hT
 have hz : ∀ j, (Array.replicate (pre ++ post).toArray.size false).getD j false = false := fun j => by
  simp only [Array.getD_eq_getD_getElem?, Array.getElem?_replicate]; split <;> rfl
 have hsz : (pre ++ post).toArray.size = pre.length + post.length := by simp
 have hr : List.range pre.length ++ List.range' pre.length post.length = List.range (pre.length + post.length) := by
  rw [List.range_eq_range', List.range_eq_range']
  have := List.range'_append (s := 0) (m := pre.length) (n := post.length) (step := 1)
  simpa using this
 have key := anyOrderT (S := S) (Q := Q) ok tk (pre.length + post.length) (List.range pre.length) (List.range' pre.length post.length) (Array.replicate (pre ++ post).toArray.size false) a w.drew (by simp) (by simp) ?_ (by rw [hr]; exact List.pairwise_lt_range) (fun j hj => by simpa using hj) (fun j hj => by simp at hj; omega) (fun j => by rw [hr, hz, hsz]; simp) ?_
 ·rw [hsz] at key ⊢; exact key
 ·intro i o _ hl; rw [hz] at hl; cases hl
 ·refine HoldsT.of ⟨hw0, ?_⟩
  have e1 := zhc (P := P) (S := S) (hs := hs) (ops := (pre ++ post).toArray) (Q := fun a w => S w → wpI P (pre ++ post).toArray (Q .normal) (List.range' pre.length post.length) a w) pre 0 (fun j hj => by rw [Nat.zero_add]; simp [List.getElem?_append_left hj])
  rw [show List.range pre.length = List.range' 0 pre.length from by simp [List.range_eq_range'], e1]
  have e2 : wpI P (pre ++ post).toArray (Q .normal) (List.range' pre.length post.length) = wpT P (pre ++ post).toArray (Q .normal) post := zld (ops := (pre ++ post).toArray) post pre.length (fun j => by
   rw [List.getElem?_toArray, List.getElem?_append_right (Nat.le_add_right _ _), Nat.add_sub_cancel_left])
  rw [e2]
  exact h
end
end Go.Pw
namespace Go.Vc
open Go Go.Pw
theorem Draw.heldTail {P : Program} {n : Nat} {K : Exit → Fr → World → Prop} {id : Nat} {ops : Array Oper} {t : List It} {f : Fr} {w : World} (k : Nat) (S : World → Prop) (hs : Option Tmp → Bool) (hB : textH P hs ops = true) (hT : (Nat.ble k ops.size && tailB P ops k) = true) (hw : S w.drew)
  (h : Sat P n K .normal (.opsH S hs ops.toList (ops.toList.take k) :: .ops ops.toList (ops.toList.drop k) true :: t) f w.drew) : Draw P n K id ops t f w :=
 ⟨fun hm hf => by
  rw [Bool.and_eq_true] at hT
  obtain ⟨hk, hT⟩ := hT
  have hk : k ≤ ops.size := Nat.le_of_ble_eq_true hk
  obtain ⟨pre, post, he, hpl⟩ : ∃ pre post : List Oper, ops = (pre ++ post).toArray ∧ pre.length = k := ⟨ops.toList.take k, ops.toList.drop k, by rw [List.take_append_drop], by rw [List.length_take, Array.length_toList]; omega⟩
  subst he
  have e1 : (pre ++ post).toArray.toList.take k = pre := by rw [← hpl]; simp
  have e2 : (pre ++ post).toArray.toList.drop k = post := by rw [← hpl]; simp
  rw [e1, e2] at h
  rw [← hpl] at hT
  refine zbY hm hs S hw hB hT ?_
  have h1 := h.h hf
  have h1 : S w.drew → wpTh P S hs (pre ++ post).toArray (fun a w => S w → Lift n (after P n (.ops (pre ++ post).toArray.toList post true :: t) K .normal) a w) pre (act n f) w.drew := h1
  have mono : ∀ (l : List Oper) (Q Q' : Act → World → Prop), (∀ a w, Q a w → Q' a w) → ∀ a w, S w → wpTh P S hs (pre ++ post).toArray Q l a w → wpTh P S hs (pre ++ post).toArray Q' l a w := by
   intro l
   induction l with
   | nil => intro Q Q' hq a w _ h; exact hq a w h
   | cons x r ih => intro Q Q' hq a w hw h; exact T1h_mono hw (fun a w hS hh => ih Q Q' hq a w hS hh) h
  refine mono pre _ _ ?_ _ _ hw (h1 hw)
  rintro a w hk hS
  obtain ⟨g, hg, e, hk2⟩ := hk hS
  subst e
  exact hk2⟩
end Go.Vc
namespace Go.Vc
open Go Go.Pw Go.Sort
theorem flat1 {α β : Type} (f : α → β) (l : List α) : (l.flatMap fun x => [f x]) = l.map f := by
 induction l with
 | nil => rfl
 | cons x r ih => rw [List.flatMap_cons, ih]; rfl
section
end
end Go.Vc
namespace Go.Proofs.YtmjeacpoobbjjaaGreatDoor
open Go.RowKit Go.Pw Go.Vc Go.Cs Go.Lib
structure Sl where
 a : Option Addr
 n : Nat
 c : Nat
abbrev Sl.v (s : Sl) : Value := .slice s.a s.n s.c
structure Mr where
 m : Ml
 b : Sl
 f : Sl
instance : Inhabited Mr := ⟨⟨⟨0, ⟨0, 0, 0, 0, 0, 0, 0, 0, 0, 0, 0, 0, 0, 0, 0, 0, 0, 0, 0, 0, 0, 0, 0, 0, 0, 0, 0, 0, 0, 0, 0, 0⟩, [], [], 0, 0, 0⟩, ⟨none, 0, 0⟩, ⟨none, 0, 0⟩⟩⟩
def dgC (d : Dg) : List Value := [.int .u8 d.d0, .int .u8 d.d1, .int .u8 d.d2, .int .u8 d.d3, .int .u8 d.d4, .int .u8 d.d5, .int .u8 d.d6, .int .u8 d.d7, .int .u8 d.d8, .int .u8 d.d9, .int .u8 d.d10, .int .u8 d.d11, .int .u8 d.d12, .int .u8 d.d13, .int .u8 d.d14, .int .u8 d.d15, .int .u8 d.d16, .int .u8 d.d17, .int .u8 d.d18, .int .u8 d.d19, .int .u8 d.d20, .int .u8 d.d21, .int .u8 d.d22, .int .u8 d.d23, .int .u8 d.d24, .int .u8 d.d25, .int .u8 d.d26, .int .u8 d.d27, .int .u8 d.d28, .int .u8 d.d29, .int .u8 d.d30, .int .u8 d.d31]
def mrC (x : Mr) : List Value := .int .i64 x.m.id :: (dgC x.m.blob ++ [.slice x.b.a x.b.n x.b.c, .slice x.f.a x.f.n x.f.c, .int .i64 x.m.at_, .int .i64 x.m.size, .int .i64 x.m.mod])
def srcC (s : Sc) : List Value := [.string (str s.name), .string (str s.text)]
def snC (s : Sn) : List Value := [.string (str s.key), .int .i64 s.at_]
abbrev inC (z : Int) : List Value := [.int .i64 z]
abbrev txC (s : List UInt8) : List Value := [.string (str s)]
abbrev RowI (w : World) (v : Value) (l : List Int) : Prop := RowO w v inC l
abbrev RowT (w : World) (v : Value) (l : List (List UInt8)) : Prop := RowO w v txC l
abbrev RowS (w : World) (v : Value) (l : List Sc) : Prop := RowO w v srcC l
abbrev RowN (w : World) (v : Value) (l : List Sn) : Prop := RowO w v snC l
abbrev RowMr (w : World) (v : Value) (l : List Mr) : Prop := RowO w v mrC l
abbrev OwnI (w : World) (B : Nat) (v : Value) (l : List Int) : Prop := w.ownsRow B 3 1 v l.length (l.flatMap inC)
abbrev OwnT (w : World) (B : Nat) (v : Value) (l : List (List UInt8)) : Prop := w.ownsRow B 9 1 v l.length (l.flatMap txC)
abbrev own_ (v : Value) : Nat → Prop := fun k => v.ownBlock = some k
theorem textInfo : (Tryz.prog.info? 9).map (fun i => (i.zero, i.size, i.bytes)) = some (some (.string ⟨#[]⟩), 1, 16) := by kernel_rfl
theorem RowO.len {α : Type} {w : World} {a : Option Addr} {n c : Nat} {f : α → List Value} {l : List α} (h : RowO w (.slice a n c) f l) : n = l.length := by
 obtain ⟨_, _, e, _⟩ := h
 injection e
theorem zkC {α : Type} {w : World} {g o i : Nat} {l : List α} (f : α → Value) (h : At w g o (l.flatMap fun x => [f x])) (hi : i < l.length) : w.cell? ⟨g, o + i, none⟩ = some (f l[i]) := h i _ (by rw [flat1, List.getElem?_map, List.getElem?_eq_getElem hi]; rfl)
theorem zkH {w : World} {g o i : Nat} {l : List Int} (h : At w g o (l.flatMap inC)) (hi : i < l.length) : w.cell? ⟨g, o + i, none⟩ = some (.int .i64 l[i]) := zkC (Value.int .i64) h hi
theorem zlR {w : World} {g o i : Nat} {l : List (List UInt8)} (h : At w g o (l.flatMap txC)) (hi : i < l.length) : w.cell? ⟨g, o + i, none⟩ = some (.string (str l[i])) := zkC (fun s => Value.string (str s)) h hi
theorem infoI : (Tryz.prog.info? 3).map (fun i => (i.zero, i.size, i.bytes)) = some (some (.int .i64 0), 1, 8) := by kernel_rfl
theorem lenI (x : Int) : (inC x).length = 1 := rfl
theorem lenT (x : (List UInt8)) : (txC x).length = 1 := rfl
end Go.Proofs.YtmjeacpoobbjjaaGreatDoor
namespace Go.Proofs.YtmjeacpoobbjjaaGreatDoor
open Go.Shelf Go.RowKit Go.Pw Go.Vc Go.Cs Go.Lib Go.Sort
def ren137 : Go.Shelf.Ren := ⟨fun | 137 => 63 | 217 => 94 | 266 => 132 | n => n, fun | 3 => 3 | 5 => 5 | 9 => 9 | n => n, fun | n => n⟩
theorem lays137 : Go.Proofs.Lays.n137 Tryz.prog ren137 := {
 mixed := by kernel_rfl
 f137 := Tryz.func63.trans (congrArg some (by kernel_rfl))
 f217 := Tryz.func94.trans (congrArg some (by kernel_rfl))
 f266 := Tryz.func132.trans (congrArg some (by kernel_rfl))
 t3 := Tryz.underlying3
 a3 := Tryz.isAgg3
 z3 := Tryz.sizeOf3
 v3 := Tryz.zeroValue3
 t5 := Tryz.underlying5
 a5 := Tryz.isAgg5
 z5 := Tryz.sizeOf5
 v5 := Tryz.zeroValue5
 t9 := Tryz.underlying9
 a9 := Tryz.isAgg9
 z9 := Tryz.sizeOf9
 v9 := Tryz.zeroValue9 }
theorem zaG (s : ByteArray) (c : UInt8) (w : World) : Calls Tryz.prog 63 #[.string s, .int .u8 c.toNat] w fun e w' => e = .returned (.int .i64 (indexByte (L s) c)) ∧ w = w' :=
 (Any.strings_IndexByte lays137 s c.toNat w).mono fun e w' h => ⟨by rw [h.1]; simp [L], h.2.symm⟩
section
end
end Go.Proofs.YtmjeacpoobbjjaaGreatDoor
namespace Go.Proofs.YtmjeacpoobbjjaaGreatDoor
open Go.Shelf Go.RowKit Go.Pw Go.Vc Go.Cs Go.Lib
def ren100 : Go.Shelf.Ren := ⟨fun | 100 => 145 | 207 => 133 | n => n, fun | 3 => 3 | 4 => 4 | 5 => 5 | 9 => 9 | n => n, fun | n => n⟩
theorem lays100 : Go.Proofs.Lays.n100 Tryz.prog ren100 := {
 mixed := by kernel_rfl
 f100 := Tryz.func145.trans (congrArg some (by kernel_rfl))
 f207 := Tryz.func133.trans (congrArg some (by kernel_rfl))
 t3 := Tryz.underlying3
 a3 := Tryz.isAgg3
 z3 := Tryz.sizeOf3
 v3 := Tryz.zeroValue3
 t4 := Tryz.underlying4
 a4 := Tryz.isAgg4
 z4 := Tryz.sizeOf4
 v4 := Tryz.zeroValue4
 t9 := Tryz.underlying9
 a9 := Tryz.isAgg9
 z9 := Tryz.sizeOf9
 v9 := Tryz.zeroValue9 }
def ren101 : Go.Shelf.Ren := ⟨fun | 101 => 169 | 206 => 165 | 208 => 182 | n => n, fun | 3 => 3 | 4 => 4 | 5 => 5 | 9 => 9 | n => n, fun | n => n⟩
theorem lays101 : Go.Proofs.Lays.n101 Tryz.prog ren101 := {
 mixed := by kernel_rfl
 f101 := Tryz.func169.trans (congrArg some (by kernel_rfl))
 f206 := Tryz.func165.trans (congrArg some (by kernel_rfl))
 f208 := Tryz.func182.trans (congrArg some (by kernel_rfl))
 t3 := Tryz.underlying3
 a3 := Tryz.isAgg3
 z3 := Tryz.sizeOf3
 v3 := Tryz.zeroValue3
 t4 := Tryz.underlying4
 a4 := Tryz.isAgg4
 z4 := Tryz.sizeOf4
 v4 := Tryz.zeroValue4
 t9 := Tryz.underlying9
 a9 := Tryz.isAgg9
 z9 := Tryz.sizeOf9
 v9 := Tryz.zeroValue9 }
def ren102 : Go.Shelf.Ren := ⟨fun | 102 => 65 | 207 => 133 | 209 => 96 | n => n, fun | 3 => 3 | 4 => 4 | 5 => 5 | 9 => 9 | n => n, fun | n => n⟩
theorem lays102 : Go.Proofs.Lays.n102 Tryz.prog ren102 := {
 mixed := by kernel_rfl
 f102 := Tryz.func65.trans (congrArg some (by kernel_rfl))
 f207 := Tryz.func133.trans (congrArg some (by kernel_rfl))
 f209 := Tryz.func96.trans (congrArg some (by kernel_rfl))
 t3 := Tryz.underlying3
 a3 := Tryz.isAgg3
 z3 := Tryz.sizeOf3
 v3 := Tryz.zeroValue3
 t4 := Tryz.underlying4
 a4 := Tryz.isAgg4
 z4 := Tryz.sizeOf4
 v4 := Tryz.zeroValue4
 t9 := Tryz.underlying9
 a9 := Tryz.isAgg9
 z9 := Tryz.sizeOf9
 v9 := Tryz.zeroValue9 }
def ren103 : Go.Shelf.Ren := ⟨fun | 103 => 108 | 206 => 165 | 210 => 142 | n => n, fun | 3 => 3 | 4 => 4 | 5 => 5 | 9 => 9 | 24 => 48 | n => n, fun | n => n⟩
theorem lays103 : Go.Proofs.Lays.n103 Tryz.prog ren103 := {
 mixed := by kernel_rfl
 f103 := Tryz.func108.trans (congrArg some (by kernel_rfl))
 f206 := Tryz.func165.trans (congrArg some (by kernel_rfl))
 f210 := Tryz.func142.trans (congrArg some (by kernel_rfl))
 t3 := Tryz.underlying3
 a3 := Tryz.isAgg3
 z3 := Tryz.sizeOf3
 v3 := Tryz.zeroValue3
 t4 := Tryz.underlying4
 a4 := Tryz.isAgg4
 z4 := Tryz.sizeOf4
 v4 := Tryz.zeroValue4
 t9 := Tryz.underlying9
 a9 := Tryz.isAgg9
 z9 := Tryz.sizeOf9
 v9 := Tryz.zeroValue9
 t24 := Tryz.underlying48
 a24 := Tryz.isAgg48
 z24 := Tryz.sizeOf48
 v24 := Tryz.zeroValue48 }
def ren104 : Go.Shelf.Ren := ⟨fun | 104 => 64 | 207 => 133 | 211 => 95 | n => n, fun | 3 => 3 | 4 => 4 | 5 => 5 | 9 => 9 | 24 => 48 | n => n, fun | n => n⟩
theorem lays104 : Go.Proofs.Lays.n104 Tryz.prog ren104 := {
 mixed := by kernel_rfl
 f104 := Tryz.func64.trans (congrArg some (by kernel_rfl))
 f207 := Tryz.func133.trans (congrArg some (by kernel_rfl))
 f211 := Tryz.func95.trans (congrArg some (by kernel_rfl))
 t3 := Tryz.underlying3
 a3 := Tryz.isAgg3
 z3 := Tryz.sizeOf3
 v3 := Tryz.zeroValue3
 t4 := Tryz.underlying4
 a4 := Tryz.isAgg4
 z4 := Tryz.sizeOf4
 v4 := Tryz.zeroValue4
 t9 := Tryz.underlying9
 a9 := Tryz.isAgg9
 z9 := Tryz.sizeOf9
 v9 := Tryz.zeroValue9
 t24 := Tryz.underlying48
 a24 := Tryz.isAgg48
 z24 := Tryz.sizeOf48
 v24 := Tryz.zeroValue48 }
def ren144 : Go.Shelf.Ren := ⟨fun | 143 => 74 | 144 => 47 | 217 => 94 | 219 => 106 | 224 => 140 | 225 => 139 | 266 => 132 | 267 => 141 | 314 => 164 | n => n, fun | 3 => 3 | 4 => 4 | 5 => 5 | 9 => 9 | 46 => 154 | 51 => 165 | 146 => 166 | n => n, fun | 1 => 0 | n => n⟩
theorem lays144 : Go.Proofs.Lays.n144 Tryz.prog ren144 := {
 mixed := by kernel_rfl
 f143 := Tryz.func74.trans (congrArg some (by kernel_rfl))
 f144 := Tryz.func47.trans (congrArg some (by kernel_rfl))
 f217 := Tryz.func94.trans (congrArg some (by kernel_rfl))
 f219 := Tryz.func106.trans (congrArg some (by kernel_rfl))
 f224 := Tryz.func140.trans (congrArg some (by kernel_rfl))
 f225 := Tryz.func139.trans (congrArg some (by kernel_rfl))
 f266 := Tryz.func132.trans (congrArg some (by kernel_rfl))
 f267 := Tryz.func141.trans (congrArg some (by kernel_rfl))
 f314 := Tryz.func164.trans (congrArg some (by kernel_rfl))
 t3 := Tryz.underlying3
 a3 := Tryz.isAgg3
 z3 := Tryz.sizeOf3
 v3 := Tryz.zeroValue3
 t4 := Tryz.underlying4
 a4 := Tryz.isAgg4
 z4 := Tryz.sizeOf4
 v4 := Tryz.zeroValue4
 t5 := Tryz.underlying5
 a5 := Tryz.isAgg5
 z5 := Tryz.sizeOf5
 v5 := Tryz.zeroValue5
 t9 := Tryz.underlying9
 a9 := Tryz.isAgg9
 z9 := Tryz.sizeOf9
 v9 := Tryz.zeroValue9
 t46 := Tryz.underlying154
 a46 := Tryz.isAgg154
 z46 := Tryz.sizeOf154
 v46 := Tryz.zeroValue154
 t51 := Tryz.underlying165
 a51 := Tryz.isAgg165
 z51 := Tryz.sizeOf165
 v51 := Tryz.zeroValue165
 t146 := Tryz.underlying166
 a146 := Tryz.isAgg166
 z146 := Tryz.sizeOf166
 v146 := Tryz.zeroValue166
 g1 := by kernel_rfl }
def ren145 : Go.Shelf.Ren := ⟨fun | 145 => 66 | 217 => 94 | 219 => 106 | 220 => 97 | 224 => 140 | 225 => 139 | 266 => 132 | 267 => 141 | 314 => 164 | n => n, fun | 3 => 3 | 4 => 4 | 5 => 5 | 9 => 9 | 46 => 154 | 51 => 165 | 59 => 91 | 146 => 166 | n => n, fun | 1 => 0 | n => n⟩
theorem lays145 : Go.Proofs.Lays.n145 Tryz.prog ren145 := {
 mixed := by kernel_rfl
 f145 := Tryz.func66.trans (congrArg some (by kernel_rfl))
 f217 := Tryz.func94.trans (congrArg some (by kernel_rfl))
 f219 := Tryz.func106.trans (congrArg some (by kernel_rfl))
 f220 := Tryz.func97.trans (congrArg some (by kernel_rfl))
 f224 := Tryz.func140.trans (congrArg some (by kernel_rfl))
 f225 := Tryz.func139.trans (congrArg some (by kernel_rfl))
 f266 := Tryz.func132.trans (congrArg some (by kernel_rfl))
 f267 := Tryz.func141.trans (congrArg some (by kernel_rfl))
 f314 := Tryz.func164.trans (congrArg some (by kernel_rfl))
 t3 := Tryz.underlying3
 a3 := Tryz.isAgg3
 z3 := Tryz.sizeOf3
 v3 := Tryz.zeroValue3
 t4 := Tryz.underlying4
 a4 := Tryz.isAgg4
 z4 := Tryz.sizeOf4
 v4 := Tryz.zeroValue4
 t5 := Tryz.underlying5
 a5 := Tryz.isAgg5
 z5 := Tryz.sizeOf5
 v5 := Tryz.zeroValue5
 t9 := Tryz.underlying9
 a9 := Tryz.isAgg9
 z9 := Tryz.sizeOf9
 v9 := Tryz.zeroValue9
 t46 := Tryz.underlying154
 a46 := Tryz.isAgg154
 z46 := Tryz.sizeOf154
 v46 := Tryz.zeroValue154
 t51 := Tryz.underlying165
 a51 := Tryz.isAgg165
 z51 := Tryz.sizeOf165
 v51 := Tryz.zeroValue165
 t59 := Tryz.underlying91
 a59 := Tryz.isAgg91
 z59 := Tryz.sizeOf91
 v59 := Tryz.zeroValue91
 t146 := Tryz.underlying166
 a146 := Tryz.isAgg166
 z146 := Tryz.sizeOf166
 v146 := Tryz.zeroValue166
 g1 := by kernel_rfl }
def ren149 : Go.Shelf.Ren := ⟨fun | 149 => 146 | 222 => 168 | n => n, fun | 3 => 3 | 4 => 4 | 5 => 5 | 9 => 9 | n => n, fun | n => n⟩
theorem lays149 : Go.Proofs.Lays.n149 Tryz.prog ren149 := {
 mixed := by kernel_rfl
 f149 := Tryz.func146.trans (congrArg some (by kernel_rfl))
 f222 := Tryz.func168.trans (congrArg some (by kernel_rfl))
 t3 := Tryz.underlying3
 a3 := Tryz.isAgg3
 z3 := Tryz.sizeOf3
 v3 := Tryz.zeroValue3
 t4 := Tryz.underlying4
 a4 := Tryz.isAgg4
 z4 := Tryz.sizeOf4
 v4 := Tryz.zeroValue4
 t5 := Tryz.underlying5
 a5 := Tryz.isAgg5
 z5 := Tryz.sizeOf5
 v5 := Tryz.zeroValue5
 t9 := Tryz.underlying9
 a9 := Tryz.isAgg9
 z9 := Tryz.sizeOf9
 v9 := Tryz.zeroValue9 }
def ren155 : Go.Shelf.Ren := ⟨fun | 138 => 162 | 143 => 74 | 154 => 138 | 155 => 105 | 165 => 163 | 166 => 109 | 169 => 110 | 195 => 179 | 197 => 137 | 217 => 94 | 218 => 180 | 219 => 106 | 224 => 140 | 225 => 139 | 240 => 143 | 241 => 181 | 260 => 161 | 266 => 132 | 267 => 141 | 276 => 166 | 277 => 197 | 314 => 164 | n => n, fun | 0 => 0 | 3 => 3 | 4 => 4 | 5 => 5 | 9 => 9 | 20 => 20 | 21 => 21 | 37 => 107 | 46 => 154 | 51 => 165 | 70 => 120 | 72 => 122 | 75 => 124 | 76 => 125 | 80 => 127 | 105 => 149 | 119 => 173 | 127 => 155 | 138 => 175 | 139 => 176 | 146 => 166 | 164 => 168 | n => n, fun | 1 => 0 | 3 => 1 | 4 => 2 | n => n⟩
theorem lays155 : Go.Proofs.Lays.n155 Tryz.prog ren155 := {
 mixed := by kernel_rfl
 f138 := Tryz.func162.trans (congrArg some (by kernel_rfl))
 f143 := Tryz.func74.trans (congrArg some (by kernel_rfl))
 f154 := Tryz.func138.trans (congrArg some (by kernel_rfl))
 f155 := Tryz.func105.trans (congrArg some (by kernel_rfl))
 f165 := Tryz.func163.trans (congrArg some (by kernel_rfl))
 f166 := Tryz.func109.trans (congrArg some (by kernel_rfl))
 f169 := Tryz.func110.trans (congrArg some (by kernel_rfl))
 f195 := Tryz.func179.trans (congrArg some (by kernel_rfl))
 f197 := Tryz.func137.trans (congrArg some (by kernel_rfl))
 f217 := Tryz.func94.trans (congrArg some (by kernel_rfl))
 f218 := Tryz.func180.trans (congrArg some (by kernel_rfl))
 f219 := Tryz.func106.trans (congrArg some (by kernel_rfl))
 f224 := Tryz.func140.trans (congrArg some (by kernel_rfl))
 f225 := Tryz.func139.trans (congrArg some (by kernel_rfl))
 f240 := Tryz.func143.trans (congrArg some (by kernel_rfl))
 f241 := Tryz.func181.trans (congrArg some (by kernel_rfl))
 f260 := Tryz.func161.trans (congrArg some (by kernel_rfl))
 f266 := Tryz.func132.trans (congrArg some (by kernel_rfl))
 f267 := Tryz.func141.trans (congrArg some (by kernel_rfl))
 f276 := Tryz.func166.trans (congrArg some (by kernel_rfl))
 f277 := Tryz.func197.trans (congrArg some (by kernel_rfl))
 f314 := Tryz.func164.trans (congrArg some (by kernel_rfl))
 t0 := Tryz.underlying0
 a0 := Tryz.isAgg0
 z0 := Tryz.sizeOf0
 v0 := Tryz.zeroValue0
 t3 := Tryz.underlying3
 a3 := Tryz.isAgg3
 z3 := Tryz.sizeOf3
 v3 := Tryz.zeroValue3
 t4 := Tryz.underlying4
 a4 := Tryz.isAgg4
 z4 := Tryz.sizeOf4
 v4 := Tryz.zeroValue4
 t5 := Tryz.underlying5
 a5 := Tryz.isAgg5
 z5 := Tryz.sizeOf5
 v5 := Tryz.zeroValue5
 t9 := Tryz.underlying9
 a9 := Tryz.isAgg9
 z9 := Tryz.sizeOf9
 v9 := Tryz.zeroValue9
 t20 := Tryz.underlying20
 a20 := Tryz.isAgg20
 z20 := Tryz.sizeOf20
 v20 := Tryz.zeroValue20
 t21 := Tryz.underlying21
 a21 := Tryz.isAgg21
 z21 := Tryz.sizeOf21
 v21 := Tryz.zeroValue21
 t37 := Tryz.underlying107
 a37 := Tryz.isAgg107
 z37 := Tryz.sizeOf107
 v37 := Tryz.zeroValue107
 t46 := Tryz.underlying154
 a46 := Tryz.isAgg154
 z46 := Tryz.sizeOf154
 v46 := Tryz.zeroValue154
 t51 := Tryz.underlying165
 a51 := Tryz.isAgg165
 z51 := Tryz.sizeOf165
 v51 := Tryz.zeroValue165
 t70 := Tryz.underlying120
 a70 := Tryz.isAgg120
 z70 := Tryz.sizeOf120
 v70 := Tryz.zeroValue120
 t72 := Tryz.underlying122
 a72 := Tryz.isAgg122
 z72 := Tryz.sizeOf122
 v72 := Tryz.zeroValue122
 t75 := Tryz.underlying124
 a75 := Tryz.isAgg124
 z75 := Tryz.sizeOf124
 v75 := Tryz.zeroValue124
 t76 := Tryz.underlying125
 a76 := Tryz.isAgg125
 z76 := Tryz.sizeOf125
 v76 := Tryz.zeroValue125
 t105 := Tryz.underlying149
 a105 := Tryz.isAgg149
 z105 := Tryz.sizeOf149
 v105 := Tryz.zeroValue149
 t119 := Tryz.underlying173
 a119 := Tryz.isAgg173
 z119 := Tryz.sizeOf173
 t127 := Tryz.underlying155
 a127 := Tryz.isAgg155
 z127 := Tryz.sizeOf155
 v127 := Tryz.zeroValue155
 t138 := Tryz.underlying175
 a138 := Tryz.isAgg175
 z138 := Tryz.sizeOf175
 v138 := Tryz.zeroValue175
 t139 := Tryz.underlying176
 a139 := Tryz.isAgg176
 z139 := Tryz.sizeOf176
 v139 := Tryz.zeroValue176
 t146 := Tryz.underlying166
 a146 := Tryz.isAgg166
 z146 := Tryz.sizeOf166
 v146 := Tryz.zeroValue166
 t164 := Tryz.underlying168
 a164 := Tryz.isAgg168
 z164 := Tryz.sizeOf168
 v164 := Tryz.zeroValue168
 g1 := by kernel_rfl
 g3 := by kernel_rfl
 g4 := by kernel_rfl }
def ren160 : Go.Shelf.Ren := ⟨fun | 119 => 178 | 120 => 159 | 137 => 63 | 151 => 136 | 152 => 160 | 160 => 71 | 197 => 137 | 217 => 94 | 224 => 140 | 225 => 139 | 227 => 99 | 228 => 134 | 231 => 102 | 232 => 98 | 233 => 103 | 234 => 100 | 235 => 104 | 236 => 101 | 260 => 161 | 266 => 132 | 271 => 135 | n => n, fun | 0 => 0 | 3 => 3 | 4 => 4 | 5 => 5 | 9 => 9 | 21 => 21 | 46 => 154 | 105 => 149 | 116 => 113 | 117 => 114 | 119 => 173 | 124 => 117 | 138 => 175 | 139 => 176 | n => n, fun | 3 => 1 | 4 => 2 | n => n⟩
theorem lays160 : Go.Proofs.Lays.n160 Tryz.prog ren160 := {
 mixed := by kernel_rfl
 f119 := Tryz.func178.trans (congrArg some (by kernel_rfl))
 f120 := Tryz.func159.trans (congrArg some (by kernel_rfl))
 f137 := Tryz.func63.trans (congrArg some (by kernel_rfl))
 f151 := Tryz.func136.trans (congrArg some (by kernel_rfl))
 f152 := Tryz.func160.trans (congrArg some (by kernel_rfl))
 f160 := Tryz.func71.trans (congrArg some (by kernel_rfl))
 f197 := Tryz.func137.trans (congrArg some (by kernel_rfl))
 f217 := Tryz.func94.trans (congrArg some (by kernel_rfl))
 f224 := Tryz.func140.trans (congrArg some (by kernel_rfl))
 f225 := Tryz.func139.trans (congrArg some (by kernel_rfl))
 f227 := Tryz.func99.trans (congrArg some (by kernel_rfl))
 f228 := Tryz.func134.trans (congrArg some (by kernel_rfl))
 f231 := Tryz.func102.trans (congrArg some (by kernel_rfl))
 f232 := Tryz.func98.trans (congrArg some (by kernel_rfl))
 f233 := Tryz.func103.trans (congrArg some (by kernel_rfl))
 f234 := Tryz.func100.trans (congrArg some (by kernel_rfl))
 f235 := Tryz.func104.trans (congrArg some (by kernel_rfl))
 f236 := Tryz.func101.trans (congrArg some (by kernel_rfl))
 f260 := Tryz.func161.trans (congrArg some (by kernel_rfl))
 f266 := Tryz.func132.trans (congrArg some (by kernel_rfl))
 f271 := Tryz.func135.trans (congrArg some (by kernel_rfl))
 t0 := Tryz.underlying0
 a0 := Tryz.isAgg0
 z0 := Tryz.sizeOf0
 v0 := Tryz.zeroValue0
 t3 := Tryz.underlying3
 a3 := Tryz.isAgg3
 z3 := Tryz.sizeOf3
 v3 := Tryz.zeroValue3
 t4 := Tryz.underlying4
 a4 := Tryz.isAgg4
 z4 := Tryz.sizeOf4
 v4 := Tryz.zeroValue4
 t5 := Tryz.underlying5
 a5 := Tryz.isAgg5
 z5 := Tryz.sizeOf5
 v5 := Tryz.zeroValue5
 t9 := Tryz.underlying9
 a9 := Tryz.isAgg9
 z9 := Tryz.sizeOf9
 v9 := Tryz.zeroValue9
 t21 := Tryz.underlying21
 a21 := Tryz.isAgg21
 z21 := Tryz.sizeOf21
 v21 := Tryz.zeroValue21
 t46 := Tryz.underlying154
 a46 := Tryz.isAgg154
 z46 := Tryz.sizeOf154
 v46 := Tryz.zeroValue154
 t105 := Tryz.underlying149
 a105 := Tryz.isAgg149
 z105 := Tryz.sizeOf149
 v105 := Tryz.zeroValue149
 t116 := Tryz.underlying113
 a116 := Tryz.isAgg113
 z116 := Tryz.sizeOf113
 t117 := Tryz.underlying114
 a117 := Tryz.isAgg114
 z117 := Tryz.sizeOf114
 v117 := Tryz.zeroValue114
 t119 := Tryz.underlying173
 a119 := Tryz.isAgg173
 z119 := Tryz.sizeOf173
 t124 := Tryz.underlying117
 a124 := Tryz.isAgg117
 z124 := Tryz.sizeOf117
 v124 := Tryz.zeroValue117
 t138 := Tryz.underlying175
 a138 := Tryz.isAgg175
 z138 := Tryz.sizeOf175
 v138 := Tryz.zeroValue175
 t139 := Tryz.underlying176
 a139 := Tryz.isAgg176
 z139 := Tryz.sizeOf176
 v139 := Tryz.zeroValue176
 g3 := by kernel_rfl
 g4 := by kernel_rfl }
def ren162 : Go.Shelf.Ren := ⟨fun | 119 => 178 | 120 => 159 | 137 => 63 | 151 => 136 | 152 => 160 | 162 => 67 | 197 => 137 | 217 => 94 | 224 => 140 | 225 => 139 | 227 => 99 | 228 => 134 | 232 => 98 | 234 => 100 | 236 => 101 | 260 => 161 | 266 => 132 | 271 => 135 | n => n, fun | 0 => 0 | 3 => 3 | 4 => 4 | 5 => 5 | 9 => 9 | 21 => 21 | 46 => 154 | 105 => 149 | 116 => 113 | 117 => 114 | 119 => 173 | 124 => 117 | 138 => 175 | 139 => 176 | n => n, fun | 3 => 1 | 4 => 2 | n => n⟩
theorem lays162 : Go.Proofs.Lays.n162 Tryz.prog ren162 := {
 mixed := by kernel_rfl
 f119 := Tryz.func178.trans (congrArg some (by kernel_rfl))
 f120 := Tryz.func159.trans (congrArg some (by kernel_rfl))
 f137 := Tryz.func63.trans (congrArg some (by kernel_rfl))
 f151 := Tryz.func136.trans (congrArg some (by kernel_rfl))
 f152 := Tryz.func160.trans (congrArg some (by kernel_rfl))
 f162 := Tryz.func67.trans (congrArg some (by kernel_rfl))
 f197 := Tryz.func137.trans (congrArg some (by kernel_rfl))
 f217 := Tryz.func94.trans (congrArg some (by kernel_rfl))
 f224 := Tryz.func140.trans (congrArg some (by kernel_rfl))
 f225 := Tryz.func139.trans (congrArg some (by kernel_rfl))
 f227 := Tryz.func99.trans (congrArg some (by kernel_rfl))
 f228 := Tryz.func134.trans (congrArg some (by kernel_rfl))
 f232 := Tryz.func98.trans (congrArg some (by kernel_rfl))
 f234 := Tryz.func100.trans (congrArg some (by kernel_rfl))
 f236 := Tryz.func101.trans (congrArg some (by kernel_rfl))
 f260 := Tryz.func161.trans (congrArg some (by kernel_rfl))
 f266 := Tryz.func132.trans (congrArg some (by kernel_rfl))
 f271 := Tryz.func135.trans (congrArg some (by kernel_rfl))
 t0 := Tryz.underlying0
 a0 := Tryz.isAgg0
 z0 := Tryz.sizeOf0
 v0 := Tryz.zeroValue0
 t3 := Tryz.underlying3
 a3 := Tryz.isAgg3
 z3 := Tryz.sizeOf3
 v3 := Tryz.zeroValue3
 t4 := Tryz.underlying4
 a4 := Tryz.isAgg4
 z4 := Tryz.sizeOf4
 v4 := Tryz.zeroValue4
 t5 := Tryz.underlying5
 a5 := Tryz.isAgg5
 z5 := Tryz.sizeOf5
 v5 := Tryz.zeroValue5
 t9 := Tryz.underlying9
 a9 := Tryz.isAgg9
 z9 := Tryz.sizeOf9
 v9 := Tryz.zeroValue9
 t21 := Tryz.underlying21
 a21 := Tryz.isAgg21
 z21 := Tryz.sizeOf21
 v21 := Tryz.zeroValue21
 t46 := Tryz.underlying154
 a46 := Tryz.isAgg154
 z46 := Tryz.sizeOf154
 v46 := Tryz.zeroValue154
 t105 := Tryz.underlying149
 a105 := Tryz.isAgg149
 z105 := Tryz.sizeOf149
 v105 := Tryz.zeroValue149
 t116 := Tryz.underlying113
 a116 := Tryz.isAgg113
 z116 := Tryz.sizeOf113
 t117 := Tryz.underlying114
 a117 := Tryz.isAgg114
 z117 := Tryz.sizeOf114
 v117 := Tryz.zeroValue114
 t119 := Tryz.underlying173
 a119 := Tryz.isAgg173
 z119 := Tryz.sizeOf173
 t124 := Tryz.underlying117
 a124 := Tryz.isAgg117
 z124 := Tryz.sizeOf117
 v124 := Tryz.zeroValue117
 t138 := Tryz.underlying175
 a138 := Tryz.isAgg175
 z138 := Tryz.sizeOf175
 v138 := Tryz.zeroValue175
 t139 := Tryz.underlying176
 a139 := Tryz.isAgg176
 z139 := Tryz.sizeOf176
 v139 := Tryz.zeroValue176
 g3 := by kernel_rfl
 g4 := by kernel_rfl }
theorem ext155 : Builder.Extra Tryz.prog ren155 := {
 sizeBuilder := by kernel_rfl
 liesBuilder := by kernel_rfl
 t5 := Tryz.underlying5
 a5 := Tryz.isAgg5
 z5 := Tryz.sizeOf5
 v5 := Tryz.zeroValue5
 infoByte := by kernel_rfl
 cellsByte := by kernel_rfl
 sizeByte := by kernel_rfl
 neB5 := by decide }
def MaxL (w : World) : Prop := ∃ m, w.cell? ⟨0, 0, none⟩ = some (.int .i64 m)
theorem MaxL.keep {w w' : World} (h : MaxL w) (k : Kp w w' n_) : MaxL w' := by
 obtain ⟨m, h⟩ := h
 exact ⟨m, zaE h k⟩
section
variable {w : World}
theorem zgs (s p : ByteArray) (w : World) (hs : s.size ≤ 9223372036854775807) : Calls Tryz.prog 145 #[.string s, .string p] w fun e w' => e = .returned (.bool (hasSuffix (L s) (L p))) ∧ w = w' :=
 (Any.strings_HasSuffix lays100 s p w hs).mono fun e w' h => ⟨h.1, h.2.symm⟩
theorem zfq (s p : ByteArray) (w : World) : Calls Tryz.prog 169 #[.string s, .string p] w fun e w' => e = .returned (.string (str (trimPrefix (L s) (L p)))) ∧ w = w' :=
 (Any.strings_TrimPrefix lays101 s p w).mono fun e w' h => ⟨h.1, h.2.symm⟩
theorem zcK (s p : ByteArray) (w : World) (hs : s.size ≤ 9223372036854775807) : Calls Tryz.prog 65 #[.string s, .string p] w fun e w' => e = .returned (.string (str (trimSuffix (L s) (L p)))) ∧ w = w' :=
 (Any.strings_TrimSuffix lays102 s p w hs).mono fun e w' h => ⟨h.1, h.2.symm⟩
theorem zdl (s p : ByteArray) (w : World) : Calls Tryz.prog 108 #[.string s, .string p] w fun e w' => e = .returned (.tuple #[.string (str (trimPrefix (L s) (L p))), .bool (hasPrefix (L s) (L p))]) ∧ w = w' :=
 (Any.strings_CutPrefix lays103 s p w).mono fun e w' h => ⟨h.1, h.2.symm⟩
theorem zda (s p : ByteArray) (w : World) (hs : s.size ≤ 9223372036854775807) : Calls Tryz.prog 64 #[.string s, .string p] w fun e w' => e = .returned (.tuple #[.string (str (trimSuffix (L s) (L p))), .bool (hasSuffix (L s) (L p))]) ∧ w = w' :=
 (Any.strings_CutSuffix lays104 s p w hs).mono fun e w' h => ⟨h.1, h.2.symm⟩
theorem zge (w : World) : ∀ n, Kp w (w.drewN n) n_ := fun n => (Kp.refl w n_).drewN n
theorem s_cut (s p : ByteArray) (w : World) (hm : MaxL w) (hs : s.size < 4294967281) : Calls Tryz.prog 66 #[.string s, .string p] w fun e w' => e = .returned (.tuple #[.string (str (Lib.cut (L s) (L p)).1), .string (str (Lib.cut (L s) (L p)).2.1), .bool (Lib.cut (L s) (L p)).2.2]) ∧ Kp w w' n_ := by
 obtain ⟨m, hm⟩ := hm
 refine (Any.strings_Cut lays145 s p m w hs hm).mono fun e w' h => ⟨h.1, ?_⟩
 obtain ⟨n, rfl⟩ := h.2
 exact zge w n
theorem zhB (s p : ByteArray) (w : World) (hm : MaxL w) (hs : s.size < 4294967281) : Calls Tryz.prog 47 #[.string s, .string p] w fun e w' => e = .returned (.bool (Lib.contains (L s) (L p))) ∧ w = w' := by
 obtain ⟨m, hm⟩ := hm
 exact (Any.strings_Contains lays144 s p m w hs hm).mono fun e w' h => ⟨h.1, h.2.symm⟩
theorem zaZ (s : ByteArray) (c : UInt8) (w : World) (hs : s.size < 4611686018427387904) : Calls Tryz.prog 146 #[.string s, .int .u8 c.toNat] w fun e w' => e = .returned (.int .i64 (Lib.lastIndexByte s c.toNat)) ∧ w = w' :=
 (Any.strings_LastIndexByte lays149 s c.toNat hs w).mono fun e w' h => ⟨h.1, h.2.symm⟩
theorem ziv (s : ByteArray) (w : World) (hs : s.size ≤ 9223372036854775807) : Calls Tryz.prog 71 #[.string s, .string ⟨#[32, 9]⟩] w fun e w' => e = .returned (.string (str (Lib.trimS (L s) [32, 9]))) ∧ Kp w w' n_ :=
 (Any.strings_Trim_laid lays160 (by kernel_rfl) s ⟨#[32, 9]⟩ w hs (by decide) (fun j b h => by
  have : b ∈ ([32, 9] : List UInt8) := List.mem_of_getElem? h
  simp at this; rcases this with rfl | rfl <;> decide)).mono fun e w' h => ⟨h.1, Kp.of_below h.2⟩
theorem zgz (s : ByteArray) (w : World) (hs : s.size ≤ 9223372036854775807) : Calls Tryz.prog 67 #[.string s, .string ⟨#[32, 9]⟩] w fun e w' => e = .returned (.string (str (Lib.trimRightS (L s) [32, 9]))) ∧ Kp w w' n_ :=
 (Any.strings_TrimRight_laid lays162 (by kernel_rfl) s ⟨#[32, 9]⟩ w hs (by decide) (fun j b h => by
  have : b ∈ ([32, 9] : List UInt8) := List.mem_of_getElem? h
  simp at this; rcases this with rfl | rfl <;> decide)).mono fun e w' h => ⟨h.1, Kp.of_below h.2⟩
theorem zcI (s p : ByteArray) (w : World) (hm : MaxL w) (hs : s.size < 4294967281) (hp : 1 ≤ p.size) : Calls Tryz.prog 105 #[.string s, .string p, .string ⟨#[]⟩] w fun e w' => e = .returned (.string (str (Lib.replaceAll (L s) (L p) []))) ∧ Kp w w' n_ := by
 obtain ⟨m, hm⟩ := hm
 exact (Any.strings_ReplaceAll lays155 ext155 s p ⟨#[]⟩ m w hs hm hp (by show s.size + Lib.countB s p * 0 ≤ _; omega)).mono fun e w' h => ⟨h.1, Kp.of_below h.2⟩
end
end Go.Proofs.YtmjeacpoobbjjaaGreatDoor
