/- Helper lemmas that the proved statement rests on; no conditions of their own. -/
import Derived.Sort.Grow
import Derived.Sort.EncStr
import Derived.Shelf.Small.Strs
import Derived.Shelf.Sort.Plain
import Derived.Shelf.Slices.CompactI
import Derived.Shelf.Slices.CompactS
import Derived.Shelf.Slices.In.SortNone
import Derived.Test.YtennokckmjcefaaGreatDoorGCt9
set_option linter.unusedVariables false
set_option maxHeartbeats 2000000
set_option maxRecDepth 100000
namespace Go.Pw
open Go
set_option linter.unusedSectionVars false
section
variable {P : Program} {ops : Array Oper} {S : World → Prop} {hs : Option Tmp → Bool}
structure TailOk (P : Program) (ops : Array Oper) (m : Array Nat) (k : Nat) : Prop where
 last : ∀ (i : Nat) (o : Oper), ops[i]? = some o → k ≤ i → kindOf P o = .pure ∨ ∀ j, j < k → (m.getD i 0).testBit j = true
 comm : ∀ (i : Nat) (o : Oper), ops[i]? = some o → ∀ (j : Nat) (p : Oper), ops[j]? = some p → k ≤ j → j < i → (m.getD i 0).testBit j = false → commB P ops p o = true
def tailB (P : Program) (ops : Array Oper) (k : Nat) : Bool :=
  let m := Region.before ops
  (List.range ops.size).all fun i => Nat.blt i k ||
    ((kindOf P (ops.getD i default) == .pure || (List.range k).all fun j => (m.getD i 0).testBit j) &&
     (List.range i).all fun j => Nat.blt j k || (m.getD i 0).testBit j || commB P ops (ops.getD j default) (ops.getD i default))
theorem zls {k : Nat} (h : tailB P ops k = true) : TailOk P ops (Region.before ops) k := by
 unfold tailB at h
 simp only [List.all_eq_true, List.mem_range, Bool.and_eq_true, Bool.or_eq_true, Nat.blt_eq, beq_iff_eq] at h
 have lt : ∀ (i : Nat) (o : Oper), ops[i]? = some o → i < ops.size ∧ ops.getD i default = o := fun i o ho => by
  obtain ⟨hi, he⟩ := Array.getElem?_eq_some_iff.1 ho
  exact ⟨hi, by simp [hi, he]⟩
 refine ⟨fun i o ho hk => ?_, fun i o ho j p hp hk hj hm => ?_⟩
 ·obtain ⟨hi, he⟩ := lt i o ho
  rcases h i hi with h | h
  ·omega
  ·rw [he] at h
   exact h.1
 ·obtain ⟨hi, he⟩ := lt i o ho
  obtain ⟨_, hp'⟩ := lt j p hp
  rcases h i hi with h | h
  ·omega
  ·rcases h.2 j hj with (h | h) | h
   ·omega
   ·rw [hm] at h; cases h
   ·rw [he, hp'] at h; exact h
theorem bubbleT {Q : Act → World → Prop} {m : Array Nat} {k : Nat} (ok : TextOkH P hs ops m) (tk : TailOk P ops m k) {i : Nat} {o : Oper} (ho : ops[i]? = some o) : ∀ (pre post : List Nat),
  (∀ j ∈ pre, k ≤ j ∧ j < i ∧ (m.getD i 0).testBit j = false) → ∀ (a : Act) (w : World), wpI P ops Q (pre ++ i :: post) a w → TI P ops i (wpI P ops Q (pre ++ post)) a w
 | [], post, _, a, w, h => h
 | j :: pre, post, hp, a, w, h => by
  have ih := bubbleT (Q := Q) ok tk ho pre post (fun k hk => hp k (List.mem_cons_of_mem _ hk))
  have h' : TI P ops j (TI P ops i (wpI P ops Q (pre ++ post))) a w := TI_mono (fun a w => ih a w) h
  show TI P ops i (TI P ops j (wpI P ops Q (pre ++ post))) a w
  obtain ⟨hjk, hj, hm⟩ := hp j List.mem_cons_self
  unfold TI at h' ⊢
  simp only [ho] at h' ⊢
  cases hpj : ops[j]? with
  | none => simp only [hpj] at h' ⊢; exact h'
  | some p =>
   simp only [hpj] at h' ⊢
   exact swap (ok.sel j p hpj) (ok.sel i o ho) (tk.comm i o ho j p hpj hjk hj hm) h'
theorem zev {Q : Act → World → Prop} (i : Nat) : ∀ (L : List Nat), wpIh P S hs ops (TIh P S hs ops i Q) L = wpIh P S hs ops Q (L ++ [i])
 | [] => rfl
 | j :: L => by
  show TIh P S hs ops j _ = TIh P S hs ops j (wpIh P S hs ops Q (L ++ [i]))
  rw [zev i L]
theorem zdN {Q Q' : Act → World → Prop} : ∀ (L : List Nat) {a : Act} {w : World}, S w → (∀ a w, S w → Q a w → Q' a w) → wpIh P S hs ops Q L a w → wpIh P S hs ops Q' L a w
 | [], a, w, hw, hq, h => hq a w hw h
 | j :: L, a, w, hw, hq, h => TIh_mono hw (fun a w hS h => zdN L hS hq h) h
theorem TIh_of_pure {i : Nat} {o : Oper} (ho : ops[i]? = some o) (hk : kindOf P o = .pure) {R : Act → World → Prop} {a : Act} {w : World} (hw : S w) (h : TI P ops i R a w) : TIh P S hs ops i (fun a w => S w → R a w) a w := by
 unfold TI at h
 unfold TIh
 simp only [ho] at h ⊢
 unfold T1 at h
 unfold T1h
 split
 ·rename_i hwt
  rw [if_pos hwt] at h
  obtain ⟨h1, h2⟩ := h
  refine ⟨fun _ => (zdQ hk).2 (h1 hk), ?_⟩
  exact Oper.wpN_mono (fun a w hh => ⟨hh.1, fun _ => hh.2⟩) (Go.Vc.calm_wp hw hk (h1 hk) h2)
 ·rename_i hwt
  rw [if_neg hwt] at h
  exact fun _ => h
def HoldsT (P : Program) (S : World → Prop) (hs : Option Tmp → Bool) (ops : Array Oper) (Q : Act → World → Prop) : List Nat → List Nat → Act → World → Prop
 | [], LB, a, w => wpI P ops Q LB a w
 | x :: LA, LB, a, w => S w ∧ wpIh P S hs ops (fun a w => S w → wpI P ops Q LB a w) (x :: LA) a w
theorem HoldsT.of {Q : Act → World → Prop} {LA LB : List Nat} {a : Act} {w : World} (h : S w ∧ wpIh P S hs ops (fun a w => S w → wpI P ops Q LB a w) LA a w) : HoldsT P S hs ops Q LA LB a w := by
 cases LA with
 | nil => exact h.2 h.1
 | cons x LA => exact h
theorem anyOrderT {Q : Exit → Act → World → Prop} {m : Array Nat} {k : Nat} (ok : TextOkH P hs ops m) (tk : TailOk P ops m k) : ∀ (fuel : Nat) (LA LB : List Nat) (listed : Array Bool) (a : Act) (w : World),
  (LA ++ LB).length = fuel → listed.size = ops.size → Closed ops listed → (LA ++ LB).Pairwise (· < ·) → (∀ j ∈ LA, j < k) → (∀ j ∈ LB, k ≤ j) → (∀ j, j ∈ LA ++ LB ↔ j < ops.size ∧ listed.getD j false = false) →
  HoldsT P S hs ops (Q .normal) LA LB a w → wpAnyX P .any ops (Q .normal) fuel listed a w := by
 intro fuel
 induction fuel with
 | zero =>
  intro LA LB listed a w hlen hsz hcl hpw hA hB hmem h
  obtain ⟨rfl, rfl⟩ := List.append_eq_nil_iff.1 (List.eq_nil_of_length_eq_zero hlen)
  refine ⟨?_, h⟩
  refine List.eq_nil_iff_forall_not_mem.2 fun i hi => ?_
  obtain ⟨h0, o, ho, _⟩ := mem_ready.1 hi
  have hlt : i < ops.size := (Array.getElem?_eq_some_iff.1 ho).1
  have h0' : listed.getD i false = false := by
   have : i < listed.size := by omega
   simp [this] at h0 ⊢; exact h0
  have := (hmem i).2 ⟨hlt, h0'⟩
  cases this
 | succ fuel ih =>
  intro LA LB listed a w hlen hsz hcl hpw hA hB hmem h
  refine ⟨fun hr => ?_, fun i hi => ?_⟩
  ·cases hL : LA ++ LB with
   | nil => rw [hL] at hlen; cases hlen
   | cons i L =>
    exfalso
    rw [hL] at hpw
    obtain ⟨hlt, h0⟩ := (hmem i).1 (by rw [hL]; exact List.mem_cons_self)
    have hrdy : i ∈ Region.ready .any ops listed := by
     refine mem_ready.2 ⟨?_, ops[i], Array.getElem?_eq_getElem hlt, fun e he hb => ?_⟩
     ·have : i < listed.size := by omega
      simp [this] at h0 ⊢; exact h0
     ·have hlt' := ok.back i _ (Array.getElem?_eq_getElem hlt) e he hb
      cases hl : listed.getD e.on false with
      | true => rfl
      | false =>
       have hin := (hmem e.on).2 ⟨by omega, hl⟩
       rw [hL] at hin
       rcases List.mem_cons.1 hin with heq | hin
       ·omega
       ·have := (List.pairwise_cons.1 hpw).1 _ hin; omega
    rw [hr] at hrdy; cases hrdy
  ·obtain ⟨h0, o, ho, hdeps⟩ := mem_ready.1 hi
   have hlt : i < ops.size := (Array.getElem?_eq_some_iff.1 ho).1
   have hil : i < listed.size := by omega
   have h0' : listed.getD i false = false := by simp [hil] at h0 ⊢; exact h0
   have hfree : ∀ j ∈ LA ++ LB, j < i → (m.getD i 0).testBit j = false := fun j hj hji => by
    cases hm : (m.getD i 0).testBit j with
    | false => rfl
    | true =>
     have hl := zcx ok hcl i i o (Nat.le_refl _) ho hdeps j hji hm
     have := ((hmem j).1 hj).2
     rw [hl] at this; cases this
   have hcl' : Closed ops (listed.setIfInBounds i true) := by
    intro k p hk hl e he hb
    by_cases hki : k = i
    ·subst hki
     obtain rfl : p = o := Option.some.inj (hk.symm.trans ho)
     exact getD_set_true (hdeps e he hb)
    ·rw [getD_set_ne false (fun h => hki h.symm)] at hl
     exact getD_set_true (hcl k p hk hl e he hb)
   have hin := (hmem i).2 ⟨hlt, h0'⟩
   have hnd : (LA ++ LB).Nodup := hpw.imp fun h => by omega
   have hmem' : ∀ (LA' LB' : List Nat), (∀ j, j ∈ LA' ++ LB' ↔ j ≠ i ∧ j ∈ LA ++ LB) → ∀ j, j ∈ LA' ++ LB' ↔ j < ops.size ∧ (listed.setIfInBounds i true).getD j false = false := fun LA' LB' hh j => by
    rw [hh, hmem]
    constructor
    ·rintro ⟨k0, k1, k2⟩
     exact ⟨k1, by rw [getD_set_ne false (fun h => k0 h.symm)]; exact k2⟩
    ·rintro ⟨k1, k2⟩
     have hji : j ≠ i := fun e => by subst e; simp [hil] at k2
     rw [getD_set_ne false (fun h => hji h.symm)] at k2
     exact ⟨hji, k1, k2⟩
   rcases List.mem_append.1 hin with hiA | hiB
   ·obtain ⟨pre, post, rfl⟩ := List.append_of_mem hiA
    have hpwA := (List.pairwise_append.1 hpw).1
    have hpre : ∀ j ∈ pre, j < i := fun j hj => (List.pairwise_append.1 hpwA).2.2 j hj i List.mem_cons_self
    have hpost : ∀ j ∈ post, i < j := fun j hj => (List.pairwise_cons.1 (List.pairwise_append.1 hpwA).2.1).1 j hj
    have hLB : ∀ j ∈ LB, i < j := fun j hj => (List.pairwise_append.1 hpw).2.2 i (by simp) j hj
    have h1 : S w ∧ wpIh P S hs ops (fun a w => S w → wpI P ops (Q .normal) LB a w) (pre ++ i :: post) a w := by
     cases pre with
     | nil => exact h
     | cons x pre => exact h
    refine zbu (fun a w h => ?_) (zbt (bubbleH ok ho pre post (fun j hj => ⟨hpre j hj, hfree j (by simp [hj]) (hpre j hj)⟩) a w h1.1 h1.2) h1.1)
    refine ih (pre ++ post) LB _ a w (by simp at hlen ⊢; omega) (by simp [hsz]) hcl' ?_ (fun j hj => hA j (by rcases List.mem_append.1 hj with h | h <;> simp [h])) hB (hmem' _ _ fun j => ?_) (HoldsT.of h)
    ·exact hpw.sublist ((List.Sublist.append_left (List.sublist_cons_self _ _) _).append_right _)
    ·constructor
     ·intro hj
      rcases List.mem_append.1 hj with hj | hj
      ·rcases List.mem_append.1 hj with hj | hj
       ·have := hpre j hj; exact ⟨by omega, by simp [hj]⟩
       ·have := hpost j hj; exact ⟨by omega, by simp [hj]⟩
      ·have := hLB j hj; exact ⟨by omega, by simp [hj]⟩
     ·rintro ⟨hne, hj⟩
      rcases List.mem_append.1 hj with hj | hj
      ·rcases List.mem_append.1 hj with hj | hj
       ·simp [hj]
       ·rcases List.mem_cons.1 hj with rfl | hj
        ·exact absurd rfl hne
        ·simp [hj]
      ·simp [hj]
   ·obtain ⟨pre, post, rfl⟩ := List.append_of_mem hiB
    have hpwB := (List.pairwise_append.1 hpw).2.1
    have hpre : ∀ j ∈ pre, j < i := fun j hj => (List.pairwise_append.1 hpwB).2.2 j hj i List.mem_cons_self
    have hpost : ∀ j ∈ post, i < j := fun j hj => (List.pairwise_cons.1 (List.pairwise_append.1 hpwB).2.1).1 j hj
    have hLA : ∀ j ∈ LA, j < i := fun j hj => (List.pairwise_append.1 hpw).2.2 j hj i (by simp)
    have hik : k ≤ i := hB i (by simp)
    have hbub : ∀ a w, wpI P ops (Q .normal) (pre ++ i :: post) a w → TI P ops i (wpI P ops (Q .normal) (pre ++ post)) a w :=
     bubbleT ok tk ho pre post (fun j hj => ⟨hB j (by simp [hj]), hpre j hj, hfree j (by simp [hj]) (hpre j hj)⟩)
    have goOn : ∀ a w, HoldsT P S hs ops (Q .normal) LA (pre ++ post) a w → wpAnyX P .any ops (Q .normal) fuel (listed.setIfInBounds i true) a w := fun a w hh =>
     ih LA (pre ++ post) _ a w (by simp at hlen ⊢; omega) (by simp [hsz]) hcl' (hpw.sublist (List.Sublist.append_left (List.Sublist.append_left (List.sublist_cons_self _ _) _) _)) hA (fun j hj => hB j (by rcases List.mem_append.1 hj with h | h <;> simp [h])) (hmem' _ _ fun j => by
      constructor
      ·intro hj
       rcases List.mem_append.1 hj with hj | hj
       ·have := hLA j hj; exact ⟨by omega, by simp [hj]⟩
       ·rcases List.mem_append.1 hj with hj | hj
        ·have := hpre j hj; exact ⟨by omega, by simp [hj]⟩
        ·have := hpost j hj; exact ⟨by omega, by simp [hj]⟩
      ·rintro ⟨hne, hj⟩
       rcases List.mem_append.1 hj with hj | hj
       ·simp [hj]
       ·rcases List.mem_append.1 hj with hj | hj
        ·simp [hj]
        ·rcases List.mem_cons.1 hj with rfl | hj
         ·exact absurd rfl hne
         ·simp [hj]) hh
    cases LA with
    | nil =>
     have h : wpI P ops (Q .normal) (pre ++ i :: post) a w := h
     exact zek (TI_mono (fun a w hh => goOn a w hh) (hbub a w h))
    | cons x LA =>
     obtain ⟨hw, h⟩ : S w ∧ wpIh P S hs ops (fun a w => S w → wpI P ops (Q .normal) (pre ++ i :: post) a w) (x :: LA) a w := h
     have hpure : kindOf P o = .pure := by
      rcases tk.last i o ho hik with h | h
      ·exact h
      ·have := hfree x (by simp) (hLA x (by simp))
       rw [h x (hA x (by simp))] at this; cases this
     have h2 : wpIh P S hs ops (TIh P S hs ops i (fun a w => S w → wpI P ops (Q .normal) (pre ++ post) a w)) (x :: LA) a w :=
      zdN (x :: LA) hw (fun a w hS hh => TIh_of_pure ho hpure hS (hbub a w (hh hS))) h
     rw [zev] at h2
     have h3 := bubbleH (post := []) ok ho (x :: LA) (fun j hj => ⟨hLA j hj, hfree j (List.mem_append_left _ hj) (hLA j hj)⟩) a w hw h2
     rw [List.append_nil] at h3
     exact zbu (fun a w hh => goOn a w (HoldsT.of hh)) (zbt h3 hw)
theorem zqk {Q : Act → World → Prop} (l : List Oper) : ∀ k, (∀ j, l[j]? = ops[k + j]?) → wpI P ops Q (List.range' k l.length) = wpT P ops Q l := zfZ l
theorem zdr {Q : Exit → Act → World → Prop} {id : Nat} {pre post : List Oper} {a : Act} {w : World} (hm : P.follows .mixedOrders = true) (hs : Option Tmp → Bool) (S : World → Prop) (hw0 : S w.drew)
  (hB : textH P hs (pre ++ post).toArray = true) (hT : tailB P (pre ++ post).toArray pre.length = true)
  (h : wpTh P S hs (pre ++ post).toArray (fun a w => S w → wpT P (pre ++ post).toArray (fun a w => Q .normal a w) post a w) pre a w.drew) : (Code.region id (pre ++ post).toArray true).wpX P Q a w := by
 refine zbg hm ?_
 have ok := zei hB
 have tk := zls hT
 have hz : ∀ j, (Array.replicate (pre ++ post).toArray.size false).getD j false = false := fun j => by
  simp only [Array.getD_eq_getD_getElem?, Array.getElem?_replicate]; split <;> rfl
 have hsz : (pre ++ post).toArray.size = pre.length + post.length := by simp
 have hr : List.range pre.length ++ List.range' pre.length post.length = List.range (pre.length + post.length) := by
  rw [List.range_eq_range', List.range_eq_range']
  have := List.range'_append (s := 0) (m := pre.length) (n := post.length) (step := 1)
  simpa using this
 have key := anyOrderT (S := S) (Q := Q) ok tk (pre.length + post.length) (List.range pre.length) (List.range' pre.length post.length) (Array.replicate (pre ++ post).toArray.size false) a w.drew (by simp) (by simp) ?_ (by rw [hr]; exact List.pairwise_lt_range) (fun j hj => by simpa using hj) (fun j hj => by simp at hj; omega) (fun j => by rw [hr, hz, hsz]; simp) ?_
 ·rw [hsz] at key ⊢; exact key
 ·intro i o _ hl; rw [hz] at hl; cases hl
 ·refine HoldsT.of ⟨hw0, ?_⟩
  have e1 := zjL (P := P) (S := S) (hs := hs) (ops := (pre ++ post).toArray) (Q := fun a w => S w → wpI P (pre ++ post).toArray (Q .normal) (List.range' pre.length post.length) a w) pre 0 (fun j hj => by rw [Nat.zero_add]; simp [List.getElem?_append_left hj])
  rw [show List.range pre.length = List.range' 0 pre.length from by simp [List.range_eq_range'], e1]
  have e2 : wpI P (pre ++ post).toArray (Q .normal) (List.range' pre.length post.length) = wpT P (pre ++ post).toArray (Q .normal) post := zqk (ops := (pre ++ post).toArray) post pre.length (fun j => by
   rw [List.getElem?_toArray, List.getElem?_append_right (Nat.le_add_right _ _), Nat.add_sub_cancel_left])
  rw [e2]
  exact h
end
end Go.Pw
namespace Go.Vc
open Go Go.Pw
theorem Draw.heldTail {P : Program} {n : Nat} {K : Exit → Fr → World → Prop} {id : Nat} {ops : Array Oper} {t : List It} {f : Fr} {w : World} (k : Nat) (S : World → Prop) (hs : Option Tmp → Bool) (hB : textH P hs ops = true) (hT : (Nat.ble k ops.size && tailB P ops k) = true) (hw : S w.drew)
  (h : Sat P n K .normal (.opsH S hs ops.toList (ops.toList.take k) :: .ops ops.toList (ops.toList.drop k) true :: t) f w.drew) : Draw P n K id ops t f w :=
 ⟨fun hm hf => by
  rw [Bool.and_eq_true] at hT
  obtain ⟨hk, hT⟩ := hT
  have hk : k ≤ ops.size := Nat.le_of_ble_eq_true hk
  obtain ⟨pre, post, he, hpl⟩ : ∃ pre post : List Oper, ops = (pre ++ post).toArray ∧ pre.length = k := ⟨ops.toList.take k, ops.toList.drop k, by rw [List.take_append_drop], by rw [List.length_take, Array.length_toList]; omega⟩
  subst he
  have e1 : (pre ++ post).toArray.toList.take k = pre := by rw [← hpl]; simp
  have e2 : (pre ++ post).toArray.toList.drop k = post := by rw [← hpl]; simp
  rw [e1, e2] at h
  rw [← hpl] at hT
  refine zdr hm hs S hw hB hT ?_
  have h1 := h.h hf
  have h1 : S w.drew → wpTh P S hs (pre ++ post).toArray (fun a w => S w → Lift n (after P n (.ops (pre ++ post).toArray.toList post true :: t) K .normal) a w) pre (act n f) w.drew := h1
  have mono : ∀ (l : List Oper) (Q Q' : Act → World → Prop), (∀ a w, Q a w → Q' a w) → ∀ a w, S w → wpTh P S hs (pre ++ post).toArray Q l a w → wpTh P S hs (pre ++ post).toArray Q' l a w := by
   intro l
   induction l with
   | nil => intro Q Q' hq a w _ h; exact hq a w h
   | cons x r ih => intro Q Q' hq a w hw h; exact T1h_mono hw (fun a w hS hh => ih Q Q' hq a w hS hh) h
  refine mono pre _ _ ?_ _ _ hw (h1 hw)
  rintro a w hk hS
  obtain ⟨g, hg, e, hk2⟩ := hk hS
  subst e
  exact hk2⟩
end Go.Vc
namespace Go.Vc
open Go Go.Pw Go.Sort
theorem flat1 {α β : Type} (f : α → β) (l : List α) : (l.flatMap fun x => [f x]) = l.map f := by
 induction l with
 | nil => rfl
 | cons x r ih => rw [List.flatMap_cons, ih]; rfl
section
variable {α : Type} [Inhabited α] {enc : α → Value} {w : World} {g q : Nat} {os : Array Obj} {e : TypeId}
theorem ziY {cur : Array Value} {fr : Nat × Nat} (d : Array α) (hb : w.heap[g]? = some (.cells cur e fr)) :
  (grow (putRow enc (Sort.ahead w q) g 0 d) os).heap[g]? = some (.cells (putCells enc 0 d cur) e fr) := by
 have hg : g < w.heap.size := (Array.getElem?_eq_some_iff.1 hb).1
 rw [heap_grow_old _ _ (by simpa using hg)]
 simp [putRow, mapBlock, Sort.ahead, Array.getElem?_modify, hb, onCells]
theorem zfg (d : Array α) : Kp w (grow (putRow enc (Sort.ahead w q) g 0 d) os) (one_ g) := by
 refine ⟨rfl, rfl, rfl, by simp, fun k hk hne => ?_⟩
 rw [heap_grow_old _ _ (by simpa using hk)]
 have : g ≠ k := fun e => hne e.symm
 simp [putRow, mapBlock, Sort.ahead, Array.getElem?_modify, this]
theorem zfc {l : List α} {cells : List Value} (h : VarK w g e cells) (ht : cells.take l.length = l.map enc) : Holds enc w g 0 l.toArray := by
 intro j hj
 have hj' : j < l.length := by simpa using hj
 refine ⟨?_, by have := h.frozen (0 + j); exact this⟩
 have h1 : (cells.take l.length)[j]? = (l.map enc)[j]? := by rw [ht]
 rw [List.getElem?_take_of_lt hj'] at h1
 have := h.at j (enc l[j]) (by rw [h1]; simp [hj'])
 rw [this]
 simp [hj']
theorem zjk (cur : Array Value) (ts : List α) (h : ts.length ≤ cur.size) : (putCells enc 0 ts.toArray cur).toList.take ts.length = ts.map enc := by
 apply List.ext_getElem?
 intro j
 by_cases hj : j < ts.length
 ·rw [List.getElem?_take_of_lt hj, Array.getElem?_toList]
  simp [putCells, hj, show j < cur.size by omega]
 ·rw [List.getElem?_take_eq_none (by omega), List.getElem?_eq_none (by simp; omega)]
theorem zmu {B n cap m : Nat} {xs : List Value} (ho : w.ownsRow B e 1 (.slice (some ⟨g, 0, none⟩) n cap) n xs) (d : List α) (hd : d.length = n) (hm : m ≤ n) :
  (grow (putRow enc (Sort.ahead w q) g 0 d.toArray) os).ownsRow B e 1 (.slice (some ⟨g, 0, none⟩) m cap) m ((d.take m).map enc) := by
 rcases ho.2 with ⟨h, _⟩ | ⟨g', cap', cur, h1, h2, h3, h4, h5, h6, h7⟩
 ·cases h
 ·injection h1 with h1 _ hc
  injection h1 with h1
  injection h1 with h1
  subst h1; subst hc
  refine ⟨by rw [List.length_map, List.length_take]; omega, .inr ⟨g, cap, _, rfl, h2, ziY _ h3, by omega, h5, by simp [putCells, h6], ?_⟩⟩
  have := zjk (enc := enc) cur d (by omega)
  rw [Nat.mul_one, List.map_take, ← this, List.take_take, Nat.min_eq_left (by omega)]
end
end Go.Vc
namespace Go.Proofs.YtennokckmjcefaaGreatDoor
open Go.RowKit Go.Pw Go.Vc Go.Cs Go.Lib
structure Sl where
 a : Option Addr
 n : Nat
 c : Nat
abbrev Sl.v (s : Sl) : Value := .slice s.a s.n s.c
structure Mr where
 m : Ml
 b : Sl
 f : Sl
instance : Inhabited Mr := ⟨⟨⟨0, ⟨0, 0, 0, 0, 0, 0, 0, 0, 0, 0, 0, 0, 0, 0, 0, 0, 0, 0, 0, 0, 0, 0, 0, 0, 0, 0, 0, 0, 0, 0, 0, 0⟩, [], [], 0, 0, 0⟩, ⟨none, 0, 0⟩, ⟨none, 0, 0⟩⟩⟩
def dgC (d : Dg) : List Value := [.int .u8 d.d0, .int .u8 d.d1, .int .u8 d.d2, .int .u8 d.d3, .int .u8 d.d4, .int .u8 d.d5, .int .u8 d.d6, .int .u8 d.d7, .int .u8 d.d8, .int .u8 d.d9, .int .u8 d.d10, .int .u8 d.d11, .int .u8 d.d12, .int .u8 d.d13, .int .u8 d.d14, .int .u8 d.d15, .int .u8 d.d16, .int .u8 d.d17, .int .u8 d.d18, .int .u8 d.d19, .int .u8 d.d20, .int .u8 d.d21, .int .u8 d.d22, .int .u8 d.d23, .int .u8 d.d24, .int .u8 d.d25, .int .u8 d.d26, .int .u8 d.d27, .int .u8 d.d28, .int .u8 d.d29, .int .u8 d.d30, .int .u8 d.d31]
def mrC (x : Mr) : List Value := .int .i64 x.m.id :: (dgC x.m.blob ++ [.slice x.b.a x.b.n x.b.c, .slice x.f.a x.f.n x.f.c, .int .i64 x.m.at_, .int .i64 x.m.size, .int .i64 x.m.mod])
def srcC (s : Sc) : List Value := [.string (str s.name), .string (str s.text)]
def snC (s : Sn) : List Value := [.string (str s.key), .int .i64 s.at_]
abbrev inC (z : Int) : List Value := [.int .i64 z]
abbrev txC (s : List UInt8) : List Value := [.string (str s)]
abbrev RowI (w : World) (v : Value) (l : List Int) : Prop := RowO w v inC l
abbrev RowT (w : World) (v : Value) (l : List (List UInt8)) : Prop := RowO w v txC l
abbrev RowS (w : World) (v : Value) (l : List Sc) : Prop := RowO w v srcC l
abbrev RowN (w : World) (v : Value) (l : List Sn) : Prop := RowO w v snC l
abbrev RowMr (w : World) (v : Value) (l : List Mr) : Prop := RowO w v mrC l
abbrev OwnI (w : World) (B : Nat) (v : Value) (l : List Int) : Prop := w.ownsRow B 3 1 v l.length (l.flatMap inC)
abbrev OwnT (w : World) (B : Nat) (v : Value) (l : List (List UInt8)) : Prop := w.ownsRow B 9 1 v l.length (l.flatMap txC)
abbrev own_ (v : Value) : Nat → Prop := fun k => v.ownBlock = some k
theorem RowO.len {α : Type} {w : World} {a : Option Addr} {n c : Nat} {f : α → List Value} {l : List α} (h : RowO w (.slice a n c) f l) : n = l.length := by
 obtain ⟨_, _, e, _⟩ := h
 injection e
theorem zmr {α : Type} {w : World} {g o i : Nat} {l : List α} (f : α → Value) (h : At w g o (l.flatMap fun x => [f x])) (hi : i < l.length) : w.cell? ⟨g, o + i, none⟩ = some (f l[i]) := h i _ (by rw [flat1, List.getElem?_map, List.getElem?_eq_getElem hi]; rfl)
theorem zcI {w : World} {g o i : Nat} {l : List Int} (h : At w g o (l.flatMap inC)) (hi : i < l.length) : w.cell? ⟨g, o + i, none⟩ = some (.int .i64 l[i]) := zmr (Value.int .i64) h hi
theorem zpw {w : World} {g o i : Nat} {l : List (List UInt8)} (h : At w g o (l.flatMap txC)) (hi : i < l.length) : w.cell? ⟨g, o + i, none⟩ = some (.string (str l[i])) := zmr (fun s => Value.string (str s)) h hi
def idxP {α : Type} (p : α → Bool) (l : List α) : Int := match l.findIdx? p with | some i => (i : Nat) | none => -1
theorem zdo {α : Type} {p : α → Bool} {l : List α} {i : Nat} (h : i < l.length) (hp : p l[i] = true) (hn : ∀ j (h : j < l.length), j < i → p l[j] = false) : idxP p l = (i : Nat) := by
 unfold idxP
 rw [List.findIdx?_eq_some_iff_getElem.2 ⟨h, hp, fun j hj => by rw [hn j (by omega) hj]; simp⟩]
theorem zdJ {α : Type} {p : α → Bool} {l : List α} (hn : ∀ j (h : j < l.length), p l[j] = false) : idxP p l = -1 := by
 unfold idxP
 rw [List.findIdx?_eq_none_iff.2 fun x hx => by obtain ⟨i, hi, rfl⟩ := List.getElem_of_mem hx; exact hn i hi]
theorem zew {α : Type} (p : α → Bool) (l : List α) : (0 ≤ idxP p l) ↔ l.any p = true := by
 unfold idxP
 cases h : l.findIdx? p with
 | none =>
  rw [List.findIdx?_eq_none_iff] at h
  simp only [List.any_eq_true]
  exact ⟨fun h => by omega, fun ⟨x, hx, hp⟩ => by rw [h x hx] at hp; cases hp⟩
 | some i =>
  obtain ⟨h1, h2, _⟩ := List.findIdx?_eq_some_iff_getElem.1 h
  exact ⟨fun _ => List.any_eq_true.2 ⟨_, List.getElem_mem h1, h2⟩, fun _ => by simp⟩
theorem idxP_lt {α : Type} (p : α → Bool) (l : List α) : idxP p l = -1 ∨ ∃ i : Nat, ∃ h : i < l.length, idxP p l = (i : Nat) ∧ p l[i] = true ∧ ∀ j (hj : j < i), p (l[j]'(by omega)) = false := by
 unfold idxP
 cases h : l.findIdx? p with
 | none => exact .inl rfl
 | some i =>
  obtain ⟨h1, h2, h3⟩ := List.findIdx?_eq_some_iff_getElem.1 h
  exact .inr ⟨i, h1, rfl, h2, fun j hj => by simpa using h3 j hj⟩
theorem infoI : (Tryz.prog.info? 3).map (fun i => (i.zero, i.size, i.bytes)) = some (some (.int .i64 0), 1, 8) := by kernel_rfl
theorem lenI (x : Int) : (inC x).length = 1 := rfl
theorem oneI (l : List Int) : ∀ u ∈ l.flatMap inC, u.oneCell' = true := fun u hu => by
 obtain ⟨b, _, hb⟩ := List.mem_flatMap.1 hu
 exact (show ∀ u ∈ inC b, u.oneCell' = true from List.all_eq_true.1 (by rfl)) u hb
theorem build0I (w : World) : (Instr.buildSlice 40 0 [].toArray).run Tryz.prog w = .ok (.slice (some ⟨w.heap.size, 0, none⟩) 0 0) (w.alloc (.cells #[] 3)) := by
 simp [Instr.buildSlice, go_sem, Tryz.runUnderlying40]
theorem zqZ {w : World} {v : Value} (l : List Int) (g : Nat) (c0 : Value) (p : Int → Bool) (hv : RowO w v inC l) (hl : l.length ≤ 17592186044416) (hg : ∀ (args : Array Value) (w : World), (callFunc g args).run Tryz.prog w = .ok (.enter g args) w)
  (hp : ∀ x ∈ l, ∀ w', Kp w w' n_ → Calls Tryz.prog g #[.int .i64 x, c0] w' fun e w'' => e = .returned (.bool (p x)) ∧ Kp w' w'' n_) :
  Calls Tryz.prog 236 #[v, .func (.func g) #[] #[c0]] w fun e w' => e = .returned (.int .i64 (idxP p l)) ∧ Kp w w' n_ := by
 obtain ⟨a, cap, rfl, hr⟩ := hv
 refine zaa (args := [.slice a l.length cap, .func (.func g) #[] #[c0]]) Tryz.func236 rfl NL ?_; refine GW ?_
 refine Loop.intro (ι := Nat) (fun i => [(0, .slice a l.length cap), (1, .func (.func g) #[] #[c0]), (7, .int .i64 (l.length : Nat)), (8, .int .i64 (i : Nat))])
  (fun i wr => Kp w wr n_ ∧ i ≤ l.length ∧ ∀ j (h : j < l.length), j < i → p l[j] = false) (fun i => l.length - i) 0 ⟨rfl, rfl, rfl, rfl, trivial⟩ ⟨Kp.refl _ _, Nat.zero_le _, fun _ _ h => by omega⟩ ?_
 rintro i gg wr ⟨hK, hi, he⟩
 refine GW ?_
 by_cases hlt : i < l.length
 ·obtain ⟨gb, o, rfl, hgb, hat⟩ := hr (by omega)
  have hpc := hp l[i] (List.getElem_mem hlt) wr hK
  obtain ⟨q, hq⟩ : ∃ q, p l[i] = q := ⟨_, rfl⟩
  rw [hq] at hpc
  have hc := zcI hat hlt
  refine KGO ?_
  refine CallS.of (hg _ _) hpc ?_
  rintro e w1 ⟨rfl, k1⟩
  refine RT ?_
  cases q with
  | true =>
   refine KGO ?_
   exact ⟨by rw [zdo hlt hq he], hK.trans0 k1⟩
  | false =>
   refine KGO ?_
   exact ⟨i + 1, ⟨rfl, rfl, rfl, v_int (by simp), trivial⟩, ⟨hK.trans0 k1, by omega, fun j h hj => by
    rcases Nat.lt_or_ge j i with h' | h'
    ·exact he j h h'
    ·obtain rfl : j = i := by omega
     exact hq⟩, by dsimp only; omega⟩
 ·refine KGO ?_
  exact ⟨by rw [zdJ fun j h => he j h (by omega)], hK⟩
theorem cl_I {w : World} {v : Value} (l : List Int) (hv : RowO w v inC l) (hl : l.length ≤ 17592186044416) : Calls Tryz.prog 222 #[v] w fun e w' => ∃ v', e = .returned v' ∧ OwnI w' w.heap.size v' l ∧ Kp w w' n_ := by
 obtain ⟨a, cap, rfl, hr⟩ := hv
 have hnil : l.length = 0 → l = [] := List.eq_nil_of_length_eq_zero
 rcases a with _ | ⟨gb, o, sp⟩
 ·obtain rfl : l = [] := hnil (by
   rcases Nat.eq_zero_or_pos l.length with h | h
   ·exact h
   ·obtain ⟨g, o, h1, _⟩ := hr h; cases h1)
  refine zaa (args := [.slice none 0 cap]) Tryz.func222 rfl NL ?_; refine GW ?_
  refine KGO ?_
  exact ⟨_, rfl, World.ownsRow_nil _ _ _ _, Kp.refl _ _⟩
 ·refine zaa (args := [.slice (some ⟨gb, o, sp⟩) l.length cap]) Tryz.func222 rfl NL ?_; refine GW ?_
  refine KGO ?_
  refine RunV.of (build0I _) ?_
  have o1 : (w.alloc (.cells #[] 3)).ownsRow w.heap.size 3 1 (.slice (some ⟨w.heap.size, 0, none⟩) 0 0) 0 [] := World.ownsRow_made w #[] 0 (Nat.le_refl _) (by decide) (by simp)
  have k1 : Kp w (w.alloc (.cells #[] 3)) n_ := (Kp.refl _ _).alloc _
  have hB : w.heap.size ≤ (w.alloc (.cells #[] 3)).heap.size := k1.size
  generalize w.alloc (.cells #[] 3) = w1 at *
  refine KGO ?_
  have hnews : ∀ j u, (l.flatMap inC)[j]? = some u → w1.cell? ((⟨gb, o, sp⟩ : Addr).add j) = some u := fun j u hj => by
   rcases Nat.eq_zero_or_pos l.length with h | h
   ·rw [hnil h] at hj; simp at hj
   ·obtain ⟨g', o', h1, _, h3⟩ := hr h
    injection h1 with h1
    injection h1 with h4 h5 h6
    subst h4; subst h5; subst h6
    rw [zaS]
    exact zaK (h3 j u hj) k1
  refine RunN.app Tryz.underlying40 infoI rfl (by decide) o1 hB ⟨gb, o, sp⟩ l.length cap (l.flatMap inC) (zaW inC 1 lenI l) hnews (oneI l) (by omega) (by omega) fun v' w' h2 h3 => ?_
  obtain ⟨a', c', rfl⟩ : ∃ a c, v' = .slice a (0 + l.length) c := zab h2
  refine KGO ?_
  refine ⟨_, rfl, ?_, k1.own o1 (Nat.le_refl _) h3⟩
  rw [List.nil_append, Nat.zero_add] at h2
  rw [Nat.zero_add]
  exact h2
end Go.Proofs.YtennokckmjcefaaGreatDoor
namespace Go.Proofs.YtennokckmjcefaaGreatDoor
open Go.Shelf Go.RowKit Go.Pw Go.Vc Go.Cs Go.Lib Go.Sort
def ren106 : Go.Shelf.Ren := ⟨fun | 106 => 210 | 213 => 247 | 265 => 260 | n => n, fun | 3 => 3 | 5 => 5 | 9 => 9 | n => n, fun | n => n⟩
theorem lays106 : Go.Proofs.Lays.n106 Tryz.prog ren106 := {
 mixed := by kernel_rfl
 f106 := Tryz.func210.trans (congrArg some (by kernel_rfl))
 f213 := Tryz.func247.trans (congrArg some (by kernel_rfl))
 f265 := Tryz.func260.trans (congrArg some (by kernel_rfl))
 t3 := Tryz.underlying3
 a3 := Tryz.isAgg3
 z3 := Tryz.sizeOf3
 v3 := Tryz.zeroValue3
 t9 := Tryz.underlying9
 a9 := Tryz.isAgg9
 z9 := Tryz.sizeOf9
 v9 := Tryz.zeroValue9 }
def ren189 : Go.Shelf.Ren := ⟨fun | 125 => 129 | 128 => 187 | 129 => 188 | 189 => 79 | 215 => 189 | 216 => 130 | 257 => 128 | 294 => 179 | 295 => 180 | 296 => 181 | 297 => 182 | 298 => 183 | 299 => 184 | 300 => 185 | 301 => 186 | 328 => 225 | 329 => 226 | 330 => 227 | 331 => 228 | 332 => 229 | 343 => 254 | n => n, fun | 0 => 0 | 3 => 3 | 4 => 4 | 5 => 5 | 9 => 9 | 28 => 40 | 46 => 153 | 51 => 204 | 53 => 206 | 131 => 104 | 182 => 197 | 183 => 198 | 218 => 236 | 222 => 234 | 228 => 259 | 229 => 61 | n => n, fun | n => n⟩
theorem lays189 : Go.Proofs.Lays.n189 Tryz.prog ren189 := {
 mixed := by kernel_rfl
 f125 := Tryz.func129.trans (congrArg some (by kernel_rfl))
 f128 := Tryz.func187.trans (congrArg some (by kernel_rfl))
 f129 := Tryz.func188.trans (congrArg some (by kernel_rfl))
 f189 := Tryz.func79.trans (congrArg some (by kernel_rfl))
 f215 := Tryz.func189.trans (congrArg some (by kernel_rfl))
 f216 := Tryz.func130.trans (congrArg some (by kernel_rfl))
 f257 := Tryz.func128.trans (congrArg some (by kernel_rfl))
 f294 := Tryz.func179.trans (congrArg some (by kernel_rfl))
 f295 := Tryz.func180.trans (congrArg some (by kernel_rfl))
 f296 := Tryz.func181.trans (congrArg some (by kernel_rfl))
 f297 := Tryz.func182.trans (congrArg some (by kernel_rfl))
 f298 := Tryz.func183.trans (congrArg some (by kernel_rfl))
 f299 := Tryz.func184.trans (congrArg some (by kernel_rfl))
 f300 := Tryz.func185.trans (congrArg some (by kernel_rfl))
 f301 := Tryz.func186.trans (congrArg some (by kernel_rfl))
 f328 := Tryz.func225.trans (congrArg some (by kernel_rfl))
 f329 := Tryz.func226.trans (congrArg some (by kernel_rfl))
 f330 := Tryz.func227.trans (congrArg some (by kernel_rfl))
 f331 := Tryz.func228.trans (congrArg some (by kernel_rfl))
 f332 := Tryz.func229.trans (congrArg some (by kernel_rfl))
 f343 := Tryz.func254.trans (congrArg some (by kernel_rfl))
 t0 := Tryz.underlying0
 a0 := Tryz.isAgg0
 z0 := Tryz.sizeOf0
 v0 := Tryz.zeroValue0
 t3 := Tryz.underlying3
 a3 := Tryz.isAgg3
 z3 := Tryz.sizeOf3
 v3 := Tryz.zeroValue3
 t4 := Tryz.underlying4
 a4 := Tryz.isAgg4
 z4 := Tryz.sizeOf4
 v4 := Tryz.zeroValue4
 t5 := Tryz.underlying5
 a5 := Tryz.isAgg5
 z5 := Tryz.sizeOf5
 v5 := Tryz.zeroValue5
 t9 := Tryz.underlying9
 a9 := Tryz.isAgg9
 z9 := Tryz.sizeOf9
 v9 := Tryz.zeroValue9
 t28 := Tryz.underlying40
 a28 := Tryz.isAgg40
 z28 := Tryz.sizeOf40
 v28 := Tryz.zeroValue40
 t46 := Tryz.underlying153
 a46 := Tryz.isAgg153
 z46 := Tryz.sizeOf153
 v46 := Tryz.zeroValue153
 t51 := Tryz.underlying204
 a51 := Tryz.isAgg204
 z51 := Tryz.sizeOf204
 v51 := Tryz.zeroValue204
 t53 := Tryz.underlying206
 a53 := Tryz.isAgg206
 z53 := Tryz.sizeOf206
 v53 := Tryz.zeroValue206
 t131 := Tryz.underlying104
 a131 := Tryz.isAgg104
 z131 := Tryz.sizeOf104
 v131 := Tryz.zeroValue104
 t182 := Tryz.underlying197
 a182 := Tryz.isAgg197
 z182 := Tryz.sizeOf197
 v182 := Tryz.zeroValue197
 t183 := Tryz.underlying198
 a183 := Tryz.isAgg198
 z183 := Tryz.sizeOf198
 v183 := Tryz.zeroValue198
 t218 := Tryz.underlying236
 a218 := Tryz.isAgg236
 z218 := Tryz.sizeOf236
 v218 := Tryz.zeroValue236
 t222 := Tryz.underlying234
 a222 := Tryz.isAgg234
 z222 := Tryz.sizeOf234
 v222 := Tryz.zeroValue234
 t228 := Tryz.underlying259
 a228 := Tryz.isAgg259
 z228 := Tryz.sizeOf259
 v228 := Tryz.zeroValue259
 t229 := Tryz.underlying61
 a229 := Tryz.isAgg61
 z229 := Tryz.sizeOf61
 v229 := Tryz.zeroValue61 }
def renL2_20 : Go.Shelf.Ren := ⟨fun | 20 => 106 | n => n, fun | 0 => 0 | 3 => 3 | 4 => 4 | 5 => 5 | 22 => 40 | n => n, fun | n => n⟩
theorem zeV : Go.Proofs.Lays2.n20 Tryz.prog renL2_20 := {
 mixed := by kernel_rfl
 f20 := Tryz.func106.trans (congrArg some (by kernel_rfl))
 t0 := Tryz.underlying0
 a0 := Tryz.isAgg0
 z0 := Tryz.sizeOf0
 v0 := Tryz.zeroValue0
 t3 := Tryz.underlying3
 a3 := Tryz.isAgg3
 z3 := Tryz.sizeOf3
 v3 := Tryz.zeroValue3
 t4 := Tryz.underlying4
 a4 := Tryz.isAgg4
 z4 := Tryz.sizeOf4
 v4 := Tryz.zeroValue4
 t22 := Tryz.underlying40
 a22 := Tryz.isAgg40
 z22 := Tryz.sizeOf40
 v22 := Tryz.zeroValue40
 i3 := by kernel_rfl }
theorem zhP (a b : ByteArray) (w : World) : Calls Tryz.prog 210 #[.string a, .string b] w fun e w' => e = .returned (.int .i64 (compareBytes (L a) (L b))) ∧ w = w' :=
 (Any.strings_Compare lays106 a b w).mono fun e w' h => ⟨h.1, h.2.symm⟩
section
variable {w : World} {B g cap : Nat}
theorem srt_I {v : Value} (l : List Int) (ho : OwnI w B v l) (hl : l.length ≤ 17592186044416) : Calls Tryz.prog 79 #[v] w fun e w' => e = .returned (.tuple #[]) ∧ OwnI w' B v (l.mergeSort fun x y => decide (x ≤ y)) ∧ Kp w w' (own_ v) := by
 rcases own_blockK ho with ⟨rfl, h0⟩ | ⟨g, cap, cells, rfl, hBg, hv, hnc, hcm, hcl, htk⟩
 ·obtain rfl : l = [] := List.eq_nil_of_length_eq_zero h0
  exact (Any.slices_Sort_int_none lays189 none 0 w).mono fun e w' h => ⟨h.1, by rw [h.2, List.mergeSort_nil]; exact ho, by rw [h.2]; exact Kp.refl _ _⟩
 ·have htk : cells.take l.length = l.map (Value.int .i64) := by rw [← flat1]; rw [Nat.mul_one] at htk; exact htk
  refine (Any.slices_Sort_int lays189 g 0 cap l w (zfc hv htk) hv.lt (by omega)).mono ?_
  rintro e w' ⟨rfl, n, os, rfl⟩
  refine ⟨rfl, ?_, (zfg _).mono fun q _ hq => by have hq : q = g := hq; rw [hq]; rfl⟩
  have := zmu (enc := (Value.int .i64)) (q := n) (os := os) ho (l.mergeSort fun x y => decide (x ≤ y)) (List.length_mergeSort _) (Nat.le_refl _)
  rw [← flat1, List.take_of_length_le (by rw [List.length_mergeSort]; exact Nat.le_refl _)] at this
  unfold OwnI
  rw [List.length_mergeSort]
  exact this
theorem cmp_I {v : Value} (l : List Int) (ho : OwnI w B v l) (hl : l.length ≤ 17592186044416) : Calls Tryz.prog 106 #[v] w fun e w' => ∃ v', e = .returned v' ∧ OwnI w' B v' (compact l) ∧ Kp w w' (own_ v) ∧ v'.ownBlock = v.ownBlock := by
 rcases own_blockK ho with ⟨rfl, h0⟩ | ⟨g, cap, cells, rfl, hBg, hv, hnc, hcm, hcl, htk⟩
 ·obtain rfl : l = [] := List.eq_nil_of_length_eq_zero h0
  exact (Any.slices_Compact_int_empty zeV none 0 w).mono fun e w' h => ⟨_, h.1, by rw [h.2]; exact ho, by rw [h.2]; exact Kp.refl _ _, rfl⟩
 ·by_cases h0 : l = []
  ·subst h0
   exact (Any.slices_Compact_int_empty zeV (some ⟨g, 0, none⟩) cap w).mono fun e w' h => ⟨_, h.1, by rw [h.2]; exact ho, by rw [h.2]; exact Kp.refl _ _, rfl⟩
  have htk : cells.take l.length = l.map (Value.int .i64) := by rw [← flat1]; rw [Nat.mul_one] at htk; exact htk
  refine (Any.slices_Compact_int zeV g 0 cap l w (zfc hv htk) (by omega) hnc).mono ?_
  rintro e w' ⟨rfl, n, hw⟩
  rw [← grow_empty (putRow _ _ _ _ _)] at hw
  subst hw
  have hle : (compact l).length ≤ l.length := by
   unfold compact compactUpTo
   rw [List.length_map]
   refine Nat.le_trans (List.length_filter_le _ _) ?_
   simp
  refine ⟨_, rfl, ?_, (zfg _).mono fun q _ hq => by have hq : q = g := hq; rw [hq]; rfl, rfl⟩
  have := zmu (enc := (Value.int .i64)) (q := n) (os := #[]) ho (compact l ++ List.replicate (l.length - (compact l).length) 0) (by rw [List.length_append, List.length_replicate]; omega) (m := (compact l).length) hle
  rw [List.take_left, ← flat1] at this
  exact this
end
end Go.Proofs.YtennokckmjcefaaGreatDoor
