/- Helper text of this claim: lemmas and contracts that the proved statement rests on; no conditions of its own. -/
import Derived.Lib.Split
import Derived.Lib.SplitLaws
import Derived.Lib.IndexLaws
import Derived.Lib.IndexBytes
import Derived.Shelf.Strings.SplitCore
import Derived.Shelf.Strings.Search3
import Derived.Shelf.Strings.Count
import Derived.Test.YtcplagfblmemhaaGreatDoorGAx1
import Derived.Test.YtcplagfblmemhaaGreatDoorGCx8
namespace Go.Cx
set_option linter.unusedVariables false
open Go.Cs Go.Lib
set_option linter.unusedVariables false
section
variable {α : Type} (of : Int) (id : α → Int) (same : α → α → Bool)
def cmpD : List α → List α → List Chg
 | [], [] => []
 | a :: x, [] => ⟨of, id a, 3⟩ :: cmpD x []
 | [], b :: y => ⟨of, id b, 1⟩ :: cmpD [] y
 | a :: x, b :: y => if id a < id b then ⟨of, id a, 3⟩ :: cmpD x (b :: y) else if id b < id a then ⟨of, id b, 1⟩ :: cmpD (a :: x) y else (if same a b then [] else [⟨of, id a, 2⟩]) ++ cmpD x y
termination_by l r => l.length + r.length
def fi (l : List α) (n : Int) : Option α := l.find? fun a => decide (id a = n)
def eff : Option α → Option α → Option Int
 | none, none => none
 | none, some _ => some 1
 | some _, none => some 3
 | some a, some b => if same a b then none else some 2
variable {of id same}
theorem zcM {l : List α} {n : Int} (h : ∀ a ∈ l, n < id a) : fi id l n = none := List.find?_eq_none.2 fun a ha => by
 have := h a ha
 simp; omega
theorem zek (a : α) (l : List α) (n : Int) : fi id (a :: l) n = if id a = n then some a else fi id l n := by
 unfold fi
 rw [List.find?_cons]
 by_cases h : id a = n <;> simp [h]
abbrev AscI (id : α → Int) (l : List α) : Prop := l.Pairwise fun a b => id a < id b
def keyIs (k : Key) (c : Chg) : Bool := decide ((c.of, c.id) = k)
theorem zeL (n z w : Int) (l : List Chg) : (⟨of, z, w⟩ :: l : List Chg).filter (keyIs (of, n)) = if z = n then ⟨of, z, w⟩ :: l.filter (keyIs (of, n)) else l.filter (keyIs (of, n)) := by
 rw [List.filter_cons]
 by_cases h : z = n
 ·rw [if_pos h, if_pos (by simp [keyIs, h])]
 ·rw [if_neg h, if_neg (by simp [keyIs, h])]
def effL (of n : Int) (u : Option Int) : List Chg := (u.map fun w => (⟨of, n, w⟩ : Chg)).toList
theorem zbq (n : Int) : ∀ (l r : List α), AscI id l → AscI id r → (cmpD of id same l r).filter (keyIs (of, n)) = effL of n (eff same (fi id l n) (fi id r n))
 | [], [], _, _ => by unfold cmpD; rfl
 | a :: x, [], hl, hr => by
  obtain ⟨h1, h2⟩ := List.pairwise_cons.1 hl
  unfold cmpD
  rw [zeL, zbq n x [] h2 hr, zek]
  by_cases h : id a = n
  ·rw [if_pos h, if_pos h, zcM (l := x) (fun z hz => by have := h1 z hz; omega), h]; rfl
  ·rw [if_neg h, if_neg h]
 | [], b :: y, hl, hr => by
  obtain ⟨h1, h2⟩ := List.pairwise_cons.1 hr
  unfold cmpD
  rw [zeL, zbq n [] y hl h2, zek]
  by_cases h : id b = n
  ·rw [if_pos h, if_pos h, zcM (l := y) (fun z hz => by have := h1 z hz; omega), h]; rfl
  ·rw [if_neg h, if_neg h]
 | a :: x, b :: y, hl, hr => by
  obtain ⟨h1, h2⟩ := List.pairwise_cons.1 hl
  obtain ⟨h3, h4⟩ := List.pairwise_cons.1 hr
  unfold cmpD
  by_cases hab : id a < id b
  ·rw [if_pos hab, zeL, zbq n x (b :: y) h2 hr, zek a x]
   by_cases h : id a = n
   ·rw [if_pos h, if_pos h, zcM (l := x) (fun z hz => by have := h1 z hz; omega), zcM (l := b :: y) (fun z hz => by
     rcases List.mem_cons.1 hz with rfl | hz
     ·omega
     ·have := h3 z hz; omega), h]; rfl
   ·rw [if_neg h, if_neg h]
  ·rw [if_neg hab]
   by_cases hba : id b < id a
   ·rw [if_pos hba, zeL, zbq n (a :: x) y hl h4, zek b y]
    by_cases h : id b = n
    ·rw [if_pos h, if_pos h, zcM (l := y) (fun z hz => by have := h3 z hz; omega), zcM (l := a :: x) (fun z hz => by
      rcases List.mem_cons.1 hz with rfl | hz
      ·omega
      ·have := h1 z hz; omega), h]; rfl
    ·rw [if_neg h, if_neg h]
   ·have he : id a = id b := by omega
    rw [if_neg hba, List.filter_append, zbq n x y h2 h4, zek a x, zek b y]
    by_cases h : id a = n
    ·have hb : id b = n := he ▸ h
     rw [if_pos h, if_pos hb, zcM (l := x) (fun z hz => by have := h1 z hz; omega), zcM (l := y) (fun z hz => by have := h3 z hz; omega)]
     unfold eff
     dsimp only
     cases same a b with
     | true => rfl
     | false => simp [effL, keyIs, h]
    ·rw [if_neg h, if_neg (fun e => h (he.trans e))]
     cases same a b with
     | true => rfl
     | false => simp [keyIs, h]
termination_by l r => l.length + r.length
theorem zcU : ∀ (l r : List α), ∀ c ∈ cmpD of id same l r, c.of = of ∧ (1 ≤ c.what ∧ c.what ≤ 3) ∧ ∃ z, (z ∈ l ∨ z ∈ r) ∧ c.id = id z
 | [], [], c, h => by unfold cmpD at h; cases h
 | a :: x, [], c, h => by
  unfold cmpD at h
  rcases List.mem_cons.1 h with rfl | h
  ·exact ⟨rfl, by dsimp only; omega, a, .inl List.mem_cons_self, rfl⟩
  ·obtain ⟨h1, h2, z, h3, h4⟩ := zcU x [] c h
   exact ⟨h1, h2, z, h3.imp (List.mem_cons_of_mem _) _root_.id, h4⟩
 | [], b :: y, c, h => by
  unfold cmpD at h
  rcases List.mem_cons.1 h with rfl | h
  ·exact ⟨rfl, by dsimp only; omega, b, .inr List.mem_cons_self, rfl⟩
  ·obtain ⟨h1, h2, z, h3, h4⟩ := zcU [] y c h
   exact ⟨h1, h2, z, h3.imp _root_.id (List.mem_cons_of_mem _), h4⟩
 | a :: x, b :: y, c, h => by
  unfold cmpD at h
  split at h
  ·rcases List.mem_cons.1 h with rfl | h
   ·exact ⟨rfl, by dsimp only; omega, a, .inl List.mem_cons_self, rfl⟩
   ·obtain ⟨h1, h2, z, h3, h4⟩ := zcU x (b :: y) c h
    exact ⟨h1, h2, z, h3.imp (List.mem_cons_of_mem _) _root_.id, h4⟩
  ·split at h
   ·rcases List.mem_cons.1 h with rfl | h
    ·exact ⟨rfl, by dsimp only; omega, b, .inr List.mem_cons_self, rfl⟩
    ·obtain ⟨h1, h2, z, h3, h4⟩ := zcU (a :: x) y c h
     exact ⟨h1, h2, z, h3.imp _root_.id (List.mem_cons_of_mem _), h4⟩
   ·rcases List.mem_append.1 h with h | h
    ·split at h
     ·cases h
     ·rw [List.mem_singleton.1 h]
      exact ⟨rfl, by dsimp only; omega, a, .inl List.mem_cons_self, rfl⟩
    ·obtain ⟨h1, h2, z, h3, h4⟩ := zcU x y c h
     exact ⟨h1, h2, z, h3.imp (List.mem_cons_of_mem _) (List.mem_cons_of_mem _), h4⟩
termination_by l r => l.length + r.length
theorem zcw : ∀ (l r : List α), (cmpD of id same l r).length ≤ l.length + r.length
 | [], [] => by unfold cmpD; simp
 | a :: x, [] => by unfold cmpD; have := zcw x []; simp at this ⊢; omega
 | [], b :: y => by unfold cmpD; have := zcw [] y; simp at this ⊢; omega
 | a :: x, b :: y => by
  unfold cmpD
  split
  ·have := zcw x (b :: y); simp at this ⊢; omega
  ·split
   ·have := zcw (a :: x) y; simp at this ⊢; omega
   ·have := zcw x y
    rw [List.length_append]
    have h2 : (if same a b = true then ([] : List Chg) else [⟨of, id a, 2⟩]).length ≤ 1 := by split <;> simp
    simp only [List.length_cons]; omega
termination_by l r => l.length + r.length
end
def mailsD (A B : Acc) : List Chg := cmpD 1 Ml.id (fun a b => decide (a = b)) A.mails B.mails
def boxesD (A B : Acc) : List Chg := cmpD 2 Bx.id (fun a b => decide (a = b)) A.boxes B.boxes
def scriptsD (A B : Acc) : List Chg := if A.active ≠ B.active ∨ A.scripts ≠ B.scripts then [⟨3, 0, 2⟩] else []
def chgOf (A B : Acc) : List Chg := mailsD A B ++ boxesD A B ++ scriptsD A B
theorem zco {l : List Chg} {k : Key} (h : ∀ c ∈ l, c.of ≠ k.1) : l.filter (keyIs k) = [] := List.filter_eq_nil_iff.2 fun c hc => by
 have := h c hc
 unfold keyIs
 rw [decide_eq_true_eq]
 exact fun e => this (congrArg Prod.fst e)
theorem zdd (cs L : List Chg) (k : Key) : fate (cs ++ L) k = (L.filter (keyIs k)).foldl fstep (fate cs k) := by
 unfold fate; rw [List.filter_append, List.foldl_append]; rfl
theorem zdn {A B : Acc} : ∀ c ∈ scriptsD A B, c = ⟨3, 0, 2⟩ := fun c hc => by
 unfold scriptsD at hc
 split at hc
 ·exact List.mem_singleton.1 hc
 ·cases hc
theorem zjT {A B : Acc} (hA : GoodP A) (hB : GoodP B) (n : Int) : (chgOf A B).filter (keyIs (1, n)) = effL 1 n (eff (fun a b => decide (a = b)) (findA A.mails n) (findA B.mails n)) := by
 unfold chgOf
 rw [List.filter_append, List.filter_append, zco (l := boxesD A B) (fun c hc => by rw [(zcU _ _ c hc).1]; show ¬ (2 : Int) = 1; decide), zco (l := scriptsD A B) (fun c hc => by rw [zdn c hc]; show ¬ (3 : Int) = 1; decide), List.append_nil, List.append_nil]
 exact zbq n _ _ hA.asc hB.asc
def findB (l : List Bx) (n : Int) : Option Bx := l.find? fun b => decide (b.id = n)
theorem zqi {A B : Acc} (hA : GoodP A) (hB : GoodP B) (n : Int) : (chgOf A B).filter (keyIs (2, n)) = effL 2 n (eff (fun a b => decide (a = b)) (findB A.boxes n) (findB B.boxes n)) := by
 unfold chgOf
 rw [List.filter_append, List.filter_append, zco (l := mailsD A B) (fun c hc => by rw [(zcU _ _ c hc).1]; show ¬ (1 : Int) = 2; decide), zco (l := scriptsD A B) (fun c hc => by rw [zdn c hc]; show ¬ (3 : Int) = 2; decide), List.append_nil, List.nil_append]
 exact zbq n _ _ hA.bx.asc hB.bx.asc
theorem zgu {A B : Acc} (n : Int) : (chgOf A B).filter (keyIs (3, n)) = if n = 0 ∧ (A.active ≠ B.active ∨ A.scripts ≠ B.scripts) then [⟨3, 0, 2⟩] else [] := by
 unfold chgOf
 rw [List.filter_append, List.filter_append, zco (l := mailsD A B) (fun c hc => by rw [(zcU _ _ c hc).1]; show ¬ (1 : Int) = 3; decide), zco (l := boxesD A B) (fun c hc => by rw [(zcU _ _ c hc).1]; show ¬ (2 : Int) = 3; decide), List.nil_append, List.nil_append]
 unfold scriptsD
 by_cases h : A.active ≠ B.active ∨ A.scripts ≠ B.scripts
 ·rw [if_pos h]
  by_cases hn : n = 0
  ·rw [if_pos ⟨hn, h⟩]; subst hn; rfl
  ·rw [if_neg (fun e => hn e.1)]
   have : keyIs (3, n) ⟨3, 0, 2⟩ = false := by unfold keyIs; exact decide_eq_false (fun e => hn (by injection e with _ e; exact e.symm))
   rw [List.filter_cons, this]; rfl
 ·rw [if_neg h, if_neg (fun e => h e.2)]; rfl
theorem zio {A B : Acc} : (chgOf A B).length ≤ A.mails.length + B.mails.length + (A.boxes.length + B.boxes.length) + 1 := by
 unfold chgOf
 rw [List.length_append, List.length_append]
 have h1 := zcw (of := 1) (id := Ml.id) (same := fun a b => decide (a = b)) A.mails B.mails
 have h2 := zcw (of := 2) (id := Bx.id) (same := fun a b => decide (a = b)) A.boxes B.boxes
 have h3 : (scriptsD A B).length ≤ 1 := by unfold scriptsD; split <;> simp
 unfold mailsD boxesD
 omega
theorem znL {A B : Acc} (hA : GoodP A) (hB : GoodP B) : ∀ c ∈ chgOf A B, fineA c = true ∧ c.id < 9223372036854775808 := fun c hc => by
 unfold chgOf at hc
 have mk : ∀ {l : Int}, (1 ≤ c.of ∧ c.of ≤ 3) → (1 ≤ c.what ∧ c.what ≤ 3) → 0 ≤ c.id → fineA c = true := fun {_} h1 h2 h3 => by simp only [fineA, three, Bool.and_eq_true, decide_eq_true_eq]; omega
 rcases List.mem_append.1 hc with hc | hc
 ·rcases List.mem_append.1 hc with hc | hc
  ·obtain ⟨h1, h2, z, h3, h4⟩ := zcU _ _ c hc
   have hz : 1 ≤ z.id ∧ z.id ≤ 1099511627776 := by
    rcases h3 with h | h
    ·have := (hA.fit z h).id; have := hA.nm; have : M40 = 1099511627776 := rfl; omega
    ·have := (hB.fit z h).id; have := hB.nm; have : M40 = 1099511627776 := rfl; omega
   exact ⟨mk (l := 0) (by omega) h2 (by omega), by omega⟩
  ·obtain ⟨h1, h2, z, h3, h4⟩ := zcU _ _ c hc
   have hz : 1 ≤ z.id ∧ z.id ≤ 1099511627776 := h3.elim (hA.bx.pos z) (hB.bx.pos z)
   exact ⟨mk (l := 0) (by omega) h2 (by omega), by omega⟩
 ·rw [zdn c hc]
  exact ⟨rfl, by decide⟩
structure StepA (A B : Acc) : Prop where
 st : B.st = A.st + 1
 nm : A.nm ≤ B.nm
 len : B.mails.length ≤ A.mails.length + 1
 ml : ∀ m ∈ B.mails, m ∈ A.mails ∨ m.mod = B.st ∧ ((∃ x ∈ A.mails, x.id = m.id) ∨ A.nm ≤ m.id)
section
variable {A : Acc} {o : Opr} {r : Acc × Int}
structure StepQ (A B : Acc) : Prop where
 len : B.mails.length ≤ A.mails.length + 1
 ml : ∀ m ∈ B.mails, m ∈ A.mails ∨ m.mod = A.st ∧ ((∃ x ∈ A.mails, x.id = m.id) ∨ A.nm ≤ m.id)
theorem zbt {B : Acc} (h : B.mails = A.mails) : StepQ A B := ⟨by rw [h]; omega, fun m hm => .inl (by rw [← h]; exact hm)⟩
theorem zov (h : oneA A o = .ok r) : StepQ A r.1 := by
 unfold oneA at h
 by_cases k1 : o.kind = 1
 ·rw [if_pos k1] at h; rw [zmP h]
  refine ⟨by simp, fun m hm => ?_⟩
  rcases List.mem_append.1 hm with hm | hm
  ·exact .inl hm
  ·rw [List.mem_singleton.1 hm]; exact .inr ⟨rfl, .inr (Int.le_refl _)⟩
 rw [if_neg k1] at h
 by_cases k2 : o.kind = 2
 ·rw [if_pos k2] at h; obtain ⟨m, _, rfl⟩ := znc h
  refine ⟨by dsimp only; rw [ziV]; omega, fun x hx => ?_⟩
  rcases upd_mem hx with hx | ⟨z, hz, h1, rfl⟩
  ·exact .inl hx
  ·exact .inr ⟨rfl, .inl ⟨z, hz, rfl⟩⟩
 rw [if_neg k2] at h
 by_cases k3 : o.kind = 3
 ·rw [if_pos k3] at h; obtain ⟨m, _, rfl⟩ := zmx h
  refine ⟨by dsimp only; rw [ziV]; omega, fun x hx => ?_⟩
  rcases upd_mem hx with hx | ⟨z, hz, h1, rfl⟩
  ·exact .inl hx
  ·exact .inr ⟨rfl, .inl ⟨z, hz, rfl⟩⟩
 rw [if_neg k3] at h
 by_cases k4 : o.kind = 4
 ·rw [if_pos k4] at h; rw [zgt h]
  exact ⟨Nat.le_succ_of_le (zes _).length_le, fun m hm => .inl ((zes _).mem hm)⟩
 rw [if_neg k4] at h
 by_cases k5 : o.kind = 5
 ·rw [if_pos k5] at h; rw [(zoM h).2]; exact zbt rfl
 rw [if_neg k5] at h
 by_cases k6 : o.kind = 6
 ·rw [if_pos k6] at h; rw [(zcX h).2]; exact zbt rfl
 rw [if_neg k6] at h
 by_cases k7 : o.kind = 7
 ·rw [if_pos k7] at h; rw [(zcX h).2]; exact zbt rfl
 rw [if_neg k7] at h
 by_cases k8 : o.kind = 8
 ·rw [if_pos k8] at h; rw [(zkR h).2.2]
  refine ⟨by simp, fun m hm => ?_⟩
  obtain ⟨z, hz, rfl⟩ := List.mem_map.1 hm
  unfold outOf
  split
  ·exact .inr ⟨rfl, .inl ⟨z, hz, rfl⟩⟩
  ·exact .inl hz
 rw [if_neg k8] at h
 by_cases k9 : o.kind = 9
 ·rw [if_pos k9] at h
  refine zbt ?_
  unfold setA at h
  repeat' split at h
  all_goals first | (injection h; done) | (injection h with h; rw [← h])
 rw [if_neg k9] at h
 by_cases k10 : o.kind = 10
 ·rw [if_pos k10] at h
  refine zbt ?_
  unfold unsetA at h
  repeat' split at h
  all_goals first | (injection h; done) | (injection h with h; rw [← h])
 rw [if_neg k10] at h
 by_cases k11 : o.kind = 11
 ·rw [if_pos k11] at h
  refine zbt ?_
  unfold chooseA at h
  repeat' split at h
  all_goals first | (injection h; done) | (injection h with h; rw [← h])
 rw [if_neg k11] at h
 by_cases k12 : o.kind = 12
 ·rw [if_pos k12] at h
  refine zbt ?_
  unfold answerA at h
  repeat' split at h
  all_goals first | (injection h; done) | (injection h with h; rw [← h])
 rw [if_neg k12] at h
 cases h
theorem zkC (g : GoodP A) (h : (applyA A o).2.2 = 0) : StepA A (applyA A o).1 := by
 obtain ⟨h1, h2⟩ := znM g h
 have h3 := zko g o
 have q := zov h2
 refine ⟨h1, h3.1, q.len, fun m hm => ?_⟩
 rcases q.ml m hm with h | ⟨h4, h5⟩
 ·exact .inl h
 ·exact .inr ⟨by rw [h4, h1]; rfl, h5⟩
end
instance : Inhabited Acc := ⟨⟨[], [], [], [], [], 0, 0, 0⟩⟩
structure ChainW (W : List Acc) : Prop where
 ne : 0 < W.length
 good : ∀ t (h : t < W.length), GoodP W[t]
 step : ∀ t (h : t + 1 < W.length), StepA W[t] W[t + 1]
def notesOf (W : List Acc) : List (List Chg) := (List.range (W.length - 1)).map fun t => chgOf (W.getD t default) (W.getD (t + 1) default)
theorem zaY (W : List Acc) : (notesOf W).length = W.length - 1 := by simp [notesOf]
theorem zaI {W : List Acc} {t : Nat} (h : t < W.length) : W.getD t default = W[t] := by rw [List.getD_eq_getElem?_getD, List.getElem?_eq_getElem h, Option.getD_some]
theorem zdT {W : List Acc} {t : Nat} (h : t < (notesOf W).length) : (notesOf W)[t] = chgOf (W[t]'(by rw [zaY] at h; omega)) (W[t + 1]'(by rw [zaY] at h; omega)) := by
 have h2 := h
 rw [zaY] at h2
 simp only [notesOf, List.getElem_map, List.getElem_range]
 rw [zaI, zaI]
theorem zkh {W : List Acc} (h : 0 < W.length) (B : Acc) : notesOf (W ++ [B]) = notesOf W ++ [chgOf (W[W.length - 1]'(by omega)) B] := by
 have hg : ∀ t, t < W.length → (W ++ [B]).getD t default = W.getD t default := fun t ht => by
  rw [zaI ht, zaI (by rw [List.length_append, List.length_singleton]; omega), List.getElem_append_left ht]
 unfold notesOf
 rw [List.length_append, List.length_singleton, show W.length + 1 - 1 = (W.length - 1) + 1 by omega, List.range_succ, List.map_append]
 congr 1
 ·refine List.map_congr_left fun t ht => ?_
  have ht := List.mem_range.1 ht
  rw [hg t (by omega), hg (t + 1) (by omega)]
 ·show [chgOf ((W ++ [B]).getD (W.length - 1) default) ((W ++ [B]).getD (W.length - 1 + 1) default)] = _
  rw [hg _ (by omega), zaI (by omega), show W.length - 1 + 1 = W.length by omega]
  congr 2
  rw [zaI (by simp)]
  simp
theorem zkp {W : List Acc} (c : ChainW W) {B : Acc} (hB : GoodP B) (hs : StepA (W[W.length - 1]'(by have := c.ne; omega)) B) : ChainW (W ++ [B]) := by
 have := c.ne
 refine ⟨by simp, fun t h => ?_, fun t h => ?_⟩
 ·rw [List.length_append, List.length_singleton] at h
  by_cases ht : t < W.length
  ·rw [List.getElem_append_left ht]; exact c.good t ht
  ·rw [List.getElem_append_right (by omega)]; simpa using hB
 ·rw [List.length_append, List.length_singleton] at h
  by_cases ht : t + 1 < W.length
  ·rw [List.getElem_append_left (by omega), List.getElem_append_left ht]; exact c.step t ht
  ·have : t = W.length - 1 := by omega
   subst this
   rw [List.getElem_append_left (by omega), List.getElem_append_right (by omega)]
   simpa using hs
theorem zdc {W : List Acc} (c : ChainW W) : ∀ t (h : t < W.length), (W[t]).st = (W[0]'c.ne).st + t
 | 0, h => by simp
 | t + 1, h => by rw [(c.step t h).st, zdc c t (by omega)]; push_cast; omega
theorem zgE {W : List Acc} (c : ChainW W) {i : Nat} : ∀ j (h : j < W.length) (hij : i ≤ j), (W[i]'(by omega)).nm ≤ (W[j]).nm
 | 0, h, hij => by obtain rfl : i = 0 := (by omega); exact Int.le_refl _
 | j + 1, h, hij => by
  by_cases e : i = j + 1
  ·subst e; exact Int.le_refl _
  ·exact Int.le_trans (zgE c j (by omega) (by omega)) (c.step j h).nm
theorem zbu {W : List Acc} (c : ChainW W) (h0 : (W[0]'c.ne).mails = []) : ∀ t (h : t < W.length), (W[t]).mails.length ≤ t
 | 0, h => by rw [h0]; simp
 | t + 1, h => Nat.le_trans (c.step t h).len (Nat.succ_le_succ (zbu c h0 t (by omega)))
theorem zgr {W : List Acc} (c : ChainW W) {i : Nat} {n : Int} (hi : i < W.length) (hn : n < (W[i]).nm) (h0 : findA (W[i]).mails n = none) : ∀ j (h : j < W.length) (hij : i ≤ j), findA (W[j]).mails n = none
 | 0, h, hij => by obtain rfl : i = 0 := (by omega); exact h0
 | j + 1, h, hij => by
  by_cases e : i = j + 1
  ·subst e; exact h0
  ·have ih := zgr c hi hn h0 j (by omega) (by omega)
   refine List.find?_eq_none.2 fun m hm => ?_
   have h1 := List.find?_eq_none.1 ih
   rcases (c.step j h).ml m hm with h2 | ⟨_, ⟨x, hx, he⟩ | h2⟩
   ·exact h1 m h2
   ·have := h1 x hx
    rw [he] at this; exact this
   ·have := zgE c j (by omega) (show i ≤ j by omega)
    simp only [decide_eq_true_eq]; omega
def csOf (W : List Acc) (i j : Nat) : List Chg := (((notesOf W).take j).drop i).flatten
theorem zcy (W : List Acc) (i : Nat) : csOf W i i = [] := by
 unfold csOf
 rw [List.drop_of_length_le (by rw [List.length_take]; omega)]; rfl
theorem zer {W : List Acc} {i j : Nat} (hij : i ≤ j) (h : j + 1 < W.length) : csOf W i (j + 1) = csOf W i j ++ chgOf (W[j]'(by omega)) W[j + 1] := by
 have hl := zaY W
 have hj : j < (notesOf W).length := by omega
 unfold csOf
 rw [List.take_succ_eq_append_getElem hj, List.drop_append_of_le_length (by rw [List.length_take]; omega), List.flatten_append, zdT hj]
 simp
theorem zoY {W : List Acc} {i s j : Nat} (h1 : i ≤ s) (h2 : s ≤ j) (h : j < W.length) : csOf W i j = csOf W i s ++ csOf W s j := by
 obtain ⟨d, rfl⟩ : ∃ d, j = s + d := ⟨j - s, by omega⟩
 clear h2
 induction d with
 | zero => rw [Nat.add_zero, zcy, List.append_nil]
 | succ d ih =>
  rw [show s + (d + 1) = s + d + 1 by omega, zer (by omega) (by omega), ih (by omega), zer (by omega) (by omega), List.append_assoc]
theorem zjv {α : Type} [DecidableEq α] {u v : Option α} (h : eff (fun a b => decide (a = b)) u v = none) : u = v := by
 cases u <;> cases v <;> simp [eff] at h ⊢
 exact h
theorem zjn {α : Type} [DecidableEq α] {u v : Option α} {w : Int} (h : eff (fun a b => decide (a = b)) u v = some w) : u ≠ v ∧ decide (w ≠ 1) = u.isSome ∧ decide (w ≠ 3) = v.isSome := by
 cases u with
 | none =>
  cases v with
  | none => cases h
  | some b => injection h with h; subst h; exact ⟨by simp, rfl, rfl⟩
 | some a =>
  cases v with
  | none => injection h with h; subst h; exact ⟨by simp, rfl, rfl⟩
  | some b =>
   unfold eff at h
   dsimp only at h
   split at h
   ·cases h
   ·rename_i hne
    injection h with h; subst h; exact ⟨fun e => hne (by injection e with e; exact decide_eq_true e), rfl, rfl⟩
structure Tells {α : Type} (f : Option (Bool × Bool)) (u v : Option α) : Prop where
 no : f = none → u = v
 yes : ∀ p, f = some p → p.1 = u.isSome ∧ p.2 = v.isSome
theorem Tells.refl {α : Type} (u : Option α) : Tells none u u := ⟨fun _ => rfl, fun p h => by cases h⟩
theorem Tells.step {α : Type} [DecidableEq α] {f : Option (Bool × Bool)} {u v x : Option α} {of n : Int} (t : Tells f u v) : Tells ((effL of n (eff (fun a b => decide (a = b)) v x)).foldl fstep f) u x := by
 cases he : eff (fun a b => decide (a = b)) v x with
 | none =>
  have := zjv he
  subst this
  exact t
 | some w =>
  obtain ⟨h1, h2, h3⟩ := zjn he
  cases f with
  | none =>
   refine ⟨(fun h => by cases h), fun p hp => ?_⟩
   have hp : some (decide (w ≠ 1), decide (w ≠ 3)) = some p := hp
   injection hp with hp
   subst hp
   exact ⟨by rw [t.no rfl]; exact h2, h3⟩
  | some q =>
   refine ⟨(fun h => by cases h), fun p hp => ?_⟩
   have hp : some (q.1, decide (w ≠ 3)) = some p := hp
   injection hp with hp
   subst hp
   exact ⟨(t.yes q rfl).1, h3⟩
theorem zeN {W : List Acc} (c : ChainW W) {i : Nat} (n : Int) : ∀ j (h : j < W.length) (hij : i ≤ j), Tells (fate (csOf W i j) (1, n)) (findA (W[i]'(by omega)).mails n) (findA (W[j]).mails n)
 | 0, h, hij => by obtain rfl : i = 0 := (by omega); rw [zcy]; exact Tells.refl _
 | j + 1, h, hij => by
  by_cases e : i = j + 1
  ·subst e; rw [zcy]; exact Tells.refl _
  ·rw [zer (by omega) h, zdd, zjT (c.good j (by omega)) (c.good (j + 1) h)]
   exact (zeN c n j (by omega) (by omega)).step
theorem zlj {W : List Acc} (c : ChainW W) {i : Nat} (n : Int) : ∀ j (h : j < W.length) (hij : i ≤ j), Tells (fate (csOf W i j) (2, n)) (findB (W[i]'(by omega)).boxes n) (findB (W[j]).boxes n)
 | 0, h, hij => by obtain rfl : i = 0 := (by omega); rw [zcy]; exact Tells.refl _
 | j + 1, h, hij => by
  by_cases e : i = j + 1
  ·subst e; rw [zcy]; exact Tells.refl _
  ·rw [zer (by omega) h, zdd, zqi (c.good j (by omega)) (c.good (j + 1) h)]
   exact (zlj c n j (by omega) (by omega)).step
theorem zmJ {W : List Acc} (c : ChainW W) {i : Nat} (n : Int) : ∀ j (h : j < W.length) (hij : i ≤ j), fate (csOf W i j) (1, n) ≠ none → ∀ m, findA (W[j]).mails n = some m → (W[i]'(by omega)).st < m.mod
 | 0, h, hij => by obtain rfl : i = 0 := (by omega); rw [zcy]; exact fun h => absurd rfl h
 | j + 1, h, hij => by
  by_cases e : i = j + 1
  ·subst e; rw [zcy]; exact fun h => absurd rfl h
  ·rw [zer (by omega) h, zdd, zjT (c.good j (by omega)) (c.good (j + 1) h)]
   intro hf m hm
   have hst : (W[i]'(by omega)).st < (W[j + 1]).st := by rw [zdc c i (by omega), zdc c (j + 1) h]; omega
   cases he : eff (fun a b => decide (a = b)) (findA (W[j]'(by omega)).mails n) (findA (W[j + 1]).mails n) with
   | none =>
    rw [he] at hf
    have h2 := zjv he
    exact zmJ c n j (by omega) (by omega) hf m (by rw [h2]; exact hm)
   | some w =>
    obtain ⟨h1, _, _⟩ := zjn he
    obtain ⟨hmem, hid⟩ := zeY hm
    rcases (c.step j h).ml m hmem with h2 | ⟨h2, _⟩
    ·have := zgJ (c.good j (by omega)) h2
     rw [hid] at this
     exact absurd (this.trans hm.symm) h1
    ·rw [h2]; exact hst
structure TellsS (f : Option (Bool × Bool)) (A B : Acc) : Prop where
 no : f = none → A.active = B.active ∧ A.scripts = B.scripts
 yes : ∀ p, f = some p → p = (true, true)
theorem zgm {W : List Acc} (c : ChainW W) {i : Nat} : ∀ j (h : j < W.length) (hij : i ≤ j), TellsS (fate (csOf W i j) (3, 0)) (W[i]'(by omega)) W[j] ∧ ∀ n, n ≠ 0 → fate (csOf W i j) (3, n) = none
 | 0, h, hij => by obtain rfl : i = 0 := (by omega); rw [zcy]; exact ⟨⟨fun _ => ⟨rfl, rfl⟩, fun p h => by cases h⟩, fun _ _ => rfl⟩
 | j + 1, h, hij => by
  by_cases e : i = j + 1
  ·subst e; rw [zcy]; exact ⟨⟨fun _ => ⟨rfl, rfl⟩, fun p h => by cases h⟩, fun _ _ => rfl⟩
  ·obtain ⟨t1, t2⟩ := zgm c j (by omega) (show i ≤ j by omega)
   rw [zer (by omega) h]
   refine ⟨?_, fun n hn => ?_⟩
   ·rw [zdd, zgu]
    by_cases hd : (W[j]'(by omega)).active ≠ (W[j + 1]).active ∨ (W[j]'(by omega)).scripts ≠ (W[j + 1]).scripts
    ·rw [if_pos ⟨rfl, hd⟩]
     refine ⟨(fun h => by cases h), fun p hp => ?_⟩
     cases hf : fate (csOf W i j) (3, 0) with
     | none =>
      rw [hf] at hp
      have hp : some (true, true) = some p := hp
      injection hp with hp
      exact hp.symm
     | some q =>
      rw [hf] at hp
      have hp : some (q.1, true) = some p := hp
      injection hp with hp
      rw [← hp, t1.yes q hf]
    ·rw [if_neg (fun h => hd h.2)]
     have e1 : (W[j]'(by omega)).active = (W[j + 1]).active := Classical.byContradiction fun h => hd (.inl h)
     have e2 : (W[j]'(by omega)).scripts = (W[j + 1]).scripts := Classical.byContradiction fun h => hd (.inr h)
     exact ⟨fun hf => by obtain ⟨a, b⟩ := t1.no hf; exact ⟨a.trans e1, b.trans e2⟩, t1.yes⟩
   ·rw [zdd, zgu, if_neg (fun h => hn h.1)]
    exact t2 n hn
def bookA (kept : Int) (W : List Acc) : Bk := ⟨(W.getD 0 default).st + (notesOf W).length, kept, (notesOf W).drop ((notesOf W).length - min (notesOf W).length kept.toNat)⟩
theorem zjS (kept : Int) (W : List Acc) : (bookA kept W).notes.length = min (notesOf W).length kept.toNat := by
 unfold bookA; rw [List.length_drop]; omega
theorem zkH (kept : Int) (W : List Acc) : firstA (bookA kept W) = (W.getD 0 default).st + (notesOf W).length - (min (notesOf W).length kept.toNat : Nat) := by
 unfold firstA; rw [zjS]; rfl
theorem zhx {kept : Int} {W : List Acc} (c : ChainW W) {B : Acc} (hB : GoodP B) (hs : StepA (W[W.length - 1]'(by have := c.ne; omega)) B) (hk : 1 ≤ kept) (hlen : (chgOf (W[W.length - 1]'(by have := c.ne; omega)) B).length ≤ 65536) :
  noteA (bookA kept W) B.st (chgOf (W[W.length - 1]'(by have := c.ne; omega)) B) = (0, bookA kept (W ++ [B])) := by
 have hne := c.ne
 have hnl := zaY W
 have hst0 : (bookA kept W).state = (W[W.length - 1]'(by omega)).st := by
  show (W.getD 0 default).st + ((notesOf W).length : Int) = _
  rw [zdc c (W.length - 1) (by omega), zaI hne, hnl]
 have htop := hB.top
 have hM : M40 = 1099511627776 := rfl
 have hg := c.good (W.length - 1) (by omega)
 have hBst := hs.st
 unfold noteA
 rw [if_neg (fun e => by rcases e with e | e <;> omega), if_neg (fun e => by
  rcases e with e | e
  ·omega
  ·obtain ⟨x, hx, h⟩ := List.any_eq_true.1 e
   rw [(znL hg hB x hx).1] at h; cases h)]
 have hsn := zkh hne B
 have hbl := zjS kept W
 rw [hbl]
 have hbn : (bookA kept W).notes = (notesOf W).drop ((notesOf W).length - min (notesOf W).length kept.toNat) := rfl
 rw [hbn]
 obtain ⟨N, hN⟩ : ∃ N, notesOf W = N := ⟨_, rfl⟩
 obtain ⟨x, hx⟩ : ∃ x, chgOf (W[W.length - 1]'(by omega)) B = x := ⟨_, rfl⟩
 rw [hx] at hsn ⊢
 unfold bookA at hst0 ⊢
 dsimp only at hst0 ⊢
 rw [hN] at hsn hst0 hnl ⊢
 rw [hsn, List.length_append, List.length_singleton]
 have hg0 : (W ++ [B]).getD 0 default = W.getD 0 default := by
  rw [zaI hne, zaI (by simp), List.getElem_append_left hne]
 rw [hg0]
 congr 2
 ·rw [← hst0] at hBst; push_cast; omega
 ·have hN0 : min N.length kept.toNat ≤ N.length := Nat.min_le_left _ _
  split
  ·rename_i hlt
   have h1 : min N.length kept.toNat = kept.toNat := by omega
   have h2 : min (N.length + 1) kept.toNat = kept.toNat := by omega
   rw [h1, h2, ← List.drop_append_of_le_length (by omega), ← List.drop_one, List.drop_drop]
   congr 1; omega
  ·rename_i hlt
   have h1 : min N.length kept.toNat = N.length := by omega
   have h2 : min (N.length + 1) kept.toNat = N.length + 1 := by omega
   rw [h1, h2, Nat.sub_self, Nat.sub_self]; rfl
theorem zgy {kept : Int} {W : List Acc} (c : ChainW W) (hk : 1 ≤ kept) {i : Nat} (hi : i < W.length) {of : Int} (h1 : 1 ≤ of) (h3 : of ≤ 3) :
  sinceA (bookA kept W) (W[i]).st of = if kept < ((W.length - 1 - i : Nat) : Int) then (⟨[], [], [], 0⟩, 18) else (⟨netA (csOf W i (W.length - 1)) of false true, netA (csOf W i (W.length - 1)) of true true, netA (csOf W i (W.length - 1)) of true false, (W[W.length - 1]'(by omega)).st⟩, 0) := by
 have hne := c.ne
 have hnl := zaY W
 have hsti := zdc c i hi
 have hstn := zdc c (W.length - 1) (by omega)
 have hst0 : (bookA kept W).state = (W[W.length - 1]'(by omega)).st := by
  show (W.getD 0 default).st + ((notesOf W).length : Int) = _
  rw [hstn, zaI hne, hnl]
 have hf := zkH kept W
 rw [zaI hne] at hf
 unfold sinceA
 rw [if_neg (by omega), if_neg (by rw [hst0, hstn, hsti]; omega)]
 by_cases hold : kept < ((W.length - 1 - i : Nat) : Int)
 ·rw [if_pos hold, if_pos (by rw [hf, hsti, hnl]; omega)]
 ·rw [if_neg hold, if_neg (by rw [hf, hsti, hnl]; omega)]
  dsimp only
  have hd : ((bookA kept W).notes.drop ((W[i]).st - firstA (bookA kept W)).toNat).flatten = csOf W i (W.length - 1) := by
   show (((notesOf W).drop ((notesOf W).length - min (notesOf W).length kept.toNat)).drop _).flatten = _
   unfold csOf
   rw [List.take_of_length_le (by omega), List.drop_drop, hf, hsti]
   congr 2; omega
  rw [hd, hst0]
theorem zbk {cs : List Chg} {of n : Int} {a b : Bool} : n ∈ netA cs of a b ↔ fate cs (of, n) = some (a, b) := by
 unfold netA
 rw [List.mem_filter, decide_eq_true_eq, zmZ]
 exact ⟨fun h => h.2, fun h => ⟨zhq.1 (by rw [h]; simp), h⟩⟩
theorem zin (cs : List Chg) (of : Int) (a b : Bool) : AscB ltI (netA cs of a b) := by
 unfold netA
 rw [zgS]
 exact zej _ (zbV stoI _)
theorem zgW {l : List Ml} (h : l.Pairwise fun x y => x.id < y.id) (p : Ml → Bool) : AscB ltI ((l.filter p).map (·.id)) := by
 unfold AscB
 rw [List.pairwise_map]
 exact (h.filter p).imp fun h => decide_eq_true h
theorem zel {α : Type} (p : α → Bool) : ∀ l : List α, (l.filter p).length + (l.filter fun a => !p a).length = l.length
 | [] => rfl
 | a :: l => by
  have := zel p l
  rw [List.filter_cons, List.filter_cons, List.length_cons]
  cases h : p a <;> simp <;> omega
structure FollowsP (old now : Acc) (M C G : List Int) : Prop where
 made : ∀ m ∈ now.mails, (m.id ∈ M ↔ findA old.mails m.id = none)
 gone : ∀ m ∈ now.mails, m.id ∉ G
 had : ∀ m ∈ now.mails, m.id ∈ C → findA old.mails m.id ≠ none
 same : ∀ m ∈ now.mails, m.id ∉ C → ∀ x, findA old.mails m.id = some x → x = m
 diff : ∀ m ∈ now.mails, m.id ∈ C → ∀ x, findA old.mails m.id = some x → x.mod ≠ m.mod
 cOld : (now.mails.filter fun m => (findA old.mails m.id).isSome).length + G.length = old.mails.length
 cNow : M.length + (now.mails.filter fun m => (findA old.mails m.id).isSome).length = now.mails.length
theorem follows {W : List Acc} (c : ChainW W) {i : Nat} (hi : i < W.length) : FollowsP W[i] (W[W.length - 1]'(by omega)) (netA (csOf W i (W.length - 1)) 1 false true) (netA (csOf W i (W.length - 1)) 1 true true) (netA (csOf W i (W.length - 1)) 1 true false) := by
 have hl : W.length - 1 < W.length := by omega
 have ht := fun n => zeN c n (W.length - 1) hl (show i ≤ W.length - 1 by omega)
 have hm := fun n => zmJ c n (W.length - 1) hl (show i ≤ W.length - 1 by omega)
 obtain ⟨cs, hcs⟩ : ∃ cs, csOf W i (W.length - 1) = cs := ⟨_, rfl⟩
 have go := c.good i hi
 have gn := c.good _ hl
 rw [hcs]
 obtain ⟨old, ho⟩ : ∃ old, W[i] = old := ⟨_, rfl⟩
 obtain ⟨now, hn⟩ : ∃ now, W[W.length - 1] = now := ⟨_, rfl⟩
 rw [hn] at gn ⊢
 rw [ho] at go ⊢
 have ht : ∀ n, Tells (fate cs (1, n)) (findA old.mails n) (findA now.mails n) := fun n => by have := ht n; rw [ho, hn, hcs] at this; exact this
 have hm : ∀ n, fate cs (1, n) ≠ none → ∀ m, findA now.mails n = some m → old.st < m.mod := fun n h m h2 => by have := hm n (by rw [hcs]; exact h) m (by rw [hn]; exact h2); rw [ho] at this; exact this
 have hf : ∀ m ∈ now.mails, findA now.mails m.id = some m := fun m hm => zgJ gn hm
 have hfo : ∀ m ∈ old.mails, findA old.mails m.id = some m := fun m hm => zgJ go hm
 have key : ∀ m ∈ now.mails, fate cs (1, m.id) = none ∧ findA old.mails m.id = some m ∨ fate cs (1, m.id) = some ((findA old.mails m.id).isSome, true) := fun m hmm => by
  cases h : fate cs (1, m.id) with
  | none => exact .inl ⟨rfl, by rw [(ht m.id).no h]; exact hf m hmm⟩
  | some p =>
   obtain ⟨h1, h2⟩ := (ht m.id).yes p h
   rw [hf m hmm] at h2
   obtain ⟨p1, p2⟩ := p
   exact .inr (by dsimp only at h1 h2; rw [h1, h2]; rfl)
 have keyO : ∀ m ∈ old.mails, fate cs (1, m.id) = none ∧ findA now.mails m.id = some m ∨ fate cs (1, m.id) = some (true, (findA now.mails m.id).isSome) := fun m hmm => by
  cases h : fate cs (1, m.id) with
  | none => exact .inl ⟨rfl, by rw [← (ht m.id).no h]; exact hfo m hmm⟩
  | some p =>
   obtain ⟨h1, h2⟩ := (ht m.id).yes p h
   rw [hfo m hmm] at h1
   obtain ⟨p1, p2⟩ := p
   exact .inr (by dsimp only at h1 h2; rw [h1, h2]; rfl)
 have hsome : ∀ n, (findA now.mails n).isSome = true ↔ ∃ m ∈ now.mails, m.id = n := fun n => by
  unfold findA
  rw [List.find?_isSome]
  simp
 have hsomeO : ∀ n, (findA old.mails n).isSome = true ↔ ∃ m ∈ old.mails, m.id = n := fun n => by
  unfold findA
  rw [List.find?_isSome]
  simp
 have hG : netA cs 1 true false = ((old.mails.filter fun m => !(findA now.mails m.id).isSome).map (·.id)) := by
  refine zcx stoI _ _ (zin _ _ _ _) (zgW go.asc _) fun z => ?_
  rw [zbk, List.mem_map]
  constructor
  ·intro h
   obtain ⟨h1, h2⟩ := (ht z).yes _ h
   obtain ⟨m, hmm, rfl⟩ := (hsomeO z).1 h1.symm
   exact ⟨m, List.mem_filter.2 ⟨hmm, by rw [← h2]; rfl⟩, rfl⟩
  ·rintro ⟨m, hmm, rfl⟩
   obtain ⟨h1, h2⟩ := List.mem_filter.1 hmm
   rcases keyO m h1 with ⟨_, h3⟩ | h3
   ·rw [h3] at h2; cases h2
   ·rw [h3]; simp only [Bool.not_eq_true'] at h2; rw [h2]
 have hM : netA cs 1 false true = ((now.mails.filter fun m => !(findA old.mails m.id).isSome).map (·.id)) := by
  refine zcx stoI _ _ (zin _ _ _ _) (zgW gn.asc _) fun z => ?_
  rw [zbk, List.mem_map]
  constructor
  ·intro h
   obtain ⟨h1, h2⟩ := (ht z).yes _ h
   obtain ⟨m, hmm, rfl⟩ := (hsome z).1 h2.symm
   exact ⟨m, List.mem_filter.2 ⟨hmm, by rw [← h1]; rfl⟩, rfl⟩
  ·rintro ⟨m, hmm, rfl⟩
   obtain ⟨h1, h2⟩ := List.mem_filter.1 hmm
   rcases key m h1 with ⟨_, h3⟩ | h3
   ·rw [h3] at h2; cases h2
   ·rw [h3]; simp only [Bool.not_eq_true'] at h2; rw [h2]
 have hC : ((now.mails.filter fun m => (findA old.mails m.id).isSome).map (·.id)) = ((old.mails.filter fun m => (findA now.mails m.id).isSome).map (·.id)) := by
  refine zcx stoI _ _ (zgW gn.asc _) (zgW go.asc _) fun z => ?_
  simp only [List.mem_map, List.mem_filter]
  constructor
  ·rintro ⟨m, ⟨h1, h2⟩, rfl⟩
   obtain ⟨x, hx, he⟩ := (hsomeO m.id).1 h2
   exact ⟨x, ⟨hx, by rw [he, hf m h1]; rfl⟩, he⟩
  ·rintro ⟨m, ⟨h1, h2⟩, rfl⟩
   obtain ⟨x, hx, he⟩ := (hsome m.id).1 h2
   exact ⟨x, ⟨hx, by rw [he, hfo m h1]; rfl⟩, he⟩
 have hCl := congrArg List.length hC
 rw [List.length_map, List.length_map] at hCl
 refine ⟨fun m hmm => ?_, fun m hmm => ?_, fun m hmm h => ?_, fun m hmm h x hx => ?_, fun m hmm h x hx => ?_, ?_, ?_⟩
 ·rw [zbk]
  rcases key m hmm with ⟨h1, h2⟩ | h1
  ·rw [h1, h2]; simp
  ·rw [h1]; cases findA old.mails m.id <;> simp
 ·rw [zbk]
  rcases key m hmm with ⟨h1, h2⟩ | h1
  ·rw [h1]; simp
  ·rw [h1]; simp
 ·rw [zbk] at h
  have := ((ht m.id).yes _ h).1
  intro e; rw [e] at this; cases this
 ·rw [zbk] at h
  rcases key m hmm with ⟨h1, h2⟩ | h1
  ·rw [h2] at hx; injection hx with hx; exact hx.symm
  ·rw [hx] at h1; exact absurd h1 h
 ·rw [zbk] at h
  have h1 := hm m.id (by rw [h]; simp) m (hf m hmm)
  obtain ⟨h2, _⟩ := zeY hx
  have := (go.fit x h2).mod
  omega
 ·rw [hG, List.length_map, hCl]
  exact zel _ _
 ·rw [hM, List.length_map, Nat.add_comm]
  exact zel _ _
structure BoxesP (old now : Acc) (M C G M3 C3 G3 : List Int) : Prop where
 made : ∀ b ∈ now.boxes, (b.id ∈ M ↔ findB old.boxes b.id = none)
 same : ∀ b ∈ now.boxes, ∀ x, findB old.boxes b.id = some x → b.id ∉ C → x = b
 gone : ∀ b ∈ old.boxes, (b.id ∈ G ↔ findB now.boxes b.id = none)
 m3 : M3 = []
 g3 : G3 = []
 c3 : C3 = [] ∧ old.active = now.active ∧ old.scripts = now.scripts ∨ C3 = [0]
theorem zfE {A : Acc} (g : GoodP A) {b : Bx} (h : b ∈ A.boxes) : findB A.boxes b.id = some b := by
 have hp := List.pairwise_iff_getElem.1 g.bx.asc
 obtain ⟨i, hi, rfl⟩ := List.getElem_of_mem h
 unfold findB
 have : A.boxes.find? (fun x => decide (x.id = A.boxes[i].id)) ≠ none := by
  rw [ne_eq, List.find?_eq_none]
  intro hh
  exact hh _ h (by simp)
 cases hf : A.boxes.find? (fun x => decide (x.id = A.boxes[i].id)) with
 | none => exact absurd hf this
 | some x =>
  have h1 := List.mem_of_find?_eq_some hf
  have h2 := List.find?_some hf
  obtain ⟨j, hj, rfl⟩ := List.getElem_of_mem h1
  simp only [decide_eq_true_eq] at h2
  rcases Nat.lt_trichotomy i j with h | rfl | h
  ·have := hp i j hi hj h; omega
  ·rfl
  ·have := hp j i hj hi h; omega
theorem zlL {W : List Acc} (c : ChainW W) {i : Nat} (hi : i < W.length) : BoxesP W[i] (W[W.length - 1]'(by omega)) (netA (csOf W i (W.length - 1)) 2 false true) (netA (csOf W i (W.length - 1)) 2 true true) (netA (csOf W i (W.length - 1)) 2 true false)
  (netA (csOf W i (W.length - 1)) 3 false true) (netA (csOf W i (W.length - 1)) 3 true true) (netA (csOf W i (W.length - 1)) 3 true false) := by
 have hl : W.length - 1 < W.length := by omega
 have ht := fun n => zlj c n (W.length - 1) hl (show i ≤ W.length - 1 by omega)
 obtain ⟨s1, s2⟩ := zgm c (W.length - 1) hl (show i ≤ W.length - 1 by omega)
 have go := c.good i hi
 have gn := c.good _ hl
 have e3 : ∀ n a b, n ∈ netA (csOf W i (W.length - 1)) 3 a b → n = 0 ∧ (a, b) = (true, true) := fun n a b h => by
  rw [zbk] at h
  have h0 : n = 0 := Classical.byContradiction fun hn => by rw [s2 n hn] at h; cases h
  subst h0
  exact ⟨rfl, s1.yes _ h⟩
 have nil_of : ∀ {l : List Int}, (∀ n, n ∉ l) → l = [] := fun h => List.eq_nil_iff_forall_not_mem.2 h
 refine ⟨fun b hb => ?_, fun b hb x hx h => ?_, fun b hb => ?_, nil_of fun n h => ?_, nil_of fun n h => ?_, ?_⟩
 ·rw [zbk]
  have t := ht b.id
  rw [zfE gn hb] at t
  cases h : fate (csOf W i (W.length - 1)) (2, b.id) with
  | none => rw [t.no h]; simp
  | some p =>
   obtain ⟨p1, p2⟩ := p
   obtain ⟨h1, h2⟩ := t.yes _ h
   dsimp only at h1 h2
   rw [h1, h2]
   cases findB (W[i]).boxes b.id <;> simp
 ·rw [zbk] at h
  have t := ht b.id
  rw [zfE gn hb, hx] at t
  cases hf : fate (csOf W i (W.length - 1)) (2, b.id) with
  | none => have := t.no hf; injection this
  | some p =>
   obtain ⟨p1, p2⟩ := p
   obtain ⟨h1, h2⟩ := t.yes _ hf
   dsimp only at h1 h2
   rw [hf, h1, h2] at h
   exact absurd rfl h
 ·rw [zbk]
  have t := ht b.id
  rw [zfE go hb] at t
  cases h : fate (csOf W i (W.length - 1)) (2, b.id) with
  | none => rw [← t.no h]; simp
  | some p =>
   obtain ⟨p1, p2⟩ := p
   obtain ⟨h1, h2⟩ := t.yes _ h
   dsimp only at h1 h2
   rw [h1, h2]
   cases findB (W[W.length - 1]).boxes b.id <;> simp
 ·have := (e3 n _ _ h).2; cases this
 ·have := (e3 n _ _ h).2; cases this
 ·cases hf : fate (csOf W i (W.length - 1)) (3, 0) with
  | none =>
   obtain ⟨h1, h2⟩ := s1.no hf
   refine .inl ⟨nil_of fun n h => ?_, h1, h2⟩
   obtain ⟨rfl, _⟩ := e3 n _ _ h
   rw [zbk, hf] at h; cases h
  | some p =>
   have := s1.yes p hf
   subst this
   refine .inr (zcx stoI _ _ (zin _ _ _ _) (List.pairwise_singleton _ _) fun z => ?_)
   rw [List.mem_singleton]
   exact ⟨fun h => (e3 z _ _ h).1, fun h => by subst h; rw [zbk]; exact hf⟩
def compF (f : Option (Bool × Bool)) : Option (Bool × Bool) → Option (Bool × Bool)
 | none => f
 | some q => some (match f with | none => q.1 | some p => p.1, q.2)
theorem zmM (f : Option (Bool × Bool)) (L : List Chg) : L.foldl fstep f = compF f (L.foldl fstep none) := by
 induction L using snocInd with
 | h0 => rfl
 | hs L c ih =>
  rw [List.foldl_append, List.foldl_append, ih]
  cases List.foldl fstep none L with
  | none => cases f <;> rfl
  | some q => cases f <;> rfl
theorem zlh {W : List Acc} {i s j : Nat} (h1 : i ≤ s) (h2 : s ≤ j) (h : j < W.length) (k : Key) : fate (csOf W i j) k = compF (fate (csOf W i s) k) (fate (csOf W s j) k) := by
 rw [zoY h1 h2 h, zdd, zmM]
 rfl
def has3 (f : Option (Bool × Bool)) (a b : Bool) : Bool := decide (f = some (a, b))
theorem chains {W : List Acc} (c : ChainW W) {i s : Nat} (h1 : i ≤ s) (h2 : s < W.length) (n : Int) :
  let fa := fate (csOf W i s) (1, n); let fb := fate (csOf W s (W.length - 1)) (1, n); let fc := fate (csOf W i (W.length - 1)) (1, n)
  ((has3 fa false true && !has3 fb true false || has3 fb false true) = has3 fc false true) ∧ ((has3 fa true false || has3 fb true false && !has3 fa false true) = has3 fc true false) ∧
   ((has3 fa true true && !has3 fb true false || has3 fb true true && !has3 fa false true) = has3 fc true true) := by
 intro fa fb fc
 have hl : W.length - 1 < W.length := by omega
 have ta : Tells fa (findA (W[i]'(by omega)).mails n) (findA (W[s]).mails n) := zeN c n s h2 h1
 have tb : Tells fb (findA (W[s]).mails n) (findA (W[W.length - 1]).mails n) := zeN c n _ hl (by omega)
 have hc : fc = compF fa fb := zlh h1 (by omega) hl (1, n)
 have hgone : fa = some (true, false) → fb ≠ some (false, true) := fun e1 e2 => by
  obtain ⟨x1, x2⟩ := ta.yes _ e1
  obtain ⟨y1, y2⟩ := tb.yes _ e2
  dsimp only at x1 x2 y1 y2
  have hn : findA (W[s]).mails n = none := by cases h : findA (W[s]).mails n with | none => rfl | some z => rw [h] at x2; cases x2
  have hlt : n < (W[s]).nm := by
   cases h : findA (W[i]'(by omega)).mails n with
   | none => rw [h] at x1; cases x1
   | some z =>
    obtain ⟨hz, he⟩ := zeY h
    have := ((c.good i (by omega)).fit z hz).id
    have := zgE c s h2 h1
    omega
  rw [zgr c h2 hlt hn _ hl (by omega)] at y2
  cases y2
 rw [hc]
 clear hc
 clear_value fc
 cases ha : fa with
 | none =>
  cases hb : fb with
  | none => decide
  | some q => obtain ⟨q1, q2⟩ := q; cases q1 <;> cases q2 <;> decide
 | some p =>
  obtain ⟨p1, p2⟩ := p
  cases hb : fb with
  | none => cases p1 <;> cases p2 <;> decide
  | some q =>
   obtain ⟨q1, q2⟩ := q
   have e : p2 = q1 := ((ta.yes _ ha).2).trans ((tb.yes _ hb).1).symm
   subst e
   cases p1 <;> cases p2 <;> cases q2 <;> first | decide | exact absurd hb (hgone ha)
end Go.Cx
namespace Go.Proofs.YtcplagfblmemhaaGreatDoor
set_option linter.unusedVariables false
open Go.RowKit Go.Pw Go.Vc Go.Cs Go.Lib
set_option linter.unusedVariables false
set_option maxRecDepth 100000
section
end
end Go.Proofs.YtcplagfblmemhaaGreatDoor
namespace Go.Cs
set_option linter.unusedVariables false
open Go.Lib
set_option linter.unusedVariables false
end Go.Cs
namespace Go.Proofs.YtcplagfblmemhaaGreatDoor
set_option linter.unusedVariables false
open Go.RowKit Go.Pw Go.Vc Go.Cs Go.Lib
set_option linter.unusedVariables false
set_option maxRecDepth 100000
section
end
section
end
section
end
end Go.Proofs.YtcplagfblmemhaaGreatDoor
