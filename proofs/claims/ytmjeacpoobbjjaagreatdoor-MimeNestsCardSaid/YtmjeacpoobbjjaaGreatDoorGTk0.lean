/- Helper lemmas that the proved statement rests on; no conditions of their own. -/
import Derived.Lib.Strings
import Derived.Lib.IndexMore
import Derived.Lib.SlTrimSet
import Derived.Lib.Replace
import Derived.Lib.LastIndexByte
import Derived.Lib.Bytealg
import Derived.Shelf.Strings.BuilderK
import Derived.Shelf.Strings.BuilderRune
import Derived.Shelf.Small.Utf8
import Derived.Shelf.Unicode.DecodeAny
import Derived.Shelf.Unicode.ValidAny
import Derived.Laws.RangeString
import Derived.Test.YtmjeacpoobbjjaaGreatDoorGKit10
set_option linter.unusedVariables false
set_option maxRecDepth 100000
namespace Go.Tk
open Go Go.Cs
abbrev Tkn := Nat × List UInt8
def blankT (c : UInt8) : Bool := c == 9 || c == 10 || c == 13 || c == 32
def specT : List UInt8 := [40, 41, 60, 62, 91, 93, 58, 59, 64, 92, 44, 46, 34]
def atomT (c : UInt8) : Bool := decide (32 < c.toNat) && c != 127 && !specT.contains c
def rowT (p : UInt8 → Bool) : List UInt8 → Nat
 | [] => 0
 | c :: r => if p c = true then rowT p r + 1 else 0
theorem zdq (p : UInt8 → Bool) : ∀ s, rowT p s ≤ s.length
 | [] => Nat.le_refl _
 | c :: r => by unfold rowT; split <;> simp [zdq p r]
theorem zgY {p : UInt8 → Bool} {c : UInt8} {r : List UInt8} (h : p c = true) : 0 < rowT p (c :: r) := by unfold rowT; rw [if_pos h]; omega
def closeL (cl : UInt8) : List UInt8 → Nat → Option Nat
 | [], _ => none
 | c :: r, d => if c = 92 then (match r with | [] => none | _ :: r => (closeL cl r d).map (· + 2)) else if c = cl then (if d = 1 then some 1 else (closeL cl r (d - 1)).map (· + 1)) else if c = 40 ∧ cl = 41 then (closeL cl r (d + 1)).map (· + 1) else (closeL cl r d).map (· + 1)
theorem zcd (cl : UInt8) : ∀ (m : Nat) (s : List UInt8) (d n : Nat), s.length ≤ m → closeL cl s d = some n → 0 < n ∧ n ≤ s.length := by
 intro m
 induction m with
 | zero =>
  intro s d n hm h
  cases s with
  | nil => unfold closeL at h; cases h
  | cons c r => simp at hm
 | succ m ih =>
  intro s d n hm h
  cases s with
  | nil => unfold closeL at h; cases h
  | cons c r =>
   rw [List.length_cons] at hm ⊢
   unfold closeL at h
   split at h
   ·cases r with
    | nil => cases h
    | cons c2 r2 =>
     obtain ⟨k, hk, e⟩ := Option.map_eq_some_iff.1 h
     rw [List.length_cons] at hm ⊢
     have := ih r2 d k (by omega) hk
     omega
   ·split at h
    ·split at h
     ·injection h with h; omega
     ·obtain ⟨k, hk, e⟩ := Option.map_eq_some_iff.1 h
      have := ih r _ k (by omega) hk
      omega
    ·split at h
     ·obtain ⟨k, hk, e⟩ := Option.map_eq_some_iff.1 h
      have := ih r _ k (by omega) hk
      omega
     ·obtain ⟨k, hk, e⟩ := Option.map_eq_some_iff.1 h
      have := ih r _ k (by omega) hk
      omega
def cloT (k : Nat) (cl : UInt8) (c : UInt8) (r : List UInt8) : Nat × Nat :=
 match closeL cl r 1 with
 | some n => (k, n + 1)
 | none => (7, r.length + 1)
def frontT : List UInt8 → Nat × Nat
 | [] => (7, 0)
 | c :: r => if blankT c = true then (6, rowT blankT (c :: r)) else if c = 40 then cloT 3 41 c r else if c = 34 then cloT 2 34 c r else if c = 91 then cloT 5 93 c r else if specT.contains c = true then (4, 1) else if atomT c = true then (1, rowT atomT (c :: r)) else (7, 1)
theorem zgg (k : Nat) (cl c : UInt8) (r : List UInt8) : 0 < (cloT k cl c r).2 ∧ (cloT k cl c r).2 ≤ r.length + 1 := by
 unfold cloT
 cases h : closeL cl r 1 with
 | none => exact ⟨by simp, by simp⟩
 | some n => have := zcd cl _ r 1 n (Nat.le_refl _) h; dsimp only; omega
theorem zcj (c : UInt8) (r : List UInt8) : 0 < (frontT (c :: r)).2 ∧ (frontT (c :: r)).2 ≤ r.length + 1 := by
 show 0 < (if _ then _ else _ : Nat × Nat).2 ∧ (if _ then _ else _ : Nat × Nat).2 ≤ _
 by_cases h1 : blankT c = true
 ·rw [if_pos h1]; exact ⟨zgY h1, zdq _ _⟩
 rw [if_neg h1]
 by_cases h2 : c = 40
 ·rw [if_pos h2]; exact zgg ..
 rw [if_neg h2]
 by_cases h3 : c = 34
 ·rw [if_pos h3]; exact zgg ..
 rw [if_neg h3]
 by_cases h4 : c = 91
 ·rw [if_pos h4]; exact zgg ..
 rw [if_neg h4]
 by_cases h5 : specT.contains c = true
 ·rw [if_pos h5]; simp
 rw [if_neg h5]
 by_cases h6 : atomT c = true
 ·rw [if_pos h6]; exact ⟨zgY h6, zdq _ _⟩
 ·rw [if_neg h6]; simp
def scanF : Nat → List UInt8 → List Tkn
 | 0, _ => []
 | k + 1, s => if s = [] then [] else ((frontT s).1, s.take (frontT s).2) :: scanF k (s.drop (frontT s).2)
def scanT (s : List UInt8) : List Tkn := scanF s.length s
theorem ziX : ∀ (k : Nat) (s : List UInt8), s.length ≤ k → scanF (k + 1) s = scanF k s := by
 intro k
 induction k with
 | zero => intro s h; rw [List.eq_nil_of_length_eq_zero (Nat.le_zero.1 h)]; rfl
 | succ k ih =>
  intro s h
  cases s with
  | nil => rfl
  | cons c r =>
   have hf := zcj c r
   rw [List.length_cons] at h
   have hl : ((c :: r).drop (frontT (c :: r)).2).length ≤ k := by rw [List.length_drop, List.length_cons]; omega
   show _ :: scanF (k + 1) _ = _ :: scanF k _
   rw [ih _ hl]
theorem zeb (s : List UInt8) : ∀ j, scanF (s.length + j) s = scanF s.length s
 | 0 => rfl
 | j + 1 => by rw [← Nat.add_assoc, ziX _ _ (by omega), zeb s j]
theorem zhQ {s : List UInt8} (h : s ≠ []) : scanT s = ((frontT s).1, s.take (frontT s).2) :: scanT (s.drop (frontT s).2) := by
 cases s with
 | nil => exact (h rfl).elim
 | cons c r =>
  have hf := zcj c r
  have hl : ((c :: r).drop (frontT (c :: r)).2).length ≤ r.length := by rw [List.length_drop, List.length_cons]; omega
  show _ :: scanF r.length _ = _ :: scanF _ _
  obtain ⟨j, hj⟩ : ∃ j, r.length = ((c :: r).drop (frontT (c :: r)).2).length + j := ⟨_, (Nat.add_sub_cancel' hl).symm⟩
  rw [hj, zeb]
theorem zjj : scanT [] = [] := rfl
def bareT (l : List Tkn) : List Tkn := l.filter fun t => t.1 != 6 && t.1 != 3
def joinT (l : List Tkn) : List UInt8 := l.flatMap (·.2)
def valF : Bool → List UInt8 → List UInt8
 | _, [] => []
 | true, c :: r => c :: valF false r
 | false, c :: r => if c = 92 then valF true r else if c ≠ 10 ∧ c ≠ 13 then c :: valF false r else valF false r
def valueT (t : Tkn) : List UInt8 := if (t.1 ≠ 2 ∧ t.1 ≠ 3) ∨ t.2.length < 2 then t.2 else valF false ((t.2.drop 1).take (t.2.length - 2))
theorem zcb : ∀ (e : Bool) (s : List UInt8), (valF e s).length ≤ s.length
 | _, [] => by unfold valF; simp
 | true, c :: r => by unfold valF; have := zcb false r; simp; omega
 | false, c :: r => by
  unfold valF
  split
  ·have := zcb true r; simp; omega
  split
  ·have := zcb false r; simp; omega
  ·have := zcb false r; simp; omega
theorem zes (t : Tkn) : (valueT t).length ≤ t.2.length := by
 unfold valueT
 split
 ·exact Nat.le_refl _
 ·have := zcb false ((t.2.drop 1).take (t.2.length - 2))
  rw [List.length_take, List.length_drop] at this
  omega
theorem zix : ∀ (k : Nat) (s : List UInt8), ((scanF k s).flatMap (·.2)).length ≤ s.length ∧ (scanF k s).length ≤ s.length := by
 intro k
 induction k with
 | zero => intro s; simp [scanF]
 | succ k ih =>
  intro s
  cases s with
  | nil => simp [scanF]
  | cons c r =>
   have hf := zcj c r
   have h := ih ((c :: r).drop (frontT (c :: r)).2)
   show ((_ :: scanF k _).flatMap (·.2)).length ≤ _ ∧ (_ :: scanF k _).length ≤ _
   rw [List.flatMap_cons, List.length_append, List.length_cons]
   rw [List.length_drop, List.length_cons] at h
   simp only [List.length_take, List.length_cons]
   omega
theorem zbm (s : List UInt8) : ((scanT s).flatMap (·.2)).length ≤ s.length ∧ (scanT s).length ≤ s.length := zix _ s
theorem zeU {l : List Tkn} {t : Tkn} (h : t ∈ l) : t.2.length ≤ (l.flatMap (·.2)).length := by
 induction l with
 | nil => cases h
 | cons a r ih =>
  rw [List.flatMap_cons, List.length_append]
  rcases List.mem_cons.1 h with rfl | h
  ·omega
  ·have := ih h; omega
end Go.Tk
namespace Go.Hd
open Go Go.Cs
structure Fld where
 name : List UInt8
 value : List UInt8
 raw : List UInt8
 bad : Bool
def endH : List UInt8 → Nat
 | [] => 0
 | c :: r => if c = 10 then 1 else endH r + 1
theorem zbw : ∀ s, endH s ≤ s.length
 | [] => Nat.le_refl _
 | c :: r => by unfold endH; split <;> simp [zbw r]
theorem zbu {s : List UInt8} (h : s ≠ []) : 0 < endH s := by
 cases s with
 | nil => exact (h rfl).elim
 | cons c r => unfold endH; split <;> omega
def goesH : List UInt8 → Bool
 | [] => false
 | c :: _ => c == 32 || c == 9
def bareH (s : List UInt8) : List UInt8 := if Lib.hasSuffix s [10] = true then Lib.trimSuffix (Lib.trimSuffix s [10]) [13] else s
theorem zcp (s : List UInt8) : (bareH s).length ≤ s.length := by
 have key : ∀ (a p : List UInt8), (Lib.trimSuffix a p).length ≤ a.length := fun a p => by
  unfold Lib.trimSuffix
  split
  ·rw [List.length_take]; omega
  ·exact Nat.le_refl _
 unfold bareH
 split
 ·exact Nat.le_trans (key _ _) (key _ _)
 ·exact Nat.le_refl _
def rightH (n : List UInt8) : Bool := n.all (fun c => decide (32 < c.toNat) && decide (c.toNat ≤ 126) && c != 58) && !n.isEmpty
def fieldH (raw : List UInt8) : Fld :=
 if (Lib.cut (bareH (raw.take (endH raw))) [58]).2.2 = true ∧ rightH (Lib.trimRightS (Lib.cut (bareH (raw.take (endH raw))) [58]).1 [32, 9]) = true then
  ⟨Lib.trimRightS (Lib.cut (bareH (raw.take (endH raw))) [58]).1 [32, 9], bareH (raw.drop ((Lib.cut (bareH (raw.take (endH raw))) [58]).1.length + 1)), raw, false⟩
 else ⟨[], [], raw, true⟩
def contF : Nat → List UInt8 → Nat
 | 0, _ => 0
 | k + 1, s => if goesH s = true then endH s + contF k (s.drop (endH s)) else 0
theorem zjJ : ∀ (k : Nat) (s : List UInt8), contF k s ≤ s.length := by
 intro k
 induction k with
 | zero => intro s; exact Nat.zero_le _
 | succ k ih =>
  intro s
  unfold contF
  split
  ·have h1 := ih (s.drop (endH s))
   have h2 := zbw s
   rw [List.length_drop] at h1
   omega
  ·exact Nat.zero_le _
theorem ziY : ∀ (k : Nat) (s : List UInt8), s.length ≤ k → contF (k + 1) s = contF k s := by
 intro k
 induction k with
 | zero => intro s h; rw [List.eq_nil_of_length_eq_zero (Nat.le_zero.1 h)]; rfl
 | succ k ih =>
  intro s h
  cases s with
  | nil => rfl
  | cons c r =>
   have hp := zbu (s := c :: r) (by simp)
   rw [List.length_cons] at h
   have hl : ((c :: r).drop (endH (c :: r))).length ≤ k := by rw [List.length_drop, List.length_cons]; omega
   show (if goesH (c :: r) = true then endH (c :: r) + contF (k + 1) _ else 0) = if goesH (c :: r) = true then endH (c :: r) + contF k _ else 0
   rw [ih _ hl]
def contH (s : List UInt8) : Nat := contF s.length s
theorem zeg (s : List UInt8) : ∀ j, contF (s.length + j) s = contH s
 | 0 => rfl
 | j + 1 => by rw [← Nat.add_assoc, ziY _ _ (by omega), zeg s j]
theorem ziC {s : List UInt8} (h : goesH s = true) : contH s = endH s + contH (s.drop (endH s)) := by
 cases s with
 | nil => cases h
 | cons c r =>
  have hp := zbu (s := c :: r) (by simp)
  have hl : ((c :: r).drop (endH (c :: r))).length ≤ r.length := by rw [List.length_drop, List.length_cons]; omega
  show (if goesH (c :: r) = true then endH (c :: r) + contF r.length _ else 0) = _
  rw [if_pos h]
  obtain ⟨j, hj⟩ : ∃ j, r.length = ((c :: r).drop (endH (c :: r))).length + j := ⟨_, (Nat.add_sub_cancel' hl).symm⟩
  rw [hj, zeg]
theorem zjt {s : List UInt8} (h : goesH s = false) : contH s = 0 := by
 cases s with
 | nil => rfl
 | cons c r =>
  show (if goesH (c :: r) = true then _ else 0) = _
  rw [h]; rfl
theorem zjX (s : List UInt8) : contH s ≤ s.length := zjJ _ s
def lenH (s : List UInt8) : Nat := endH s + contH (s.drop (endH s))
theorem ziQ (s : List UInt8) : lenH s ≤ s.length := by
 have h1 := zjX (s.drop (endH s)); have h2 := zbw s
 rw [List.length_drop] at h1
 unfold lenH; omega
theorem zeG {s : List UInt8} (h : s ≠ []) : 0 < lenH s := by have := zbu h; unfold lenH; omega
def parF : Nat → List UInt8 → Nat → List Fld × Nat
 | 0, _, o => ([], o)
 | k + 1, s, o => if s = [] then ([], o) else if bareH (s.take (endH s)) = [] then ([], o + endH s) else
   (fieldH (s.take (lenH s)) :: (parF k (s.drop (lenH s)) (o + lenH s)).1, (parF k (s.drop (lenH s)) (o + lenH s)).2)
theorem zjv : ∀ (k : Nat) (s : List UInt8) (o : Nat), s.length ≤ k → parF (k + 1) s o = parF k s o := by
 intro k
 induction k with
 | zero => intro s o h; rw [List.eq_nil_of_length_eq_zero (Nat.le_zero.1 h)]; rfl
 | succ k ih =>
  intro s o h
  cases s with
  | nil => rfl
  | cons c r =>
   have hp := zeG (s := c :: r) (by simp)
   rw [List.length_cons] at h
   have hl : ((c :: r).drop (lenH (c :: r))).length ≤ k := by rw [List.length_drop, List.length_cons]; omega
   show (if c :: r = [] then _ else if bareH ((c :: r).take (endH (c :: r))) = [] then _ else (_ :: (parF (k + 1) _ _).1, (parF (k + 1) _ _).2)) = if c :: r = [] then _ else if bareH ((c :: r).take (endH (c :: r))) = [] then _ else (_ :: (parF k _ _).1, (parF k _ _).2)
   rw [ih _ _ hl]
def parG (s : List UInt8) (o : Nat) : List Fld × Nat := parF s.length s o
def parH (s : List UInt8) : List Fld × Nat := parG s 0
theorem zfm (s : List UInt8) (o : Nat) : ∀ j, parF (s.length + j) s o = parG s o
 | 0 => rfl
 | j + 1 => by rw [← Nat.add_assoc, zjv _ _ _ (by omega), zfm s o j]
theorem zkx (o : Nat) : parG [] o = ([], o) := rfl
theorem zjQ {s : List UInt8} {o : Nat} (h : s ≠ []) (hb : bareH (s.take (endH s)) = []) : parG s o = ([], o + endH s) := by
 cases s with
 | nil => exact (h rfl).elim
 | cons c r =>
  show parF (r.length + 1) (c :: r) o = _
  unfold parF
  rw [if_neg h, if_pos hb]
theorem ziH {s : List UInt8} {o : Nat} (h : s ≠ []) (hb : bareH (s.take (endH s)) ≠ []) : parG s o = (fieldH (s.take (lenH s)) :: (parG (s.drop (lenH s)) (o + lenH s)).1, (parG (s.drop (lenH s)) (o + lenH s)).2) := by
 cases s with
 | nil => exact (h rfl).elim
 | cons c r =>
  have hp := zeG h
  have hl : ((c :: r).drop (lenH (c :: r))).length ≤ r.length := by rw [List.length_drop, List.length_cons]; omega
  show parF (r.length + 1) (c :: r) o = _
  unfold parF
  rw [if_neg h, if_neg hb]
  obtain ⟨j, hj⟩ : ∃ j, r.length = ((c :: r).drop (lenH (c :: r))).length + j := ⟨_, (Nat.add_sub_cancel' hl).symm⟩
  rw [hj, zfm]
def unfoldH (s : List UInt8) : List UInt8 := Lib.replaceAll (Lib.replaceAll s [13, 10] []) [10] []
def smallH (s : List UInt8) : List UInt8 := s.map lowerB
def getH (l : List Fld) (n : List UInt8) : Option (List UInt8) := (l.find? fun f => !f.bad && smallH f.name == smallH n).map fun f => Lib.trimS (unfoldH f.value) [32, 9]
end Go.Hd
namespace Go.Ty
open Go Go.Cs Go.Tk Go.Hd
def letC (c : UInt8) : Bool := decide (97 ≤ c.toNat ∧ c.toNat ≤ 122) || decide (65 ≤ c.toNat ∧ c.toNat ≤ 90) || decide (48 ≤ c.toNat ∧ c.toNat ≤ 57)
def wordB : List UInt8 := [33, 35, 36, 38, 94, 95, 46, 43, 45]
def wordC (s : List UInt8) : Bool := s.all (fun c => letC c || wordB.contains c) && !s.isEmpty
def rowsC : List Tkn → List (List Tkn)
 | [] => [[]]
 | t :: r => if t = (4, [59]) then [] :: rowsC r else
  match rowsC r with
  | [] => [[t]]
  | a :: b => (t :: a) :: b
theorem zcf (l : List Tkn) : rowsC l ≠ [] := by
 cases l with
 | nil => simp [rowsC]
 | cons t r =>
  unfold rowsC
  split
  ·simp
  ·split <;> simp
def valN : List UInt8 → Nat → Nat
 | [], a => a
 | c :: r, a => valN r (a * 10 + (c.toNat - 48))
def numC (s : List UInt8) : Option Nat :=
 if s.all (fun c => decide (48 ≤ c.toNat ∧ c.toNat ≤ 57)) = true ∧ s ≠ [] ∧ (s.head? = some 48 → s = [48]) ∧ valN s 0 ≤ 63 then some (valN s 0) else none
def hexC (c : UInt8) : Option Nat :=
 if 48 ≤ c.toNat ∧ c.toNat ≤ 57 then some (c.toNat - 48) else if 97 ≤ c.toNat ∧ c.toNat ≤ 102 then some (c.toNat - 87) else if 65 ≤ c.toNat ∧ c.toNat ≤ 70 then some (c.toNat - 55) else none
def unhexC (a b : UInt8) : Option UInt8 :=
 match hexC a, hexC b with
 | some x, some y => some (UInt8.ofNat (x * 16 + y))
 | _, _ => none
abbrev Spt := List UInt8 × Int × Bool
def lastC (c : UInt8) : List UInt8 → Option Nat
 | [] => none
 | a :: r =>
  match lastC c r with
  | some i => some (i + 1)
  | none => if a = c then some 0 else none
def spotN (n : List UInt8) (wide : Bool) : Spt :=
 match lastC 42 n with
 | some i =>
  match numC (n.drop (i + 1)) with
  | some k => (n.take i, (k : Int), wide)
  | none => (n, -1, wide)
 | none => (n, -1, wide)
def spotC (n : List UInt8) : Spt := if 1 < n.length ∧ Lib.hasSuffix n [42] = true then spotN (n.take (n.length - 1)) true else spotN n false
def pairC : List UInt8 → List Tkn → List UInt8 × List UInt8
 | _, [] => ([], [])
 | nm, t :: r =>
  if t.1 ≠ 1 ∨ (Lib.cut t.2 [61]).2.2 = false then pairC (nm ++ t.2) r
  else if (Lib.cut t.2 [61]).2.1 = [] ∧ (r.head?.map (·.1)) = some 2 then (smallH (nm ++ (Lib.cut t.2 [61]).1), valueT (r.headD (0, [])))
  else (smallH (nm ++ (Lib.cut t.2 [61]).1), (Lib.cut t.2 [61]).2.1 ++ joinT r)
def openC : List UInt8 → List UInt8
 | [] => []
 | [a] => [a]
 | [a, b] => [a, b]
 | c :: a :: b :: r =>
  if c = 37 then
   match unhexC a b with
   | some x => x :: openC r
   | none => c :: openC (a :: b :: r)
  else c :: openC (a :: b :: r)
def splitC (s : List UInt8) : List UInt8 × List UInt8 :=
 if (Lib.cut s [39]).2.2 = true ∧ (Lib.cut (Lib.cut s [39]).2.1 [39]).2.2 = true then ((Lib.cut s [39]).1, (Lib.cut (Lib.cut s [39]).2.1 [39]).2.1) else ([], s)
def meantC (n s : List UInt8) : List UInt8 := if n = [] then repair s else decodeS n s
def lk {κ α : Type} [DecidableEq κ] : List (κ × α) → κ → Option α
 | [], _ => none
 | (s, v) :: r, k => if k = s then some v else lk r k
abbrev PM := List (Spt × List UInt8)
abbrev FM := List (Spt × Bool)
def getC (p : PM) (f : FM) (n : List UInt8) (k : Int) : Option (List UInt8 × Bool) :=
 match lk f (n, k, false) with
 | none => none
 | some w => some ((lk p (n, k, w)).getD [], w)
def sectC (p : PM) (f : FM) (n : List UInt8) : Nat → Nat → List UInt8
 | 0, _ => []
 | m + 1, i =>
  match getC p f n (i : Int) with
  | none => []
  | some (v, w) => (if w = true then openC v else v) ++ sectC p f n m (i + 1)
def valueC (p : PM) (f : FM) (n : List UInt8) : Option (List UInt8) :=
 match getC p f n 0 with
 | none =>
  match lk p (n, -1, true) with
  | some v => some (meantC (splitC v).1 (openC (splitC v).2))
  | none => lk p (n, -1, false)
 | some (s, w) => if w = true then some (meantC (splitC s).1 (openC (splitC s).2 ++ sectC p f n 63 1)) else some (s ++ sectC p f n 63 1)
structure LSt where
 p : PM
 f : FM
 ns : List (List UInt8)
def stepC (z : LSt) (r : List Tkn) : LSt :=
  if (pairC [] r).1 = [] then z else
  let x := spotC (pairC [] r).1
  ⟨if lk z.p x = none then z.p ++ [(x, (pairC [] r).2)] else z.p,
   if 0 ≤ x.2.1 ∧ lk z.f (x.1, x.2.1, false) = none then z.f ++ [((x.1, x.2.1, false), x.2.2)] else z.f,
   if x.1 ∈ z.ns then z.ns else z.ns ++ [x.1]⟩
def listC (rows : List (List Tkn)) : List (List UInt8 × List UInt8) :=
 let z := rows.foldl stepC ⟨[], [], []⟩
 z.ns.filterMap fun n => (valueC z.p z.f n).map fun v => (n, v)
structure Typ where
 kind : List UInt8
 sub : List UInt8
 params : List (List UInt8 × List UInt8)
deriving DecidableEq
def tText : List UInt8 := [116, 101, 120, 116]
def tPlain : List UInt8 := [112, 108, 97, 105, 110]
def typeC (s : List UInt8) : Typ × Bool :=
 let l := rowsC (bareT (scanT s))
 let c := Lib.cut (joinT (l.headD [])) [47]
 if c.2.2 = true ∧ wordC c.1 = true ∧ wordC c.2.1 = true then (⟨smallH c.1, smallH c.2.1, listC (l.drop 1)⟩, true) else (⟨tText, tPlain, []⟩, false)
def paramC (l : List (List UInt8 × List UInt8)) (n : List UInt8) : Option (List UInt8) := (l.find? fun x => smallH x.1 == smallH n).map (·.2)
end Go.Ty
namespace Go.Hd
open Go Go.Cs Go.Tk Go.Ty
theorem zgf (l : List UInt8) (c : UInt8) : Lib.indexByte l c < 0 ↔ l.contains c = false := by
 induction l with
 | nil => simp [Lib.indexByte]
 | cons b l ih =>
  have hge := Lib.indexByte_ge l c
  unfold Lib.indexByte
  by_cases hb : b = c
  ·subst hb; simp
  ·rw [if_neg (by simpa using hb), List.contains_cons]
   have hc : (c == b) = false := beq_eq_false_iff_ne.2 fun e => hb e.symm
   rw [hc, Bool.false_or, ← ih]
   split
   ·rename_i h; have := beq_iff_eq.1 h; omega
   ·rename_i h
    have h : Lib.indexByte l c ≠ -1 := fun e => h (by rw [e]; rfl)
    omega
theorem zgZ (l : List UInt8) (c : UInt8) : 0 ≤ Lib.indexByte l c ↔ l.contains c = true := by
 have := zgf l c
 cases h : l.contains c with
 | true => rw [h] at this; simp only [Bool.true_eq_false, iff_false] at this; exact ⟨fun _ => rfl, fun _ => by omega⟩
 | false => rw [h] at this; simp only [iff_true] at this; exact ⟨fun _ => by omega, fun h => by cases h⟩
theorem end_idx (s : List UInt8) : (Lib.indexByte s 10 < 0 ∧ endH s = s.length) ∨ ∃ n : Nat, Lib.indexByte s 10 = n ∧ endH s = n + 1 ∧ n < s.length := by
 induction s with
 | nil => exact .inl ⟨by simp [Lib.indexByte], rfl⟩
 | cons b l ih =>
  unfold Lib.indexByte endH
  by_cases hb : b = 10
  ·subst hb; exact .inr ⟨0, rfl, rfl, by simp⟩
  ·rw [if_neg (by simpa using hb), if_neg hb]
   rcases ih with ⟨h1, h2⟩ | ⟨n, h1, h2, h3⟩
   ·have := Lib.indexByte_ge l 10
    have e : Lib.indexByte l 10 = -1 := by omega
    refine .inl ⟨?_, by rw [h2, List.length_cons]⟩
    rw [e]; simp
   ·refine .inr ⟨n + 1, ?_, by rw [h2], by rw [List.length_cons]; omega⟩
    rw [h1, if_neg (by simp)]; rfl
theorem lastC_at (c : UInt8) : ∀ (s : List UInt8), (lastC c s = none ∧ ∀ j, j < s.length → s.getD j 0 ≠ c) ∨ ∃ i, lastC c s = some i ∧ i < s.length ∧ s.getD i 0 = c ∧ ∀ j, i < j → j < s.length → s.getD j 0 ≠ c
 | [] => .inl ⟨rfl, fun j h => by simp at h⟩
 | a :: r => by
  unfold lastC
  rcases lastC_at c r with ⟨h1, h2⟩ | ⟨i, h1, h2, h3, h4⟩
  ·rw [h1]
   by_cases ha : a = c
   ·rw [if_pos ha]
    refine .inr ⟨0, rfl, by simp, by simpa using ha, fun j hj hl => ?_⟩
    obtain ⟨k, rfl⟩ : ∃ k, j = k + 1 := ⟨j - 1, by omega⟩
    rw [List.getD_cons_succ]; exact h2 k (by simpa using hl)
   ·rw [if_neg ha]
    refine .inl ⟨rfl, fun j hl => ?_⟩
    cases j with
    | zero => simpa using ha
    | succ k => rw [List.getD_cons_succ]; exact h2 k (by simpa using hl)
  ·rw [h1]
   refine .inr ⟨i + 1, rfl, by simpa using h2, by rw [List.getD_cons_succ]; exact h3, fun j hj hl => ?_⟩
   obtain ⟨k, rfl⟩ : ∃ k, j = k + 1 := ⟨j - 1, by omega⟩
   rw [List.getD_cons_succ]; exact h4 k (by omega) (by simpa using hl)
theorem zcn (s : ByteArray) (j : Nat) (h : j < s.size) : s.data[j]! = (L s).getD j 0 := by
 have h : j < s.data.size := h
 rw [getElem!_pos s.data j h]
 show s.data[j] = s.data.toList.getD j 0
 rw [List.getD_eq_getElem?_getD, Array.getElem?_toList, Array.getElem?_eq_getElem h]; rfl
theorem zdk (s : ByteArray) (c : UInt8) : Lib.lastIndexByte s c.toNat = match lastC c (L s) with | none => -1 | some i => (i : Int) := by
 have hl : (L s).length = s.size := rfl
 have inj : ∀ a : UInt8, (a.toNat : Int) = (c.toNat : Int) ↔ a = c := fun a => ⟨fun h => UInt8.toNat_inj.1 (by omega), fun h => by rw [h]⟩
 rcases Lib.lastIndexByte_spec s c.toNat with ⟨e, hn⟩ | ⟨i, hi, e, hc, hn⟩ <;> rcases lastC_at c (L s) with ⟨h1, h2⟩ | ⟨j, h1, h2, h3, h4⟩
 ·rw [e, h1]
 ·exact absurd ((inj _).2 ((zcn s j (by omega)).trans h3)) (hn j (by omega))
 ·exact absurd ((zcn s i hi).symm.trans ((inj _).1 hc)) (h2 i (by omega))
 ·have hc := (zcn s i hi).symm.trans ((inj _).1 hc)
  rw [e, h1]
  rcases Nat.lt_trichotomy i j with h | h | h
  ·exact absurd ((inj _).2 ((zcn s j (by omega)).trans h3)) (hn j h (by omega))
  ·rw [h]
  ·exact absurd hc (h4 i h (by omega))
theorem ziz {s p : List UInt8} (h : (Lib.cut s p).2.2 = true) : (Lib.cut s p).1.length + p.length ≤ s.length := by
 unfold Lib.cut at h ⊢
 by_cases h0 : 0 ≤ Lib.index s p
 ·rw [if_pos h0]
  have := Lib.index_room s p h0
  dsimp only
  rw [List.length_take]; omega
 ·rw [if_neg h0] at h; cases h
theorem zdK (s p : List UInt8) : (Lib.cut s p).1.length ≤ s.length ∧ (Lib.cut s p).2.1.length ≤ s.length := by
 unfold Lib.cut
 split
 ·exact ⟨by rw [List.length_take]; omega, by rw [List.length_drop]; omega⟩
 ·exact ⟨Nat.le_refl _, Nat.zero_le _⟩
theorem zeL (s p : List UInt8) : (Lib.trimRightS s p).length ≤ s.length := by
 unfold Lib.trimRightS
 rw [List.length_reverse]
 exact Nat.le_trans (List.dropWhile_sublist _).length_le (by rw [List.length_reverse]; exact Nat.le_refl _)
theorem zjB (s p : List UInt8) : (Lib.trimLeftS s p).length ≤ s.length := (List.dropWhile_sublist _).length_le
theorem zlm (s p : List UInt8) : (Lib.trimS s p).length ≤ s.length := Nat.le_trans (zjB _ _) (zeL _ _)
end Go.Hd
namespace Go.Proofs.YtmjeacpoobbjjaaGreatDoor
open Go.RowKit Go.Pw Go.Vc Go.Cs Go.Lib
end Go.Proofs.YtmjeacpoobbjjaaGreatDoor
namespace Go.Proofs.YtmjeacpoobbjjaaGreatDoor
open Go.Shelf Go.RowKit Go.Pw Go.Vc Go.Cs Go.Lib
def ren166 : Go.Shelf.Ren := ⟨fun | 166 => 109 | 240 => 143 | 276 => 166 | n => n, fun | 0 => 0 | 3 => 3 | 4 => 4 | 5 => 5 | 9 => 9 | 20 => 20 | 37 => 107 | 70 => 120 | 72 => 122 | 75 => 124 | 80 => 127 | 164 => 168 | n => n, fun | n => n⟩
theorem lays166 : Go.Proofs.Lays.n166 Tryz.prog ren166 := {
 mixed := by kernel_rfl
 f166 := Tryz.func109.trans (congrArg some (by kernel_rfl))
 f240 := Tryz.func143.trans (congrArg some (by kernel_rfl))
 f276 := Tryz.func166.trans (congrArg some (by kernel_rfl))
 t0 := Tryz.underlying0
 a0 := Tryz.isAgg0
 z0 := Tryz.sizeOf0
 v0 := Tryz.zeroValue0
 t3 := Tryz.underlying3
 a3 := Tryz.isAgg3
 z3 := Tryz.sizeOf3
 v3 := Tryz.zeroValue3
 t4 := Tryz.underlying4
 a4 := Tryz.isAgg4
 z4 := Tryz.sizeOf4
 v4 := Tryz.zeroValue4
 t9 := Tryz.underlying9
 a9 := Tryz.isAgg9
 z9 := Tryz.sizeOf9
 v9 := Tryz.zeroValue9
 t20 := Tryz.underlying20
 a20 := Tryz.isAgg20
 z20 := Tryz.sizeOf20
 v20 := Tryz.zeroValue20
 t37 := Tryz.underlying107
 a37 := Tryz.isAgg107
 z37 := Tryz.sizeOf107
 v37 := Tryz.zeroValue107
 t70 := Tryz.underlying120
 a70 := Tryz.isAgg120
 z70 := Tryz.sizeOf120
 v70 := Tryz.zeroValue120
 t72 := Tryz.underlying122
 a72 := Tryz.isAgg122
 z72 := Tryz.sizeOf122
 v72 := Tryz.zeroValue122
 t75 := Tryz.underlying124
 a75 := Tryz.isAgg124
 z75 := Tryz.sizeOf124
 v75 := Tryz.zeroValue124
 t164 := Tryz.underlying168
 a164 := Tryz.isAgg168
 z164 := Tryz.sizeOf168
 v164 := Tryz.zeroValue168 }
def ren167 : Go.Shelf.Ren := ⟨fun | 167 => 167 | 240 => 143 | 276 => 166 | n => n, fun | 0 => 0 | 4 => 4 | 5 => 5 | 9 => 9 | 20 => 20 | 37 => 107 | 70 => 120 | 72 => 122 | 75 => 124 | 80 => 127 | 164 => 168 | n => n, fun | n => n⟩
theorem lays167 : Go.Proofs.Lays.n167 Tryz.prog ren167 := {
 mixed := by kernel_rfl
 f167 := Tryz.func167.trans (congrArg some (by kernel_rfl))
 f240 := Tryz.func143.trans (congrArg some (by kernel_rfl))
 f276 := Tryz.func166.trans (congrArg some (by kernel_rfl))
 t0 := Tryz.underlying0
 a0 := Tryz.isAgg0
 z0 := Tryz.sizeOf0
 v0 := Tryz.zeroValue0
 t4 := Tryz.underlying4
 a4 := Tryz.isAgg4
 z4 := Tryz.sizeOf4
 v4 := Tryz.zeroValue4
 t5 := Tryz.underlying5
 a5 := Tryz.isAgg5
 z5 := Tryz.sizeOf5
 v5 := Tryz.zeroValue5
 t9 := Tryz.underlying9
 a9 := Tryz.isAgg9
 z9 := Tryz.sizeOf9
 v9 := Tryz.zeroValue9
 t20 := Tryz.underlying20
 a20 := Tryz.isAgg20
 z20 := Tryz.sizeOf20
 v20 := Tryz.zeroValue20
 t37 := Tryz.underlying107
 a37 := Tryz.isAgg107
 z37 := Tryz.sizeOf107
 v37 := Tryz.zeroValue107
 t70 := Tryz.underlying120
 a70 := Tryz.isAgg120
 z70 := Tryz.sizeOf120
 v70 := Tryz.zeroValue120
 t72 := Tryz.underlying122
 a72 := Tryz.isAgg122
 z72 := Tryz.sizeOf122
 v72 := Tryz.zeroValue122
 t75 := Tryz.underlying124
 a75 := Tryz.isAgg124
 z75 := Tryz.sizeOf124
 v75 := Tryz.zeroValue124
 t164 := Tryz.underlying168
 a164 := Tryz.isAgg168
 z164 := Tryz.sizeOf168
 v164 := Tryz.zeroValue168 }
def ren169 : Go.Shelf.Ren := ⟨fun | 169 => 110 | n => n, fun | 0 => 0 | 3 => 3 | 5 => 5 | 9 => 9 | 37 => 107 | 70 => 120 | 72 => 122 | 127 => 155 | n => n, fun | n => n⟩
theorem lays169 : Go.Proofs.Lays.n169 Tryz.prog ren169 := {
 mixed := by kernel_rfl
 f169 := Tryz.func110.trans (congrArg some (by kernel_rfl))
 t0 := Tryz.underlying0
 a0 := Tryz.isAgg0
 z0 := Tryz.sizeOf0
 v0 := Tryz.zeroValue0
 t3 := Tryz.underlying3
 a3 := Tryz.isAgg3
 z3 := Tryz.sizeOf3
 v3 := Tryz.zeroValue3
 t9 := Tryz.underlying9
 a9 := Tryz.isAgg9
 z9 := Tryz.sizeOf9
 v9 := Tryz.zeroValue9
 t37 := Tryz.underlying107
 a37 := Tryz.isAgg107
 z37 := Tryz.sizeOf107
 v37 := Tryz.zeroValue107
 t70 := Tryz.underlying120
 a70 := Tryz.isAgg120
 z70 := Tryz.sizeOf120
 v70 := Tryz.zeroValue120
 t72 := Tryz.underlying122
 a72 := Tryz.isAgg122
 z72 := Tryz.sizeOf122
 v72 := Tryz.zeroValue122
 t127 := Tryz.underlying155
 a127 := Tryz.isAgg155
 z127 := Tryz.sizeOf155
 v127 := Tryz.zeroValue155 }
def ren197 : Go.Shelf.Ren := ⟨fun | 197 => 137 | 260 => 161 | n => n, fun | 0 => 0 | 3 => 3 | 4 => 4 | 5 => 5 | 9 => 9 | 21 => 21 | 46 => 154 | 105 => 149 | 119 => 173 | 138 => 175 | 139 => 176 | n => n, fun | 3 => 1 | 4 => 2 | n => n⟩
theorem lays197 : Go.Proofs.Lays.n197 Tryz.prog ren197 := {
 mixed := by kernel_rfl
 f197 := Tryz.func137.trans (congrArg some (by kernel_rfl))
 f260 := Tryz.func161.trans (congrArg some (by kernel_rfl))
 t0 := Tryz.underlying0
 a0 := Tryz.isAgg0
 z0 := Tryz.sizeOf0
 v0 := Tryz.zeroValue0
 t3 := Tryz.underlying3
 a3 := Tryz.isAgg3
 z3 := Tryz.sizeOf3
 v3 := Tryz.zeroValue3
 t4 := Tryz.underlying4
 a4 := Tryz.isAgg4
 z4 := Tryz.sizeOf4
 v4 := Tryz.zeroValue4
 t5 := Tryz.underlying5
 a5 := Tryz.isAgg5
 z5 := Tryz.sizeOf5
 v5 := Tryz.zeroValue5
 t9 := Tryz.underlying9
 a9 := Tryz.isAgg9
 z9 := Tryz.sizeOf9
 v9 := Tryz.zeroValue9
 t21 := Tryz.underlying21
 a21 := Tryz.isAgg21
 z21 := Tryz.sizeOf21
 v21 := Tryz.zeroValue21
 t46 := Tryz.underlying154
 a46 := Tryz.isAgg154
 z46 := Tryz.sizeOf154
 v46 := Tryz.zeroValue154
 t105 := Tryz.underlying149
 a105 := Tryz.isAgg149
 z105 := Tryz.sizeOf149
 v105 := Tryz.zeroValue149
 t119 := Tryz.underlying173
 a119 := Tryz.isAgg173
 z119 := Tryz.sizeOf173
 t138 := Tryz.underlying175
 a138 := Tryz.isAgg175
 z138 := Tryz.sizeOf175
 v138 := Tryz.zeroValue175
 t139 := Tryz.underlying176
 a139 := Tryz.isAgg176
 z139 := Tryz.sizeOf176
 v139 := Tryz.zeroValue176
 g3 := by kernel_rfl
 g4 := by kernel_rfl }
theorem ext166 : Builder.Extra Tryz.prog ren166 := {
 sizeBuilder := by kernel_rfl
 liesBuilder := by kernel_rfl
 t5 := Tryz.underlying5
 a5 := Tryz.isAgg5
 z5 := Tryz.sizeOf5
 v5 := Tryz.zeroValue5
 infoByte := by kernel_rfl
 cellsByte := by kernel_rfl
 sizeByte := by kernel_rfl
 neB5 := by decide }
theorem ext167 : Builder.Extra Tryz.prog ren167 := {
 sizeBuilder := by kernel_rfl
 liesBuilder := by kernel_rfl
 t5 := Tryz.underlying5
 a5 := Tryz.isAgg5
 z5 := Tryz.sizeOf5
 v5 := Tryz.zeroValue5
 infoByte := by kernel_rfl
 cellsByte := by kernel_rfl
 sizeByte := by kernel_rfl
 neB5 := by decide }
theorem ext169 : Builder.Extra Tryz.prog ren169 := {
 sizeBuilder := by kernel_rfl
 liesBuilder := by kernel_rfl
 t5 := Tryz.underlying5
 a5 := Tryz.isAgg5
 z5 := Tryz.sizeOf5
 v5 := Tryz.zeroValue5
 infoByte := by kernel_rfl
 cellsByte := by kernel_rfl
 sizeByte := by kernel_rfl
 neB5 := by decide }
def Tabs (w : World) : Prop := Utf8Tabs 1 2 w
theorem Tabs.keep {w w' : World} (h : Tabs w) (k : Kp w w' n_) : Tabs w' :=
 ⟨fun c hc => by rw [k.cell (zaU (h.1 c hc)) id]; exact h.1 c hc, fun i hi => ⟨by rw [k.cell (zaU (h.2 i hi).1) id]; exact (h.2 i hi).1, by rw [k.cell (zaU (h.2 i hi).2) id]; exact (h.2 i hi).2⟩⟩
def Bld (w : World) (B b : Nat) (l : List UInt8) : Prop := IsBuilderF 122 5 B b (Go.Lib.byteCells l) w
theorem zjI (s : ByteArray) (w : World) (hT : Tabs w) (h0 : 0 < s.size) : Calls Tryz.prog 137 #[.string s] w fun e w' =>
  e = .returned (.tuple #[.int .i32 (decodeL (L s)).1, .int .i64 (decodeL (L s)).2]) ∧ Kp w w' n_ := by
 have e : decodeGo s = decodeL (L s) := by
  unfold decodeGo L
  rw [if_neg (by omega), ← decodeL_drop s 0, List.drop_zero]
 rw [← e]
 exact (Any.utf8_DecodeRuneInString lays197 s w hT).mono fun e w' ⟨h1, h2⟩ => ⟨h1, Kp.of_below h2⟩
theorem zbr {B b : Nat} {l : List UInt8} (s : ByteArray) (w : World) (h : Bld w B b l) (hl : l.length + s.size ≤ 140737488355328) (hB : B ≤ w.heap.size) :
  Calls Tryz.prog 109 #[.pointer (some ⟨b, 0, none⟩), .string s] w fun e w' => e = .returned (.tuple #[.int .i64 s.size, .nilIface]) ∧ Bld w' B b (l ++ L s) ∧ Below B w w' ∧ OthersKept 5 (some b) w w' :=
 (Any.Builder_WriteString_k lays166 ext166 B b _ s w h (by rw [Go.Lib.byteCells_length]; exact hl) hB).mono fun e w' ⟨h1, h2, h3⟩ => ⟨h1, .inr (by rw [Go.Lib.byteCells_append]; exact h2), h3⟩
theorem zbT {B b : Nat} {l : List UInt8} (c : UInt8) (w : World) (h : Bld w B b l) (hl : l.length + 1 ≤ 140737488355328) (hB : B ≤ w.heap.size) :
  Calls Tryz.prog 167 #[.pointer (some ⟨b, 0, none⟩), .int .u8 c.toNat] w fun e w' => e = .returned .nilIface ∧ Bld w' B b (l ++ [c]) ∧ Below B w w' ∧ OthersKept 5 (some b) w w' :=
 (Any.Builder_WriteByte_k lays167 ext167 B b _ c.toNat w h (by rw [Go.Lib.byteCells_length]; exact hl) hB).mono fun e w' ⟨h1, h2, h3⟩ => ⟨h1, .inr (by rw [Go.Lib.byteCells_append]; exact h2), h3⟩
theorem zcO {B b : Nat} {l : List UInt8} (w : World) (h : Bld w B b l) (hB : B ≤ w.heap.size) :
  Calls Tryz.prog 110 #[.pointer (some ⟨b, 0, none⟩)] w fun e w' => e = .returned (.string (str l)) ∧ Bld w' B b l ∧ Below B w w' ∧ OthersKept 5 (some b) w w' :=
 Any.Builder_String_any_k lays169 ext169 B b l w h hB
theorem zgi (w : World) (B : Nat) (hB : B ≤ w.heap.size) : Bld (w.alloc (.cells #[.pointer none, .slice none 0 0] 122)) B w.heap.size [] :=
 .inl ⟨hB, _, heap_alloc_new _ _, World.ownsRowF_of (World.ownsRow_nil _ _ _ _), by simp [Value.ownBlock]⟩
end Go.Proofs.YtmjeacpoobbjjaaGreatDoor
namespace Go.Vc
open Go Go.Pw Go.RowKit
def Bs (w : World) (b : Nat) (l : List UInt8) : Prop := At w b 0 (Lib.byteCells l) ∧ ∀ j, j < l.length → w.frozen? ⟨b, 0 + j, none⟩ = false
theorem Bs.store {w : World} {b i : Nat} {l : List UInt8} (h : Bs w b l) (hi : i < l.length) (x : UInt8) : (∃ u, w.cell? ⟨b, 0 + i, none⟩ = some u) ∧ w.frozen? ⟨b, 0 + i, none⟩ = false ∧ Bs (w.setCell ⟨b, 0 + i, none⟩ (.int .u8 (x.toNat : Int))) b (l.set i x) := by
 have hc : w.cell? ⟨b, 0 + i, none⟩ = some (.int .u8 (l[i].toNat : Int)) := h.1 i _ (by simp [Lib.byteCells, hi])
 refine ⟨⟨_, hc⟩, h.2 i hi, fun j v hj => ?_, fun j hj => ?_⟩
 ·by_cases e : i = j
  ·subst e
   simp [Lib.byteCells, hi] at hj
   rw [zgF hc, hj]
  ·have : (⟨b, 0 + i, none⟩ : Addr) ≠ ⟨b, 0 + j, none⟩ := fun e' => by injection e'; omega
   rw [World.cell?_setCell_other (h := this)]
   refine h.1 j v ?_
   simpa [Lib.byteCells, List.getElem?_set_ne e] using hj
 ·rw [World.frozen?_setCell]
  rw [List.length_set] at hj
  exact h.2 j hj
theorem Bs.cell {w : World} {b i : Nat} {l : List UInt8} (h : Bs w b l) (hi : i < l.length) : w.cell? ⟨b, 0 + i, none⟩ = some (.int .u8 (((l.getD i 0).toNat : Nat) : Int)) := h.1 i _ (by simp [Lib.byteCells, hi, List.getD])
theorem Bs.keep {w w' : World} {b : Nat} {l : List UInt8} {c : Nat → Prop} (h : Bs w b l) (k : Kp w w' c) (hb : b < w.heap.size) (hc : ¬ c b) : Bs w' b l :=
 ⟨fun i v hi => by rw [k.cell (p := ⟨b, 0 + i, none⟩) hb hc]; exact h.1 i v hi, fun j hj => by rw [k.frozen (p := ⟨b, 0 + j, none⟩) hb hc]; exact h.2 j hj⟩
theorem zbH (w : World) (e : TypeId) (s : ByteArray) : Bs (Lib.bytesWorld w e s) w.heap.size (s.data.toList) ∧ Kp w (Lib.bytesWorld w e s) n_ := by
 have hl : s.data.toList.length = s.size := rfl
 refine ⟨⟨fun i v hi => ?_, fun j hj => ?_⟩, ⟨rfl, rfl, rfl, by rw [Lib.bytesWorld_size]; omega, fun k hk _ => Lib.bytesWorld_at_old w e s k hk⟩⟩
 ·have hlt : i < s.size := by
   have := (List.getElem?_eq_some_iff.1 hi).1
   rw [Lib.byteCells_length] at this; exact this
  rw [Nat.zero_add, Lib.bytesWorld_cell w e s i hlt, ← hi]
  simp [Lib.byteCells, List.getD, List.getElem?_eq_getElem (by omega : i < s.data.toList.length)]
 ·rw [hl] at hj
  unfold World.frozen?
  dsimp only
  rw [Lib.bytesWorld_at_new]
  have : s.size ≤ (Lib.bytesCells w e s).size := by
   unfold Lib.bytesCells
   rw [Array.size_append, Array.size_map]
   exact Nat.le_add_right _ _
  simp only [Bool.and_eq_false_iff, decide_eq_false_iff_not]
  omega
theorem RunV.back {P : Program} {w : World} {src dst e : TypeId} {b cap : Nat} {l : List UInt8} {K : Value → World → Prop} (hs : P.underlying src = some (.slice e)) (he : P.underlying e = some (.int .u8)) (hd : P.underlying dst = some .string)
  (h : Bs w b l) (k : K (.string ⟨l.toArray⟩) w) : RunV P (convert src dst (.slice (some ⟨b, 0, none⟩) l.length cap)) w K :=
 ⟨_, _, run_convert_bytes_back w src dst e ⟨b, 0, none⟩ cap l hs he hd (fun j hj => by rw [zaH]; exact h.1 j _ (by simp [Lib.byteCells, hj])), k⟩
end Go.Vc
namespace Go.Vc
open Go
end Go.Vc
namespace Go.Proofs.YtmjeacpoobbjjaaGreatDoor
open Go.RowKit Go.Pw Go.Vc Go.Cs Go.Lib
theorem zkI {w w' : World} {b o : Nat} {vs : List Value} (h : At w b o vs) (k : Kp w w' n_) : At w' b o vs := fun i v hi => by
 have := h i v hi
 rw [k.cell (zaU this) id]; exact this
section
end
end Go.Proofs.YtmjeacpoobbjjaaGreatDoor
namespace Go.Vc
open Go Go.Pw Go.RowKit
theorem zhf (a b : ByteArray) : (a == b) = decide (a = b) := by
 obtain ⟨a⟩ := a
 obtain ⟨b⟩ := b
 have e : ((ByteArray.mk a == ByteArray.mk b) : Bool) = (a == b) := rfl
 rw [e]
 by_cases h : a = b <;> simp [h]
abbrev SM := List (ByteArray × Value)
def SM.get : SM → ByteArray → Option Value
 | [], _ => none
 | (s, v) :: r, k => if k = s then some v else SM.get r k
def SM.put : SM → ByteArray → Value → SM
 | [], k, x => [(k, x)]
 | (s, v) :: r, k, x => if k = s then (s, x) :: r else (s, v) :: SM.put r k x
def SM.del : SM → ByteArray → SM
 | [], _ => []
 | (s, v) :: r, k => if k = s then r else (s, v) :: SM.del r k
def entP (e : MapEntry) : Value × Value := (e.key, e.val)
def smP (p : ByteArray × Value) : Value × Value := (.string p.1, p.2)
def SMap (w : World) (b : Nat) (m : SM) : Prop := ∃ es clock, w.heap[b]? = some (.map es clock) ∧ es.toList.map entP = m.map smP
theorem findNow_str (k : ByteArray) : ∀ (es : List MapEntry) (m : SM) (i : Nat), es.map entP = m.map smP →
  (m.get k = none ∧ Instr.findNow .string (.string k) es i = some none ∧ (∀ x, m.put k x = m ++ [(k, x)]) ∧ m.del k = m) ∨
  ∃ v j, m.get k = some v ∧ j < es.length ∧ Instr.findNow .string (.string k) es i = some (some (i + j, v)) ∧ (es[j]?).map (·.key) = some (.string k) ∧ (∀ x, (es.modify j fun e => { e with key := .string k, val := x }).map entP = (m.put k x).map smP) ∧ (es.eraseIdx j).map entP = (m.del k).map smP
 | [], m, i, h => by
  have : m = [] := by cases m with | nil => rfl | cons a r => simp at h
  subst this
  exact .inl ⟨rfl, rfl, fun _ => rfl, rfl⟩
 | e :: es, [], i, h => by simp at h
 | e :: es, (s, v) :: r, i, h => by
  simp only [List.map_cons, List.cons.injEq] at h
  obtain ⟨h1, h2⟩ := h
  simp only [entP, smP, Prod.mk.injEq] at h1
  obtain ⟨h3, h4⟩ := h1
  by_cases hk : k = s
  ·right
   subst hk
   refine ⟨v, 0, by simp [SM.get], by simp, ?_, by simp [h3], fun x => ?_, ?_⟩
   ·simp [Instr.findNow, h3, Instr.sameNow, h4, zhf]
   ·simp [SM.put, entP, smP, h2]
   ·simp [SM.del, h2]
  ·rcases findNow_str k es r (i + 1) h2 with ⟨a1, a2, a3, a4⟩ | ⟨v', j, a1, a2, a3, a4, a5, a6⟩
   ·left
    refine ⟨by simp [SM.get, hk, a1], ?_, fun x => by simp [SM.put, hk, a3], by simp [SM.del, hk, a4]⟩
    simp [Instr.findNow, h3, Instr.sameNow, hk, a2, zhf]
   ·right
    refine ⟨v', j + 1, by simp [SM.get, hk, a1], Nat.succ_lt_succ a2, ?_, by simpa using a4, fun x => ?_, ?_⟩
    ·simp [Instr.findNow, h3, Instr.sameNow, hk, a3, zhf]; omega
    ·simp only [List.modify_succ_cons, List.map_cons, SM.put, if_neg hk, a5 x]
     simp [entP, smP, h3, h4]
    ·simp only [List.eraseIdx_cons_succ, List.map_cons, SM.del, if_neg hk, a6]
     simp [entP, smP, h3, h4]
section
variable {P : Program} {w : World} {b : Nat} {m : SM} {t kt et : TypeId} {K : Value → World → Prop}
theorem checkKey_str' (hk : P.underlying kt = some .string) (e : Bool) (s : ByteArray) (n : Nat) : (Instr.checkKey e (n + 1) kt (.string s)).run P w = .ok () w := by
 unfold Instr.checkKey
 simp [zat hk]
theorem zbh (hk : P.underlying kt = some .string) (e : Bool) (s : ByteArray) : (Instr.checkKey e 10000 kt (.string s)).run P w = .ok () w := checkKey_str' hk e s 9999
theorem RunV.look (ht : P.underlying t = some (.map kt et)) (hk : P.underlying kt = some .string) {z : Value} (hz : (zeroValue et).run P w = .ok z w) (h : SMap w b m) (s : ByteArray) (k : K ((m.get s).getD z) w) :
  RunV P (Instr.lookup t (.map (some b)) (.string s) false) w K := by
 obtain ⟨es, clock, hb, he⟩ := h
 refine ⟨_, w, ?_, k⟩
 rcases findNow_str s es.toList m 0 he with ⟨a1, a2, _⟩ | ⟨v, j, a1, a2, a3, _⟩
 ·simp [Instr.lookup, zat ht, getObj, Sem.run, hb, zbh hk, Instr.findKey, zat hk, a2, hz, a1]
 ·simp [Instr.lookup, zat ht, getObj, Sem.run, hb, zbh hk, Instr.findKey, zat hk, a3, a1]
def setO (w : World) (b : Nat) (o : Obj) : World := { w with heap := w.heap.set! b o }
theorem zez (o : Obj) (hb : b < w.heap.size) : (setO w b o).heap[b]? = some o := by
 simp [setO, hb]
theorem zcF (o : Obj) : Kp w (setO w b o) (one_ b) :=
 ⟨rfl, rfl, rfl, by simp [setO], fun k hk hn => by
  have : b ≠ k := fun e => hn e.symm
  simp [setO, this]⟩
theorem RunU.upd {K : World → Prop} (ht : P.underlying t = some (.map kt et)) (hk : P.underlying kt = some .string) (h : SMap w b m) (s : ByteArray) (x : Value) (k : ∀ w', SMap w' b (m.put s x) → Kp w w' (one_ b) → K w') :
  RunU P (Instr.mapUpdate t (.map (some b)) (.string s) x) w K := by
 obtain ⟨es, clock, hb, he⟩ := h
 have hlt : b < w.heap.size := by
  rcases Nat.lt_or_ge b w.heap.size with h' | h'
  ·exact h'
  ·rw [Array.getElem?_eq_none h'] at hb; cases hb
 rcases findNow_str s es.toList m 0 he with ⟨a1, a2, a3, _⟩ | ⟨v, j, a1, a2, a3, a4, a5, _⟩
 ·refine ⟨setO w b (.map (es.push { key := .string s, val := x, born := clock }) (clock + 1)), ?_, k _ ⟨_, _, zez _ hlt, ?_⟩ (zcF _)⟩
  ·simp [Instr.mapUpdate, zat ht, getObj, setObj, Sem.run, hb, zbh hk, Instr.findKey, zat hk, a2, setO]
  ·simp [a3, he, entP, smP]
 ·have e : (es.toList[j]?).map (·.key) = some (.string s) := a4
  have e2 : ((es[j]?).map (·.key)).getD (.string s) = .string s := by
   rw [← Array.getElem?_toList, e]; rfl
  refine ⟨setO w b (.map (es.modify j fun e => { e with key := .string s, val := x }) clock), ?_, k _ ⟨_, _, zez _ hlt, ?_⟩ (zcF _)⟩
  ·simp [Instr.mapUpdate, zat ht, getObj, setObj, Sem.run, hb, zbh hk, Instr.findKey, zat hk, a3, setO, e2, Instr.keyThatStays, Instr.sameBits, zhf]
  ·rw [Array.toList_modify]; exact a5 x
end
end Go.Vc
namespace Go.Vc
theorem SM.put_new : ∀ (m : SM) (k : ByteArray) (x : Value) (ks : List ByteArray), m.map (·.1) = ks → ¬ k ∈ ks → m.put k x = m ++ [(k, x)]
 | [], k, x, _, _, _ => rfl
 | (s, v) :: r, k, x, _, rfl, hn => by
  simp only [List.map_cons, List.mem_cons, not_or] at hn
  simp only [SM.put, if_neg hn.1, SM.put_new r k x _ rfl hn.2]; rfl
end Go.Vc
namespace Go.Vc
open Go.Cs
theorem SM.put_newL (m : SM) (l : List UInt8) (x : Value) (ks : List (List UInt8)) (h : m.map (·.1) = ks.map str) (hn : ¬ l ∈ ks) : m.put (str l) x = m ++ [(str l, x)] :=
 SM.put_new m _ x _ h fun hm => by
  obtain ⟨y, hy, e⟩ := List.mem_map.1 hm
  exact hn (by rw [← zaD.1 e]; exact hy)
end Go.Vc
namespace Go.Vc
open Go Go.Pw Go.RowKit Go.Cs Go.Lib
section
variable {P : Program} {w : World} {K : Value → World → Prop}
theorem RunV.rangeS {t : TypeId} {s : ByteArray} (h : P.underlying t = some .string) (k : K (.pointer (some ⟨w.heap.size, 0, none⟩)) (w.alloc (.stringIter s 0))) : RunV P (Instr.range t (.string s)) w K :=
 ⟨_, _, run_range_string w t s h, k⟩
theorem RunV.nextS {b pos : Nat} {s : ByteArray} {ty : TypeId} (h : w.heap[b]? = some (.stringIter s pos)) (hp : pos < s.size)
  (k : K (.tuple #[.bool true, .int .i64 (pos : Nat), .int .i32 ((decodeL ((L s).drop pos)).1 : Nat)]) (setO w b (.stringIter s (pos + (decodeL ((L s).drop pos)).2)))) :
  RunV P (Instr.next (.pointer (some ⟨b, 0, none⟩)) true ty) w K := by
 refine ⟨_, _, ?_, k⟩
 have e : Utf8.decode s pos = decodeL ((L s).drop pos) := (Lib.decodeL_drop s pos).symm
 simp only [Instr.next, getObj, setObj, Sem.run_bind, Sem.run, h, Result.andThen, hp, if_true, e]
 simp [goInt, setO]
theorem RunV.nextE {b pos : Nat} {s : ByteArray} {ty : TypeId} (h : w.heap[b]? = some (.stringIter s pos)) (hp : ¬ pos < s.size) (k : K (.tuple #[.bool false]) w) : RunV P (Instr.next (.pointer (some ⟨b, 0, none⟩)) true ty) w K := by
 refine ⟨_, _, ?_, k⟩
 simp [Instr.next, getObj, Sem.run, h, hp]
theorem zcY {b : Nat} {o : Obj} (h : w.heap[b]? = some o) : b < w.heap.size := by
 rcases Nat.lt_or_ge b w.heap.size with h' | h'
 ·exact h'
 ·rw [Array.getElem?_eq_none h'] at h; cases h
end
end Go.Vc
namespace Go.Proofs.YtmjeacpoobbjjaaGreatDoor
open Go.RowKit Go.Pw Go.Vc Go.Cs Go.Lib
section
end
section
end
section
end
section
end
end Go.Proofs.YtmjeacpoobbjjaaGreatDoor
