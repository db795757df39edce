/- Helper lemmas that the proved statement rests on; no conditions of their own. -/
import Derived.Test.YtennokckmjcefaaGreatDoorGCw5
set_option linter.unusedVariables false
set_option maxRecDepth 100000
namespace Go.Proofs.YtennokckmjcefaaGreatDoor
open Go.RowKit Go.Pw Go.Vc Go.Cs Go.Lib
theorem zcu {α : Type} {p : α → Bool} {l : List α} {j : Nat} (h : j < l.length) : (l.take (j + 1)).filter p = (l.take j).filter p ++ (if p l[j] = true then [l[j]] else []) := by
 rw [List.take_succ_eq_append_getElem h, List.filter_append]
 congr 1
 by_cases hp : p l[j] = true
 ·rw [if_pos hp, List.filter_cons_of_pos hp]; rfl
 ·rw [if_neg hp, List.filter_cons_of_neg hp]; rfl
end Go.Proofs.YtennokckmjcefaaGreatDoor
namespace Go.Vc
open Go Go.Pw Go.RowKit
theorem RunN.appNone {P : Program} {w : World} {K : Value → World → Prop} {t ty e : TypeId} {cs : Array Bool} {B s n c bytes : Nat} {z v : Value} {xs : List Value} (ht : P.underlying t = some (.slice e)) (hb : (P.info? e).map (fun i => (i.zero, i.size, i.bytes)) = some (some z, s, bytes))
  (hown : w.ownsRow B e s v n xs) (k : K v w) : RunN P (builtin .append #[t, t] ty cs [v, .slice none 0 c].toArray) w K := by
 obtain ⟨i, hi, _, _, _⟩ := zbK hb
 refine ⟨v, w, ?_, k⟩
 show (do pure (Next.value (← Builtin.append_ #[t, t] ty #[v, .slice none 0 c])) : Sem Next).run P w = _
 rcases hown.2 with ⟨rfl, rfl⟩ | ⟨g, cap, cur, rfl, _, _, hnc, _⟩
 ·simp [Builtin.append_, run_underlying ht, sizeOf, typeInfo, hi, Builtin.lenOf, Builtin.firstCells]
 ·simp [Builtin.append_, run_underlying ht, sizeOf, typeInfo, hi, Builtin.lenOf, Builtin.firstCells, hnc, storeCells]
theorem RunN.zeros0 {P : Program} {w : World} {K : Value → World → Prop} {t tn ty e : TypeId} {cs : Array Bool} {s bytes : Nat} {z : Value} {kq kn : IntKind} (ht : P.underlying t = some (.slice e)) (htn : P.underlying tn = some (.int kn)) (hb : (P.info? e).map (fun i => (i.zero, i.size, i.bytes)) = some (some z, s, bytes)) (hz : z.cells.size = s) (hs : 0 < s) {m : Nat} (h0 : 0 < m)
  (h63 : m ≤ 9223372036854775807) (hbytes : m * bytes ≤ 140737488355328)
  (k : ∀ w' cells c', VarK w' w.heap.size e cells → cells.length = c' * s → m ≤ c' → c' ≤ maxLen → Kp w w' n_ → K (.slice (some ⟨w.heap.size, 0, none⟩) m c') w') :
  RunN P (builtin .append #[t, tn] ty cs [.slice none 0 0, .int kq (m : Nat)].toArray) w K := by
 obtain ⟨i, hi, z1, rfl, rfl⟩ := zbK hb
 have hr := Lib.run_append_grow_zeros (P := P) w t tn ty e i z kq kn ht htn hi z1 none 0 0 [] (by simp [Builtin.firstCells]) m h0 hs (by omega) (by omega) (by omega) (fits48 (by omega) (by simpa using hbytes))
 have hge := grownCap_ge w (0 + m) 0 e
 rw [Nat.zero_add] at hr hge
 refine ⟨_, w.drew.alloc (.cells ([].toArray ++ Builtin.zeroCells z.cells m ++ Builtin.zeroCells z.cells (grownCap w m 0 e - m)) e), ?_, k _ (Builtin.zeroCells z.cells m ++ Builtin.zeroCells z.cells (grownCap w m 0 e - m)).toList _ ?_ ?_ hge (grownCap_le_maxLen w m 0 e (by rw [show maxLen = 9223372036854775807 from rfl]; exact h63)) ?_⟩
 ·show (do pure (Next.value (← Builtin.append_ #[t, tn] ty #[.slice none 0 0, .int kq (m : Nat)])) : Sem Next).run P w = _
  simp only [Sem.run_bind, hr, Result.andThen_ok]
  rfl
 ·have := heap_alloc_new w.drew (.cells ([].toArray ++ Builtin.zeroCells z.cells m ++ Builtin.zeroCells z.cells (grownCap w m 0 e - m)) e)
  unfold VarK
  rw [show ((Builtin.zeroCells z.cells m ++ Builtin.zeroCells z.cells (grownCap w m 0 e - m)).toList).toArray = [].toArray ++ Builtin.zeroCells z.cells m ++ Builtin.zeroCells z.cells (grownCap w m 0 e - m) by apply Array.ext'; simp]
  exact this
 ·rw [Array.length_toList, Array.size_append, size_zeroCells, size_zeroCells, hz, ← Nat.add_mul]
  congr 1
  omega
 ·exact (Kp.refl w n_).drew.alloc _
end Go.Vc
namespace Go.Proofs.YtennokckmjcefaaGreatDoor
open Go.Shelf Go.RowKit Go.Pw Go.Vc Go.Cs Go.Lib
section
end
structure RowTy {α : Type} (T E : TypeId) (c : α → List Value) (s bytes : Nat) : Prop where
 ht : Tryz.prog.underlying T = some (.slice E)
 hb : ∃ z, (Tryz.prog.info? E).map (fun i => (i.zero, i.size, i.bytes)) = some (some z, s, bytes) ∧ z.cells.size = s
 hs : 0 < s
 len : ∀ x, (c x).length = s
 one : ∀ x, ∀ u ∈ c x, u.oneCell' = true
abbrev OwnR {α : Type} (E : TypeId) (c : α → List Value) (s : Nat) (w : World) (B : Nat) (v : Value) (l : List α) : Prop := w.ownsRow B E s v l.length (l.flatMap c)
section
variable {α : Type} {T E : TypeId} {c : α → List Value} {s bytes : Nat} {w : World} {K : Value → World → Prop} {B : Nat} {v : Value} {l : List α} {cs : Array Bool}
theorem RowTy.app (ty : RowTy T E c s bytes) {a : Option Addr} {m cap : Nat} (r : List α) (h : OwnR E c s w B v l) (hB : B ≤ w.heap.size) (hm : m = r.length) (hr : 0 < m → ∃ g o, a = some ⟨g, o, none⟩ ∧ At w g o (r.flatMap c))
  (h63 : l.length + r.length ≤ 9223372036854775807) (hbytes : (l.length + r.length) * bytes ≤ 140737488355328) (k : ∀ v' w', OwnR E c s w' B v' (l ++ r) → Kp w w' (own_ v) → K v' w') :
  RunN Tryz.prog (builtin .append #[T, T] T cs [v, .slice a m cap].toArray) w K := by
 subst hm
 obtain ⟨z, hb, hz⟩ := ty.hb
 cases a with
 | none =>
  have h0 : r.length = 0 := by
   rcases Nat.eq_zero_or_pos r.length with h0 | h0
   ·exact h0
   ·obtain ⟨g, o, e, _⟩ := hr h0; cases e
  have hn := List.eq_nil_of_length_eq_zero h0
  subst hn
  refine RunN.appNone ty.ht hb h (k _ _ ?_ (Kp.refl _ _))
  rw [List.append_nil]; exact h
 | some a =>
  refine RunN.app ty.ht hb hz ty.hs h hB a r.length cap (r.flatMap c) (zaV c s ty.len r) (fun j u hj => ?_) (fun u hu => ?_) h63 hbytes fun v' w' h2 h3 => k v' w' ?_ ?_
  ·rcases Nat.eq_zero_or_pos r.length with h0 | h0
   ·rw [List.eq_nil_of_length_eq_zero h0] at hj; simp at hj
   ·obtain ⟨g, o, e, hat⟩ := hr h0
    injection e with e
    subst e
    rw [add_none]
    exact hat j u hj
  ·obtain ⟨x, _, hx⟩ := List.mem_flatMap.1 hu
   exact ty.one x u hx
  ·unfold OwnR
   rw [List.length_append, List.flatMap_append]
   exact h2
  ·exact ⟨h3.os, h3.tape, h3.output, h3.size, fun i hi hn => h3.block i hi fun e => hn e.symm⟩
theorem RowTy.app1 (ty : RowTy T E c s bytes) {b cap : Nat} (x : α) (h : OwnR E c s w B v l) (hB : B ≤ w.heap.size) (hx : At w b 0 (c x)) (h63 : l.length + 1 ≤ 9223372036854775807) (hbytes : (l.length + 1) * bytes ≤ 140737488355328)
  (k : ∀ v' w', OwnR E c s w' B v' (l ++ [x]) → Kp w w' (own_ v) → K v' w') : RunN Tryz.prog (builtin .append #[T, T] T cs [v, .slice (some ⟨b, 0, none⟩) 1 cap].toArray) w K :=
 ty.app [x] h hB rfl (fun _ => ⟨b, 0, rfl, by rw [List.flatMap_singleton]; exact hx⟩) h63 hbytes k
theorem zoX {g o : Nat} (hl : ∀ x, (c x).length = s) (h : At w g o (l.flatMap c)) (i : Nat) : At w g (o + i * s) ((l.drop i).flatMap c) := fun j u hj => by
 rw [← zbP c s hl, List.getElem?_drop] at hj
 rw [Nat.add_assoc]
 exact h _ u hj
end
theorem tyI : RowTy 40 3 inC 1 8 := ⟨Tryz.underlying40, ⟨_, infoI, rfl⟩, by decide, lenI, fun x u hu => by rw [List.mem_singleton.1 hu]; rfl⟩
end Go.Proofs.YtennokckmjcefaaGreatDoor
namespace Go.Cd
def b8 (n : Nat) : UInt8 := UInt8.ofNat n
theorem zeS {n : Nat} (h : n < 256) : (b8 n).toNat = n := by simp [b8]; omega
def numF : Nat → Nat → List UInt8
 | 0, n => [b8 n]
 | k + 1, n => if n < 128 then [b8 n] else b8 (n % 128 + 128) :: numF k (n / 128)
def numE (n : Nat) : List UInt8 := numF 64 n
theorem zie : ∀ (j k n : Nat), n < 128 ^ (j + 1) → (numF k n).length ≤ j + 1
 | _, 0, n, _ => by simp [numF]
 | 0, k + 1, n, h => by unfold numF; rw [if_pos (by simpa using h)]; simp
 | j + 1, k + 1, n, h => by
  unfold numF
  split
  ·simp
  ·have := zie j k (n / 128) (by rw [Nat.pow_succ] at h; omega)
   simp; omega
theorem zeU : ∀ (k j n : Nat), n < 128 ^ (k + 1) → numF (k + j) n = numF k n
 | 0, j, n, h => by
  cases j with
  | zero => rfl
  | succ j => rw [Nat.zero_add]; unfold numF; rw [if_pos (by simpa using h)]
 | k + 1, j, n, h => by
  rw [show k + 1 + j = (k + j) + 1 by omega]
  unfold numF
  split
  ·rfl
  ·rw [zeU k j (n / 128) (by rw [Nat.pow_succ] at h; omega)]
theorem zlU {n : Nat} (h : n < 128) : numE n = [b8 n] := by unfold numE numF; rw [if_pos h]
theorem zpy {n : Nat} (h : 128 ≤ n) (h2 : n < 2 ^ 63) : numE n = b8 (n % 128 + 128) :: numE (n / 128) := by
 unfold numE
 conv => lhs; unfold numF
 rw [if_neg (by omega)]
 have e1 := zeU 62 1 (n / 128) (by omega)
 have e2 := zeU 62 2 (n / 128) (by omega)
 rw [e1, e2]
theorem zaC {n : Nat} (h : n < 2 ^ 63) : (numE n).length ≤ 9 := zie 8 64 n (by omega)
theorem zca (n : Nat) : 0 < (numE n).length := by unfold numE numF; split <;> simp
def numD : Nat → Bool → List UInt8 → Option (Nat × List UInt8)
 | 0, _, _ => none
 | _ + 1, _, [] => none
 | k + 1, z, b :: r => if 128 ≤ b.toNat then (numD k true r).map fun p => (b.toNat - 128 + 128 * p.1, p.2) else if z = true ∧ b.toNat = 0 then none else some (b.toNat, r)
theorem zeb : ∀ (k : Nat) (z : Bool) (u : List UInt8) (n : Nat) (r : List UInt8), numD k z u = some (n, r) → n < 128 ^ k ∧ r.length < u.length
 | 0, _, _, _, _, h => by cases h
 | _ + 1, _, [], _, _, h => by cases h
 | k + 1, z, b :: r, n, r', h => by
  unfold numD at h
  split at h
  ·cases hd : numD k true r with
   | none => rw [hd] at h; cases h
   | some p =>
    obtain ⟨m, q⟩ := p
    rw [hd] at h
    simp only [Option.map_some, Option.some.injEq, Prod.mk.injEq] at h
    obtain ⟨rfl, rfl⟩ := h
    obtain ⟨h1, h2⟩ := zeb k true r m q hd
    have := b.toNat_lt
    constructor
    ·rw [Nat.pow_succ]; omega
    ·simp; omega
  ·split at h
   ·cases h
   ·simp only [Option.some.injEq, Prod.mk.injEq] at h
    obtain ⟨rfl, rfl⟩ := h
    refine ⟨?_, by simp⟩
    rw [Nat.pow_succ]
    have := Nat.pos_of_ne_zero (show 128 ^ k ≠ 0 from Nat.ne_of_gt (Nat.pow_pos (by decide)))
    omega
theorem zkA : ∀ (k j n : Nat) (z : Bool) (r : List UInt8), n < 128 ^ k → k ≤ j + 1 → 0 < k → (z = true → 0 < n) → numD k z (numF j n ++ r) = some (n, r)
 | 0, _, n, _, _, h, _, h0, _ => by omega
 | k + 1, 0, n, z, r, h, hj, h0, hz => by
  obtain rfl : k = 0 := by omega
  have h : n < 128 := by simpa using h
  simp only [numF, List.cons_append, List.nil_append, numD]
  rw [zeS (by omega), if_neg (by omega), if_neg (by rintro ⟨h1, h2⟩; have := hz h1; omega)]
 | k + 1, j + 1, n, z, r, h, hj, h0, hz => by
  unfold numF
  split
  ·rename_i hn
   simp only [List.cons_append, List.nil_append, numD]
   rw [zeS (by omega), if_neg (by omega), if_neg (by rintro ⟨h1, h2⟩; have := hz h1; omega)]
  ·simp only [List.cons_append, numD]
   rw [zeS (by omega), if_pos (by omega), zkA k j (n / 128) true r (by rw [Nat.pow_succ] at h; omega) (by omega) (by cases k with | zero => simp at h; omega | succ k => omega) (fun _ => by omega)]
   simp only [Option.map_some]
   congr 2; omega
theorem zhc {n : Nat} (h : n < 2 ^ 63) (r : List UInt8) : numD 9 false (numE n ++ r) = some (n, r) := zkA 9 64 n false r (by omega) (by omega) (by omega) (fun h => by cases h)
abbrev St := Option (List UInt8)
def numR : St → Nat × St
 | none => (0, none)
 | some u => (match numD 9 false u with | none => (0, none) | some (n, r) => (n, some r))
def numsG : Nat → St → List Nat × St
 | 0, s => ([], s)
 | k + 1, s => (match numR s with
  | (_, none) => ([], none)
  | (n, some r) => (match numsG k (some r) with | (l, s) => (n :: l, s)))
def numsR (s : St) : List Nat × St :=
 match numR s with
 | (_, none) => ([], none)
 | (n, some r) => if r.length < n then ([], none) else (match numsG n (some r) with | (_, none) => ([], none) | p => p)
def numsE (l : List Nat) : List UInt8 := numE l.length ++ l.flatMap numE
end Go.Cd
namespace Go.Mg
open Go.Cs Go.Lib Go.Cd
structure Pst where
 doc : Int
 places : List Int
deriving DecidableEq, Inhabited
theorem zbA {n : Nat} (h : n < 2 ^ 63) (r : List UInt8) : numR (some (numE n ++ r)) = (n, some r) := by
 show (match numD 9 false (numE n ++ r) with | none => ((0 : Nat), (none : St)) | some (n, r) => (n, some r)) = _
 simp only [zhc h]
def risesB : Int → List Int → Bool
 | _, [] => true
 | low, n :: l => decide (low ≤ n ∧ n ≤ 1099511627776) && risesB (n + 1) l
theorem risesB_iff : ∀ (l : List Int) (low : Int), risesB low l = true ↔ AscB ltI l ∧ ∀ n ∈ l, low ≤ n ∧ n ≤ 1099511627776
 | [], low => by simp [risesB, AscB]
 | n :: l, low => by
  rw [risesB, Bool.and_eq_true, decide_eq_true_eq, risesB_iff l (n + 1)]
  unfold AscB
  rw [List.pairwise_cons]
  constructor
  ·rintro ⟨⟨h1, h2⟩, h3, h4⟩
   refine ⟨⟨fun a ha => ?_, h3⟩, fun m hm => ?_⟩
   ·have := h4 a ha; simp only [ltI, decide_eq_true_eq]; omega
   ·rcases List.mem_cons.1 hm with rfl | hm
    ·exact ⟨h1, h2⟩
    ·have := h4 m hm; omega
  ·rintro ⟨⟨h1, h2⟩, h3⟩
   refine ⟨h3 n List.mem_cons_self, h2, fun m hm => ?_⟩
   have a := h1 m hm
   have b := h3 m (List.mem_cons_of_mem _ hm)
   simp only [ltI, decide_eq_true_eq] at a; omega
theorem zdQ : ∀ (l : List Int) (low : Int), risesB low l = true → low ≤ 1099511627777 → (l.length : Int) ≤ 1099511627777 - low
 | [], low, _, h => by simp only [List.length_nil]; omega
 | n :: l, low, h, _ => by
  rw [risesB, Bool.and_eq_true, decide_eq_true_eq] at h
  have := zdQ l (n + 1) h.2 (by omega)
  simp only [List.length_cons]; omega
def okPl (p : Pst) : Bool := !p.places.isEmpty && risesB 0 p.places
def rightP (l : List Pst) : Bool := l.all okPl && risesB 1 (l.map (·.doc))
theorem zbO {l : List Pst} : rightP l = true ↔ (∀ p ∈ l, p.places ≠ [] ∧ risesB 0 p.places = true) ∧ risesB 1 (l.map (·.doc)) = true := by
 unfold rightP okPl
 simp
def difs : Int → List Int → List Nat
 | _, [] => []
 | at_, n :: l => (n - at_).toNat :: difs n l
def encN : Int → List Pst → List Nat
 | _, [] => []
 | d, p :: l => (p.doc - d).toNat :: p.places.length :: (difs 0 p.places ++ encN p.doc l)
def encP (l : List Pst) : List UInt8 := if rightP l = true then numE l.length ++ (encN 0 l).flatMap numE else []
def stL : St → Nat
 | none => 0
 | some u => u.length
def stepN (n b : Nat) : Nat := if 1099511627776 < b then 1099511627777 else min (n + b) 1099511627777
def dPl : Nat → Nat → St → List Int × St
 | 0, _, s => ([], s)
 | k + 1, a, s => if stL s = 0 then ([], s) else
  (((stepN a (numR s).1 : Nat) : Int) :: (dPl k (stepN a (numR s).1) (numR s).2).1, (dPl k (stepN a (numR s).1) (numR s).2).2)
def dDoc : Nat → Nat → St → List Pst × St
 | 0, _, s => ([], s)
 | k + 1, d, s => if stL s = 0 then ([], s) else
  (⟨((stepN d (numR s).1 : Nat) : Int), (dPl (numR (numR s).2).1 0 (numR (numR s).2).2).1⟩ :: (dDoc k (stepN d (numR s).1) (dPl (numR (numR s).2).1 0 (numR (numR s).2).2).2).1,
   (dDoc k (stepN d (numR s).1) (dPl (numR (numR s).2).1 0 (numR (numR s).2).2).2).2)
def decL (s : List UInt8) : List Pst × St := dDoc (numR (some s)).1 0 (numR (some s)).2
def decP (s : List UInt8) : Option (List Pst) := if (decL s).2 = some [] ∧ encP (decL s).1 = s then some (decL s).1 else none
theorem zjJ {a : Nat} {n : Int} (h1 : (a : Int) ≤ n) (h2 : n ≤ 1099511627776) : stepN a (n - a).toNat = n.toNat := by
 unfold stepN
 rw [if_neg (by omega)]
 omega
theorem zmn (n : Nat) (r : List UInt8) : stL (some (numE n ++ r)) ≠ 0 := by
 have := zca n
 simp only [stL, List.length_append]; omega
theorem znc : ∀ (l : List Int) (a : Nat) (low : Int) (r : List UInt8), risesB low l = true → (a : Int) ≤ low → dPl l.length a (some ((difs a l).flatMap numE ++ r)) = (l, some r)
 | [], a, low, r, _, _ => rfl
 | n :: l, a, low, r, h, ha => by
  rw [risesB, Bool.and_eq_true, decide_eq_true_eq] at h
  obtain ⟨⟨h1, h2⟩, h3⟩ := h
  have e : ((n.toNat : Nat) : Int) = n := by omega
  have ih := znc l n.toNat (n + 1) r h3 (by omega)
  rw [e] at ih
  rw [difs, List.flatMap_cons, List.append_assoc, List.length_cons, dPl, if_neg (zmn _ _), zbA (by omega)]
  dsimp only
  rw [zjJ (by omega) h2, ih, e]
theorem zko : ∀ (l : List Pst) (d : Nat) (low : Int) (r : List UInt8), (∀ p ∈ l, risesB 0 p.places = true) → risesB low (l.map (·.doc)) = true → (d : Int) ≤ low → dDoc l.length d (some ((encN d l).flatMap numE ++ r)) = (l, some r)
 | [], d, low, r, _, _, _ => rfl
 | p :: l, d, low, r, hp, h, hd => by
  rw [List.map_cons, risesB, Bool.and_eq_true, decide_eq_true_eq] at h
  obtain ⟨⟨h1, h2⟩, h3⟩ := h
  have hp1 := hp p List.mem_cons_self
  have hl := zdQ _ _ hp1 (by omega)
  have e : ((p.doc.toNat : Nat) : Int) = p.doc := by omega
  have ih := zko l p.doc.toNat (p.doc + 1) r (fun q hq => hp q (List.mem_cons_of_mem _ hq)) h3 (by omega)
  rw [e] at ih
  have h0 := znc p.places 0 0 ((encN p.doc l).flatMap numE ++ r) hp1 (by omega)
  rw [encN, List.flatMap_cons, List.flatMap_cons, List.flatMap_append, List.append_assoc, List.append_assoc, List.append_assoc, List.length_cons, dDoc, if_neg (zmn _ _), zbA (by omega)]
  dsimp only
  rw [zbA (by omega)]
  dsimp only
  rw [show (0 : Int) = ((0 : Nat) : Int) from rfl, h0]
  dsimp only
  rw [zjJ (by omega) h2, ih, e]
theorem zcM {l : List Pst} (h : rightP l = true) : encP l = numE l.length ++ (encN 0 l).flatMap numE := if_pos h
theorem zbN {l : List Int} {low low' : Int} (h : risesB low l = true) (hl : low' ≤ low) : risesB low' l = true := by
 rw [risesB_iff] at h ⊢
 exact ⟨h.1, fun n hn => by have := h.2 n hn; omega⟩
theorem zgq : ∀ (l : List Int) (a : Int), risesB a l = true → 0 ≤ a → ∀ n ∈ difs a l, n ≤ 1099511627776
 | [], a, _, _, n, h => by cases h
 | x :: l, a, hr, ha, n, h => by
  rw [risesB, Bool.and_eq_true, decide_eq_true_eq] at hr
  rcases List.mem_cons.1 h with rfl | h
  ·omega
  ·exact zgq l x (zbN hr.2 (by omega)) (by omega) n h
theorem zdF : ∀ (l : List Int) (a : Int), (difs a l).length = l.length
 | [], _ => rfl
 | x :: l, a => by rw [difs, List.length_cons, zdF l x, List.length_cons]
theorem zgi : ∀ (l : List Pst) (d : Int), (∀ p ∈ l, risesB 0 p.places = true) → risesB d (l.map (·.doc)) = true → 0 ≤ d → ∀ n ∈ encN d l, n ≤ 1099511627777
 | [], d, _, _, _, n, h => by cases h
 | p :: l, d, hp, hr, hd, n, h => by
  rw [List.map_cons, risesB, Bool.and_eq_true, decide_eq_true_eq] at hr
  have hp1 := hp p List.mem_cons_self
  have hl := zdQ _ _ hp1 (by omega)
  rw [encN] at h
  rcases List.mem_cons.1 h with rfl | h
  ·omega
  rcases List.mem_cons.1 h with rfl | h
  ·omega
  rcases List.mem_append.1 h with h | h
  ·have := zgq _ _ hp1 (by omega) n h; omega
  ·exact zgi l p.doc (fun q hq => hp q (List.mem_cons_of_mem _ hq)) (zbN hr.2 (by omega)) (by omega) n h
theorem zdD : ∀ (l : List Pst) (d : Int), (encN d l).length = (encN 0 l).length
 | [], _ => rfl
 | p :: l, d => by rw [encN, encN, List.length_cons, List.length_cons, List.length_append, List.length_cons, List.length_cons, List.length_append]
theorem zfK : ∀ (l : List Pst) (p : Pst), (encN 0 (l ++ [p])).length = (encN 0 l).length + 2 + p.places.length
 | [], p => by simp [encN, zdF]; omega
 | q :: l, p => by
  rw [List.cons_append, encN, encN, List.length_cons, List.length_cons, List.length_append, zdD (l ++ [p]), zfK l p, List.length_cons, List.length_cons, List.length_append, zdD l q.doc]; omega
theorem zbq : ∀ (l : List Pst) (p : Pst), p ∈ l → p.places.length ≤ (encN 0 l).length
 | q :: l, p, h => by
  rw [encN, List.length_cons, List.length_cons, List.length_append, zdF, zdD l]
  rcases List.mem_cons.1 h with rfl | h
  ·omega
  ·have := zbq l p h; omega
theorem zbI : ∀ l : List Pst, 2 * l.length ≤ (encN 0 l).length
 | [] => by simp
 | q :: l => by
  have := zbI l
  have e := zdD l q.doc
  simp only [encN, List.length_cons, List.length_append]; omega
theorem zhw {l : List Pst} (h : rightP l = true) : l.length ≤ 1099511627776 := by
 have := zdQ _ _ (zbO.1 h).2 (by omega)
 rw [List.length_map] at this; omega
theorem zbT (l : List Nat) (h : ∀ n ∈ l, n < 2 ^ 63) : (l.flatMap numE).length ≤ 9 * l.length := by
 induction l with
 | nil => simp
 | cons n l ih =>
  have h1 := zaC (h n List.mem_cons_self)
  have h2 := ih fun m hm => h m (List.mem_cons_of_mem _ hm)
  simp only [List.flatMap_cons, List.length_append, List.length_cons]; omega
theorem zdk (l : List Pst) : (encP l).length ≤ 9 + 9 * (encN 0 l).length := by
 unfold encP
 split
 ·rename_i h
  have h1 := zbO.1 h
  have h2 := zbT (encN 0 l) fun n hn => by have := zgi l 0 (fun p hp => (h1.1 p hp).2) (zbN h1.2 (by omega)) (by omega) n hn; omega
  have h3 := zhw h
  have h4 := zaC (show l.length < 2 ^ 63 by omega)
  rw [List.length_append]; omega
 ·simp
theorem zpR {l : List Pst} (h : rightP l = true) : decL (encP l) = (l, some []) := by
 obtain ⟨h1, h2⟩ := zbO.1 h
 have hl := zhw h
 have := zko l 0 1 [] (fun p hp => (h1 p hp).2) h2 (by omega)
 rw [List.append_nil] at this
 unfold decL
 rw [zcM h, zbA (by omega)]
 exact this
theorem zdV {l : List Pst} (h : rightP l = true) : decP (encP l) = some l := by
 unfold decP
 rw [zpR h, if_pos ⟨rfl, rfl⟩]
theorem zqm : decL [] = ([], none) := rfl
theorem zcP {s : List UInt8} {l : List Pst} : decP s = some l ↔ rightP l = true ∧ encP l = s := by
 constructor
 ·intro h
  unfold decP at h
  split at h
  ·rename_i hc
   injection h with h; subst h
   refine ⟨?_, hc.2⟩
   cases hr : rightP (decL s).1 with
   | true => rfl
   | false =>
    have h1 := hc.2
    unfold encP at h1
    rw [hr, if_neg (by decide)] at h1
    have h2 := hc.1
    rw [← h1, zqm] at h2; cases h2
  ·cases h
 ·rintro ⟨h, rfl⟩; exact zdV h
section
variable {α : Type} (c : α → α → Int)
def bothA (a : α) (f : List α → List (Option α × Option α)) : List α → List (Option α × Option α)
 | [] => (some a, none) :: f []
 | b :: bs => if c a b < 0 then (some a, none) :: f (b :: bs) else if c a b = 0 then (some a, some b) :: f bs else (none, some b) :: bothA a f bs
def bothL : List α → List α → List (Option α × Option α)
 | [], bs => bs.map fun b => (none, some b)
 | a :: aas, bs => bothA c a (bothL aas) bs
theorem zaW (aas : List α) : bothL c aas [] = aas.map fun a => (some a, none) := by
 induction aas with
 | nil => rfl
 | cons a aas ih => show (some a, none) :: bothL c aas [] = _; rw [ih]; rfl
theorem zbe (a b : α) (aas bs : List α) : bothL c (a :: aas) (b :: bs) = if c a b < 0 then (some a, none) :: bothL c aas (b :: bs) else if c a b = 0 then (some a, some b) :: bothL c aas bs else (none, some b) :: bothL c (a :: aas) bs := rfl
end
section
variable {α : Type} (c : α → α → Int)
theorem zgH (a : α) (aas : List α) (f : List α → List (Option α × Option α)) (hf : ∀ bs, ∀ p ∈ f bs, (p.1 ≠ none ∨ p.2 ≠ none) ∧ (∀ x, p.1 = some x → x ∈ aas) ∧ ∀ y, p.2 = some y → y ∈ bs) (hl : ∀ bs, (f bs).length ≤ aas.length + bs.length) :
  ∀ bs, (∀ p ∈ bothA c a f bs, (p.1 ≠ none ∨ p.2 ≠ none) ∧ (∀ x, p.1 = some x → x ∈ a :: aas) ∧ ∀ y, p.2 = some y → y ∈ bs) ∧ (bothA c a f bs).length ≤ aas.length + 1 + bs.length
 | [] => by
  constructor
  ·intro p hp
   rcases List.mem_cons.1 hp with rfl | hp
   ·exact ⟨.inl (by simp), fun x e => by injection e with e; subst e; exact List.mem_cons_self, fun y e => by cases e⟩
   ·obtain ⟨h1, h2, h3⟩ := hf _ p hp
    exact ⟨h1, fun x e => List.mem_cons_of_mem _ (h2 x e), h3⟩
  ·have := hl []
   simp only [bothA, List.length_cons]; simp only [List.length_nil] at *; omega
 | b :: bs => by
  have ih := zgH a aas f hf hl bs
  have hlb := hl (b :: bs)
  have hlb2 := hl bs
  unfold bothA
  constructor
  ·intro p hp
   split at hp
   ·rcases List.mem_cons.1 hp with rfl | hp
    ·exact ⟨.inl (by simp), fun x e => by injection e with e; subst e; exact List.mem_cons_self, fun y e => by cases e⟩
    ·obtain ⟨h1, h2, h3⟩ := hf _ p hp
     exact ⟨h1, fun x e => List.mem_cons_of_mem _ (h2 x e), h3⟩
   ·split at hp
    ·rcases List.mem_cons.1 hp with rfl | hp
     ·exact ⟨.inl (by simp), fun x e => by injection e with e; subst e; exact List.mem_cons_self, fun y e => by injection e with e; subst e; exact List.mem_cons_self⟩
     ·obtain ⟨h1, h2, h3⟩ := hf _ p hp
      exact ⟨h1, fun x e => List.mem_cons_of_mem _ (h2 x e), fun y e => List.mem_cons_of_mem _ (h3 y e)⟩
    ·rcases List.mem_cons.1 hp with rfl | hp
     ·exact ⟨.inr (by simp), fun x e => (by cases e), fun y e => by injection e with e; subst e; exact List.mem_cons_self⟩
     ·obtain ⟨h1, h2, h3⟩ := ih.1 p hp
      exact ⟨h1, h2, fun y e => List.mem_cons_of_mem _ (h3 y e)⟩
  ·split
   ·simp only [List.length_cons] at *; omega
   ·split
    ·simp only [List.length_cons] at *; omega
    ·have := ih.2; simp only [List.length_cons] at *; omega
theorem zaQ : ∀ (aas bs : List α), (∀ p ∈ bothL c aas bs, (p.1 ≠ none ∨ p.2 ≠ none) ∧ (∀ x, p.1 = some x → x ∈ aas) ∧ ∀ y, p.2 = some y → y ∈ bs) ∧ (bothL c aas bs).length ≤ aas.length + bs.length
 | [], bs => by
  refine ⟨fun p hp => ?_, by simp [bothL]⟩
  obtain ⟨b, hb, rfl⟩ := List.mem_map.1 hp
  exact ⟨.inr (by simp), fun x e => (by cases e), fun y e => by injection e with e; subst e; exact hb⟩
 | a :: aas, bs => by
  have := zgH c a aas (bothL c aas) (fun bs => (zaQ aas bs).1) (fun bs => (zaQ aas bs).2) bs
  exact ⟨this.1, by have := this.2; rw [List.length_cons]; exact this⟩
theorem zfb {β : Type} (f : β → α) : ∀ (aas bs : List β), bothL c (aas.map f) (bs.map f) = (bothL (fun x y => c (f x) (f y)) aas bs).map fun p => (p.1.map f, p.2.map f)
 | [], bs => by simp [bothL, List.map_map]
 | a :: aas, bs => by
  have ih := zfb f aas
  induction bs with
  | nil => rw [List.map_nil, zaW, zaW, List.map_map, List.map_map]; rfl
  | cons b bs ihb =>
   rw [List.map_cons, List.map_cons, zbe, zbe]
   split
   ·rw [List.map_cons, ← ih]; rfl
   ·split
    ·rw [List.map_cons, ← ih]; rfl
    ·rw [List.map_cons, ← ihb]; rfl
end
def cmpI (x y : Int) : Int := if x < y then -1 else if y < x then 1 else 0
def fstO (p : Option Int × Option Int) : Int := p.1.getD (p.2.getD 0)
def unI (x y : List Int) : List Int := (bothL cmpI x y).map fstO
def orO : Option Pst × Option Pst → Pst
 | (some x, some y) => ⟨x.doc, unI x.places y.places⟩
 | (some x, none) => x
 | (none, some y) => y
 | (none, none) => default
def cmpD (x y : Pst) : Int := cmpI x.doc y.doc
def orP (a b : List Pst) : List Pst := (bothL cmpD a b).map orO
theorem zcE (x : List Int) : unI x [] = x := by
 unfold unI; rw [zaW, List.map_map]
 conv => rhs; rw [← List.map_id x]
 rfl
theorem zdm (x : List Int) : unI [] x = x := by
 show (x.map fun b => (none, some b)).map fstO = x
 rw [List.map_map]
 conv => rhs; rw [← List.map_id x]
 rfl
theorem zkE (a b : Int) (x y : List Int) : unI (a :: x) (b :: y) = if a < b then a :: unI x (b :: y) else if b < a then b :: unI (a :: x) y else a :: unI x y := by
 unfold unI
 rw [zbe]
 unfold cmpI
 by_cases h1 : a < b
 ·rw [if_pos h1, if_pos h1, if_pos (by decide)]; rfl
 ·rw [if_neg h1, if_neg h1]
  by_cases h2 : b < a
  ·rw [if_pos h2, if_pos h2, if_neg (by decide), if_neg (by decide)]; rfl
  ·rw [if_neg h2, if_neg h2, if_neg (by decide), if_pos rfl]; rfl
theorem zcY : ∀ (n : Nat) (x y : List Int), x.length + y.length ≤ n → AscB ltI x → AscB ltI y → AscB ltI (unI x y) ∧ ∀ z, z ∈ unI x y ↔ z ∈ x ∨ z ∈ y
 | _, [], y, _, _, hy => by rw [zdm]; exact ⟨hy, fun z => by simp⟩
 | _, a :: x, [], _, hx, _ => by rw [zcE]; exact ⟨hx, fun z => by simp⟩
 | 0, a :: x, b :: y, h, _, _ => by simp at h
 | n + 1, a :: x, b :: y, h, hx, hy => by
  have hx' := List.pairwise_cons.1 hx
  have hy' := List.pairwise_cons.1 hy
  have hxx := hx'.1
  have hyy := hy'.1
  simp only [ltI, decide_eq_true_eq] at hxx hyy
  simp only [List.length_cons] at h
  rw [zkE]
  by_cases h1 : a < b
  ·rw [if_pos h1]
   obtain ⟨i1, i2⟩ := zcY n x (b :: y) (by simp only [List.length_cons]; omega) hx'.2 hy
   refine ⟨List.pairwise_cons.2 ⟨fun z hz => ?_, i1⟩, fun z => by rw [List.mem_cons, i2]; simp only [List.mem_cons]; exact or_assoc.symm⟩
   simp only [ltI, decide_eq_true_eq]
   rcases (i2 z).1 hz with h | h
   ·exact hxx z h
   ·rcases List.mem_cons.1 h with rfl | h
    ·exact h1
    ·have := hyy z h; omega
  ·rw [if_neg h1]
   by_cases h2 : b < a
   ·rw [if_pos h2]
    obtain ⟨i1, i2⟩ := zcY n (a :: x) y (by simp only [List.length_cons]; omega) hx hy'.2
    refine ⟨List.pairwise_cons.2 ⟨fun z hz => ?_, i1⟩, fun z => by rw [List.mem_cons, i2]; simp only [List.mem_cons]; exact or_left_comm⟩
    simp only [ltI, decide_eq_true_eq]
    rcases (i2 z).1 hz with h | h
    ·rcases List.mem_cons.1 h with rfl | h
     ·exact h2
     ·have := hxx z h; omega
    ·exact hyy z h
   ·rw [if_neg h2]
    obtain rfl : a = b := by omega
    obtain ⟨i1, i2⟩ := zcY n x y (by omega) hx'.2 hy'.2
    refine ⟨List.pairwise_cons.2 ⟨fun z hz => ?_, i1⟩, fun z => by
     rw [List.mem_cons, i2]; simp only [List.mem_cons]
     constructor
     ·rintro (h | h | h)
      ·exact .inl (.inl h)
      ·exact .inl (.inr h)
      ·exact .inr (.inr h)
     ·rintro ((h | h) | (h | h))
      ·exact .inl h
      ·exact .inr (.inl h)
      ·exact .inl h
      ·exact .inr (.inr h)⟩
    simp only [ltI, decide_eq_true_eq]
    rcases (i2 z).1 hz with h | h
    ·exact hxx z h
    ·exact hyy z h
theorem zrM {x y : List Int} (hx : AscB ltI x) (hy : AscB ltI y) : AscB ltI (unI x y) := (zcY _ x y (Nat.le_refl _) hx hy).1
theorem zch {x y : List Int} (hx : AscB ltI x) (hy : AscB ltI y) (z : Int) : z ∈ unI x y ↔ z ∈ x ∨ z ∈ y := (zcY _ x y (Nat.le_refl _) hx hy).2 z
def atD (l : List Pst) (d : Int) : List Int := match l.find? (fun p => decide (p.doc = d)) with | some p => p.places | none => []
theorem zaN (p : Pst) (l : List Pst) (d : Int) : atD (p :: l) d = if p.doc = d then p.places else atD l d := by
 unfold atD
 rw [List.find?_cons]
 by_cases h : p.doc = d
 ·rw [if_pos h, decide_eq_true h]
 ·rw [if_neg h, decide_eq_false h]
def AscP (l : List Pst) : Prop := l.Pairwise fun a b => a.doc < b.doc
theorem zdJ {l : List Pst} : AscP l ↔ AscB ltI (l.map (·.doc)) := by
 unfold AscP AscB
 rw [List.pairwise_map]
 simp only [ltI, decide_eq_true_eq]
theorem zkh {l : List Pst} {d : Int} (h : ∀ p ∈ l, d < p.doc) : atD l d = [] := by
 unfold atD
 rw [List.find?_eq_none.2 fun p hp => by have := h p hp; simp only [decide_eq_true_eq]; omega]
theorem zcG {l : List Pst} (h : AscP l) {p : Pst} (hp : p ∈ l) : atD l p.doc = p.places := by
 induction l with
 | nil => cases hp
 | cons q l ih =>
  rw [zaN]
  have h' := List.pairwise_cons.1 h
  rcases List.mem_cons.1 hp with rfl | hp
  ·rw [if_pos rfl]
  ·have := h'.1 p hp
   rw [if_neg (by omega)]; exact ih h'.2 hp
theorem znN {l : List Pst} {d : Int} (h : atD l d ≠ []) : ∃ p ∈ l, p.doc = d ∧ p.places = atD l d := by
 unfold atD at h ⊢
 cases hf : l.find? (fun p => decide (p.doc = d)) with
 | none => rw [hf] at h; exact absurd rfl h
 | some p => exact ⟨p, List.mem_of_find?_eq_some hf, of_decide_eq_true (List.find?_some (p := fun p => decide (Pst.doc p = d)) hf), rfl⟩
theorem zkX (a b : Pst) (x y : List Pst) : orP (a :: x) (b :: y) = if a.doc < b.doc then a :: orP x (b :: y) else if b.doc < a.doc then b :: orP (a :: x) y else ⟨a.doc, unI a.places b.places⟩ :: orP x y := by
 unfold orP
 rw [zbe]
 unfold cmpD cmpI
 by_cases h1 : a.doc < b.doc
 ·rw [if_pos h1, if_pos h1, if_pos (by decide)]; rfl
 ·rw [if_neg h1, if_neg h1]
  by_cases h2 : b.doc < a.doc
  ·rw [if_pos h2, if_pos h2, if_neg (by decide), if_neg (by decide)]; rfl
  ·rw [if_neg h2, if_neg h2, if_neg (by decide), if_pos rfl]; rfl
theorem zei (x : List Pst) : orP x [] = x := by
 unfold orP; rw [zaW, List.map_map]
 conv => rhs; rw [← List.map_id x]
 rfl
theorem zeg (x : List Pst) : orP [] x = x := by
 show (x.map fun b => (none, some b)).map orO = x
 rw [List.map_map]
 conv => rhs; rw [← List.map_id x]
 rfl
theorem zdP : ∀ (n : Nat) (x y : List Pst), x.length + y.length ≤ n → AscP x → AscP y →
  AscP (orP x y) ∧ (∀ p ∈ orP x y, (∃ q ∈ x, q.doc = p.doc) ∨ ∃ q ∈ y, q.doc = p.doc) ∧ ∀ d, atD (orP x y) d = unI (atD x d) (atD y d)
 | _, [], y, _, _, hy => by rw [zeg]; exact ⟨hy, fun p hp => .inr ⟨p, hp, rfl⟩, fun d => (zdm _).symm⟩
 | _, a :: x, [], _, hx, _ => by rw [zei]; exact ⟨hx, fun p hp => .inl ⟨p, hp, rfl⟩, fun d => (zcE _).symm⟩
 | 0, a :: x, b :: y, h, _, _ => by simp at h
 | n + 1, a :: x, b :: y, h, hx, hy => by
  have hx' := List.pairwise_cons.1 hx
  have hy' := List.pairwise_cons.1 hy
  simp only [List.length_cons] at h
  rw [zkX]
  by_cases h1 : a.doc < b.doc
  ·rw [if_pos h1]
   obtain ⟨i1, i2, i3⟩ := zdP n x (b :: y) (by simp only [List.length_cons]; omega) hx'.2 hy
   refine ⟨List.pairwise_cons.2 ⟨fun z hz => ?_, i1⟩, fun p hp => ?_, fun d => ?_⟩
   ·rcases i2 z hz with ⟨q, hq, e⟩ | ⟨q, hq, e⟩
    ·have := hx'.1 q hq; omega
    ·rcases List.mem_cons.1 hq with rfl | hq
     ·omega
     ·have := hy'.1 q hq; omega
   ·rcases List.mem_cons.1 hp with rfl | hp
    ·exact .inl ⟨p, List.mem_cons_self, rfl⟩
    ·rcases i2 p hp with ⟨q, hq, e⟩ | h
     ·exact .inl ⟨q, List.mem_cons_of_mem _ hq, e⟩
     ·exact .inr h
   ·rw [zaN, i3, zaN a x]
    by_cases hd : a.doc = d
    ·rw [if_pos hd, if_pos hd, zkh (l := b :: y) (fun p hp => by rcases List.mem_cons.1 hp with rfl | hp; omega; have := hy'.1 p hp; omega), zcE]
    ·rw [if_neg hd, if_neg hd]
  ·rw [if_neg h1]
   by_cases h2 : b.doc < a.doc
   ·rw [if_pos h2]
    obtain ⟨i1, i2, i3⟩ := zdP n (a :: x) y (by simp only [List.length_cons]; omega) hx hy'.2
    refine ⟨List.pairwise_cons.2 ⟨fun z hz => ?_, i1⟩, fun p hp => ?_, fun d => ?_⟩
    ·rcases i2 z hz with ⟨q, hq, e⟩ | ⟨q, hq, e⟩
     ·rcases List.mem_cons.1 hq with rfl | hq
      ·omega
      ·have := hx'.1 q hq; omega
     ·have := hy'.1 q hq; omega
    ·rcases List.mem_cons.1 hp with rfl | hp
     ·exact .inr ⟨p, List.mem_cons_self, rfl⟩
     ·rcases i2 p hp with h | ⟨q, hq, e⟩
      ·exact .inl h
      ·exact .inr ⟨q, List.mem_cons_of_mem _ hq, e⟩
    ·rw [zaN, i3, zaN b y]
     by_cases hd : b.doc = d
     ·rw [if_pos hd, if_pos hd, zkh (l := a :: x) (fun p hp => by rcases List.mem_cons.1 hp with rfl | hp; omega; have := hx'.1 p hp; omega), zdm]
     ·rw [if_neg hd, if_neg hd]
   ·rw [if_neg h2]
    have he : a.doc = b.doc := by omega
    obtain ⟨i1, i2, i3⟩ := zdP n x y (by omega) hx'.2 hy'.2
    refine ⟨List.pairwise_cons.2 ⟨fun z hz => ?_, i1⟩, fun p hp => ?_, fun d => ?_⟩
    ·dsimp only
     rcases i2 z hz with ⟨q, hq, e⟩ | ⟨q, hq, e⟩
     ·have := hx'.1 q hq; omega
     ·have := hy'.1 q hq; omega
    ·rcases List.mem_cons.1 hp with rfl | hp
     ·exact .inl ⟨a, List.mem_cons_self, rfl⟩
     ·rcases i2 p hp with ⟨q, hq, e⟩ | ⟨q, hq, e⟩
      ·exact .inl ⟨q, List.mem_cons_of_mem _ hq, e⟩
      ·exact .inr ⟨q, List.mem_cons_of_mem _ hq, e⟩
    ·rw [zaN, i3, zaN a x, zaN b y]
     dsimp only
     by_cases hd : a.doc = d
     ·rw [if_pos hd, if_pos hd, if_pos (by omega)]
     ·rw [if_neg hd, if_neg hd, if_neg (by omega)]
theorem zbd {l : List Pst} (h : rightP l = true) : AscP l := zdJ.2 ((risesB_iff _ _).1 (zbO.1 h).2).1
theorem zaz {l : List Pst} : rightP l = true ↔ AscP l ∧ ∀ p ∈ l, 1 ≤ p.doc ∧ p.doc ≤ 1099511627776 ∧ p.places ≠ [] ∧ AscB ltI p.places ∧ ∀ n ∈ p.places, 0 ≤ n ∧ n ≤ 1099511627776 := by
 rw [zbO, risesB_iff, ← zdJ]
 constructor
 ·rintro ⟨h1, h2, h3⟩
  exact ⟨h2, fun p hp => ⟨(h3 p.doc (List.mem_map_of_mem hp)).1, (h3 p.doc (List.mem_map_of_mem hp)).2, (h1 p hp).1, (risesB_iff _ _).1 (h1 p hp).2⟩⟩
 ·rintro ⟨h1, h2⟩
  refine ⟨fun p hp => ⟨(h2 p hp).2.2.1, (risesB_iff _ _).2 (h2 p hp).2.2.2⟩, h1, fun n hn => ?_⟩
  obtain ⟨p, hp, rfl⟩ := List.mem_map.1 hn
  exact ⟨(h2 p hp).1, (h2 p hp).2.1⟩
theorem zmD {a b : List Pst} (ha : rightP a = true) (hb : rightP b = true) (h : ∀ d, atD a d = atD b d) : a = b := by
 rw [zaz] at ha hb
 have key : ∀ {x y : List Pst}, AscP x → AscP y → (∀ p ∈ x, p.places ≠ []) → (∀ d, atD x d = atD y d) → ∀ p ∈ x, p ∈ y := fun {x y} hx hy hn hxy p hp => by
  have h1 := zcG hx hp
  obtain ⟨q, hq, e1, e2⟩ := znN (l := y) (d := p.doc) (by rw [← hxy, h1]; exact hn p hp)
  rw [← hxy, h1] at e2
  obtain ⟨d1, l1⟩ := p
  obtain ⟨d2, l2⟩ := q
  dsimp only at e1 e2
  subst e1 e2
  exact hq
 have h1 := key ha.1 hb.1 (fun p hp => (ha.2 p hp).2.2.1) h
 have h2 := key hb.1 ha.1 (fun p hp => (hb.2 p hp).2.2.1) fun d => (h d).symm
 have sto : ∀ {x y : List Pst}, AscP x → AscP y → (∀ p, p ∈ x ↔ p ∈ y) → x = y := by
  intro x
  induction x with
  | nil => intro y _ _ hm; cases y with
   | nil => rfl
   | cons q y => exact absurd ((hm q).2 List.mem_cons_self) (by simp)
  | cons p x ih =>
   intro y hx hy hm
   cases y with
   | nil => exact absurd ((hm p).1 List.mem_cons_self) (by simp)
   | cons q y =>
    have hx' := List.pairwise_cons.1 hx
    have hy' := List.pairwise_cons.1 hy
    have e : p = q := by
     rcases List.mem_cons.1 ((hm p).1 List.mem_cons_self) with h | h
     ·exact h
     ·rcases List.mem_cons.1 ((hm q).2 List.mem_cons_self) with h' | h'
      ·exact h'.symm
      ·have := hx'.1 q h'; have := hy'.1 p h; omega
    subst e
    congr 1
    refine ih hx'.2 hy'.2 fun z => ?_
    have := hm z
    simp only [List.mem_cons] at this
    constructor
    ·intro hz
     rcases this.1 (.inr hz) with rfl | h
     ·have := hx'.1 z hz; omega
     ·exact h
    ·intro hz
     rcases this.2 (.inr hz) with rfl | h
     ·have := hy'.1 z hz; omega
     ·exact h
 exact sto ha.1 hb.1 fun p => ⟨h1 p, h2 p⟩
theorem zsY {x y : List Int} (h : x ≠ []) : unI x y ≠ [] := by
 cases x with
 | nil => exact absurd rfl h
 | cons a x =>
  cases y with
  | nil => rw [zcE]; exact h
  | cons b y => rw [zkE]; split; simp; split <;> simp
theorem zgt {x y : List Int} : unI x y = [] ↔ x = [] ∧ y = [] := by
 constructor
 ·intro h
  cases x with
  | nil => rw [zdm] at h; exact ⟨rfl, h⟩
  | cons a x => exact absurd h (zsY (by simp))
 ·rintro ⟨rfl, rfl⟩; rfl
theorem zfM {l : List Pst} (h : rightP l = true) (d : Int) : AscB ltI (atD l d) ∧ ∀ n ∈ atD l d, 0 ≤ n ∧ n ≤ 1099511627776 := by
 by_cases hn : atD l d = []
 ·rw [hn]; exact ⟨.nil, fun n h => by cases h⟩
 ·obtain ⟨p, hp, _, e⟩ := znN hn
  rw [← e]; exact ((zaz.1 h).2 p hp).2.2.2
theorem zdy {a b : List Pst} (ha : rightP a = true) (hb : rightP b = true) : rightP (orP a b) = true := by
 have ha' := zaz.1 ha
 have hb' := zaz.1 hb
 obtain ⟨h1, h2, h3⟩ := zdP _ a b (Nat.le_refl _) ha'.1 hb'.1
 rw [zaz]
 refine ⟨h1, fun p hp => ?_⟩
 have hat := h3 p.doc
 rw [zcG h1 hp] at hat
 have pa := zfM ha p.doc
 have pb := zfM hb p.doc
 have hne : p.places ≠ [] := by
  rw [hat]
  intro e
  obtain ⟨e1, e2⟩ := zgt.1 e
  rcases h2 p hp with ⟨q, hq, e⟩ | ⟨q, hq, e⟩
  ·rw [← e, zcG ha'.1 hq] at e1; exact (ha'.2 q hq).2.2.1 e1
  ·rw [← e, zcG hb'.1 hq] at e2; exact (hb'.2 q hq).2.2.1 e2
 refine ⟨?_, ?_, hne, by rw [hat]; exact zrM pa.1 pb.1, fun n hn => ?_⟩
 ·rcases h2 p hp with ⟨q, hq, e⟩ | ⟨q, hq, e⟩
  ·rw [← e]; exact (ha'.2 q hq).1
  ·rw [← e]; exact (hb'.2 q hq).1
 ·rcases h2 p hp with ⟨q, hq, e⟩ | ⟨q, hq, e⟩
  ·rw [← e]; exact (ha'.2 q hq).2.1
  ·rw [← e]; exact (hb'.2 q hq).2.1
 ·rw [hat, zch pa.1 pb.1] at hn
  rcases hn with h | h
  ·exact pa.2 n h
  ·exact pb.2 n h
theorem zho {a b : List Pst} (ha : rightP a = true) (hb : rightP b = true) (d : Int) : atD (orP a b) d = unI (atD a d) (atD b d) :=
 (zdP _ a b (Nat.le_refl _) (zbd ha) (zbd hb)).2.2 d
end Go.Mg
