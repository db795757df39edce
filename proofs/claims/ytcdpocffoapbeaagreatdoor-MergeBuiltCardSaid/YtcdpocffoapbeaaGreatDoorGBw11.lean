/- Helper text of this claim: Bw11, Bw12, Aa0, Aa1, Aa2, Aa3, Aa4, Aa5, Aa6, Ag5, Ag6, AppR, Cd0: lemmas and contracts that the proved statement rests on; no conditions of its own. -/
import Derived.Test.YtcdpocffoapbeaaGreatDoorGCw5
import Derived.Test.YtcdpocffoapbeaaGreatDoorGKit10
import Derived.Lib.IndexAny
-- alias Tryz
namespace Go.Proofs.YtcdpocffoapbeaaGreatDoor
set_option linter.unusedVariables false
open Go.RowKit Go.Pw Go.Vc Go.Cs Go.Lib
set_option linter.unusedVariables false
set_option maxRecDepth 100000
section
end
end Go.Proofs.YtcdpocffoapbeaaGreatDoor

-- alias Tryz
namespace Go.Proofs.YtcdpocffoapbeaaGreatDoor
set_option linter.unusedVariables false
open Go.RowKit Go.Pw Go.Vc Go.Cs Go.Lib
set_option linter.unusedVariables false
set_option maxRecDepth 100000
section
end
end Go.Proofs.YtcdpocffoapbeaaGreatDoor

-- alias Tryz
namespace Go.Proofs.YtcdpocffoapbeaaGreatDoor
set_option linter.unusedVariables false
open Go.Shelf Go.RowKit Go.Pw Go.Vc Go.Cs Go.Lib Go.Sort
set_option linter.unusedVariables false
set_option maxRecDepth 100000
section
end
end Go.Proofs.YtcdpocffoapbeaaGreatDoor

-- alias Tryz
namespace Go.Proofs.YtcdpocffoapbeaaGreatDoor
set_option linter.unusedVariables false
open Go.Shelf Go.RowKit Go.Pw Go.Vc Go.Cs Go.Lib
set_option linter.unusedVariables false
set_option maxRecDepth 100000
section
end
end Go.Proofs.YtcdpocffoapbeaaGreatDoor

-- alias Tryz
namespace Go.Proofs.YtcdpocffoapbeaaGreatDoor
set_option linter.unusedVariables false
open Go.Shelf Go.RowKit Go.Pw Go.Vc Go.Cs Go.Lib
set_option linter.unusedVariables false
set_option maxRecDepth 100000
structure MailOk (w : World) (x : Mr) : Prop where
  b : RowI w x.b.v x.m.boxes
  f : RowT w x.f.v x.m.flags
theorem MailOk.keep {w w' : World} {x : Mr} (h : MailOk w x) (k : Keeps w w' none_) : MailOk w' x := ⟨h.b.keep k, h.f.keep k⟩
/-- Rows in different blocks. -/
def Apart (v u : Value) : Prop := ∀ k, v.ownBlock = some k → u.ownBlock ≠ some k
theorem keeps_new {a w w' : World} {b : Nat} (h : Keeps a w none_) (k : Keeps w w' (one_ b)) (hb : a.heap.size ≤ b) : Keeps a w' none_ := h.trans k fun q hq e => by have e : q = b := e; omega
section
end
end Go.Proofs.YtcdpocffoapbeaaGreatDoor

-- alias Tryz
namespace Go.Proofs.YtcdpocffoapbeaaGreatDoor
set_option linter.unusedVariables false
open Go.Shelf Go.RowKit Go.Pw Go.Vc Go.Cs Go.Lib
set_option linter.unusedVariables false
set_option maxRecDepth 100000
/-- The headers of an account's slices. -/
structure Hd where
  B : Sl
  M : Sl
  S : Sl
  N : Sl
def RowM (w : World) (v : Value) (l : List Ml) : Prop := ∃ lx : List Mr, lx.map (·.m) = l ∧ RowMr w v lx ∧ ∀ x ∈ lx, MailOk w x
theorem RowM.keep {w w' : World} {v : Value} {l : List Ml} (h : RowM w v l) (k : Keeps w w' none_) : RowM w' v l := by
  obtain ⟨lx, h1, h2, h3⟩ := h
  exact ⟨lx, h1, h2.keep k, fun x hx => (h3 x hx).keep k⟩
/-- An account in memory, to be read. -/
structure AccR (w : World) (h : Hd) (A : Acc) : Prop where
  b : RowB w h.B.v A.boxes
  m : RowM w h.M.v A.mails
  s : RowS w h.S.v A.scripts
  n : RowN w h.N.v A.seen
theorem AccR.keep {w w' : World} {h : Hd} {A : Acc} (r : AccR w h A) (k : Keeps w w' none_) : AccR w' h A := ⟨r.b.keep k, r.m.keep k, r.s.keep k, r.n.keep k⟩
section
end
end Go.Proofs.YtcdpocffoapbeaaGreatDoor

-- alias Tryz
namespace Go.Proofs.YtcdpocffoapbeaaGreatDoor
set_option linter.unusedVariables false
open Go.Shelf Go.RowKit Go.Pw Go.Vc Go.Cs Go.Lib
set_option linter.unusedVariables false
set_option maxRecDepth 100000
section
end
end Go.Proofs.YtcdpocffoapbeaaGreatDoor

-- alias Tryz
namespace Go.Proofs.YtcdpocffoapbeaaGreatDoor
set_option linter.unusedVariables false
open Go.Shelf Go.RowKit Go.Pw Go.Vc Go.Cs Go.Lib
set_option linter.unusedVariables false
set_option maxRecDepth 100000
section
end
end Go.Proofs.YtcdpocffoapbeaaGreatDoor

-- alias Tryz
namespace Go.Proofs.YtcdpocffoapbeaaGreatDoor
set_option linter.unusedVariables false
open Go.Shelf Go.RowKit Go.Pw Go.Vc Go.Cs Go.Lib
set_option linter.unusedVariables false
set_option maxRecDepth 100000
/-- The blocks of a message's own rows. -/
def Mr.bs (x : Mr) : List Nat := x.b.v.ownBlock.toList ++ x.f.v.ownBlock.toList
def Hd.bs (h : Hd) : List Nat := h.B.v.ownBlock.toList ++ h.S.v.ownBlock.toList ++ h.N.v.ownBlock.toList ++ h.M.v.ownBlock.toList
theorem own_keepA {w w' : World} {B s n : Nat} {e : TypeId} {v u : Value} {xs : List Value} (h : w.ownsRow B e s v n xs) (k : Keeps w w' (own_ u)) (ap : Apart v u) : w'.ownsRow B e s v n xs :=
  own_keep h k fun g hg e => ap g hg e
section
end
end Go.Proofs.YtcdpocffoapbeaaGreatDoor

-- alias Tryz
namespace Go.Proofs.YtcdpocffoapbeaaGreatDoor
set_option linter.unusedVariables false
open Go.RowKit Go.Pw Go.Vc Go.Cs Go.Lib
set_option linter.unusedVariables false
set_option maxRecDepth 100000
theorem filt_step {α : Type} {p : α → Bool} {l : List α} {j : Nat} (h : j < l.length) : (l.take (j + 1)).filter p = (l.take j).filter p ++ (if p l[j] = true then [l[j]] else []) := by
  rw [List.take_succ_eq_append_getElem h, List.filter_append]
  congr 1
  by_cases hp : p l[j] = true
  · rw [if_pos hp, List.filter_cons_of_pos hp]; rfl
  · rw [if_neg hp, List.filter_cons_of_neg hp]; rfl
end Go.Proofs.YtcdpocffoapbeaaGreatDoor

-- alias Tryz
namespace Go.Vc
set_option linter.unusedVariables false
open Go Go.Pw Go.RowKit
theorem RunN.appNone {P : Program} {w : World} {K : Value → World → Prop} {t ty e : TypeId} {cs : Array Bool} {B s n c bytes : Nat} {z v : Value} {xs : List Value} (ht : P.underlying t = some (.slice e)) (hb : (P.info? e).map (fun i => (i.zero, i.size, i.bytes)) = some (some z, s, bytes))
    (hown : w.ownsRow B e s v n xs) (k : K v w) : RunN P (builtin .append #[t, t] ty cs [v, .slice none 0 c].toArray) w K := by
  obtain ⟨i, hi, _, _, _⟩ := info_one hb
  refine ⟨v, w, ?_, k⟩
  show (do pure (Next.value (← Builtin.append_ #[t, t] ty #[v, .slice none 0 c])) : Sem Next).run P w = _
  rcases hown.2 with ⟨rfl, rfl⟩ | ⟨g, cap, cur, rfl, _, _, hnc, _⟩
  · simp [Builtin.append_, run_underlying ht, sizeOf, typeInfo, hi, Builtin.lenOf, Builtin.firstCells]
  · simp [Builtin.append_, run_underlying ht, sizeOf, typeInfo, hi, Builtin.lenOf, Builtin.firstCells, hnc, storeCells]
/-- 'append(nil, make([]T, m)...)'. -/
theorem RunN.zeros0 {P : Program} {w : World} {K : Value → World → Prop} {t tn ty e : TypeId} {cs : Array Bool} {s bytes : Nat} {z : Value} {kq kn : IntKind} (ht : P.underlying t = some (.slice e)) (htn : P.underlying tn = some (.int kn)) (hb : (P.info? e).map (fun i => (i.zero, i.size, i.bytes)) = some (some z, s, bytes)) (hz : z.cells.size = s) (hs : 0 < s) {m : Nat} (h0 : 0 < m)
    (h63 : m ≤ 9223372036854775807) (hbytes : m * bytes ≤ 140737488355328)
    (k : ∀ w' cells c', VarK w' w.heap.size e cells → cells.length = c' * s → m ≤ c' → c' ≤ maxLen → Keeps w w' none_ → K (.slice (some ⟨w.heap.size, 0, none⟩) m c') w') :
    RunN P (builtin .append #[t, tn] ty cs [.slice none 0 0, .int kq (m : Nat)].toArray) w K := by
  obtain ⟨i, hi, z1, rfl, rfl⟩ := info_one hb
  have hr := Lib.run_append_grow_zeros (P := P) w t tn ty e i z kq kn ht htn hi z1 none 0 0 [] (by simp [Builtin.firstCells]) m h0 hs (by omega) (by omega) (by omega) (fits48 (by omega) (by simpa using hbytes))
  have hge := grownCap_ge w (0 + m) 0 e
  rw [Nat.zero_add] at hr hge
  refine ⟨_, w.drew.alloc (.cells ([].toArray ++ Builtin.zeroCells z.cells m ++ Builtin.zeroCells z.cells (grownCap w m 0 e - m)) e), ?_, k _ (Builtin.zeroCells z.cells m ++ Builtin.zeroCells z.cells (grownCap w m 0 e - m)).toList _ ?_ ?_ hge (grownCap_le_maxLen w m 0 e (by rw [show maxLen = 9223372036854775807 from rfl]; exact h63)) ?_⟩
  · show (do pure (Next.value (← Builtin.append_ #[t, tn] ty #[.slice none 0 0, .int kq (m : Nat)])) : Sem Next).run P w = _
    simp only [Sem.run_bind, hr, Result.andThen_ok]
    rfl
  · have := heap_alloc_new w.drew (.cells ([].toArray ++ Builtin.zeroCells z.cells m ++ Builtin.zeroCells z.cells (grownCap w m 0 e - m)) e)
    unfold VarK
    rw [show ((Builtin.zeroCells z.cells m ++ Builtin.zeroCells z.cells (grownCap w m 0 e - m)).toList).toArray = [].toArray ++ Builtin.zeroCells z.cells m ++ Builtin.zeroCells z.cells (grownCap w m 0 e - m) by apply Array.ext'; simp]
    exact this
  · rw [Array.length_toList, Array.size_append, size_zeroCells, size_zeroCells, hz, ← Nat.add_mul]
    congr 1
    omega
  · exact (Keeps.refl w none_).drew.alloc _
end Go.Vc
namespace Go.Proofs.YtcdpocffoapbeaaGreatDoor
set_option linter.unusedVariables false
open Go.Shelf Go.RowKit Go.Pw Go.Vc Go.Cs Go.Lib
set_option linter.unusedVariables false
set_option maxRecDepth 100000
section
end
end Go.Proofs.YtcdpocffoapbeaaGreatDoor

-- alias Tryz
namespace Go.Proofs.YtcdpocffoapbeaaGreatDoor
set_option linter.unusedVariables false
open Go.Shelf Go.RowKit Go.Pw Go.Vc Go.Cs Go.Lib
set_option linter.unusedVariables false
set_option maxRecDepth 100000
/-- A type of rows. -/
structure RowTy {α : Type} (T E : TypeId) (c : α → List Value) (s bytes : Nat) : Prop where
  ht : Tryz.prog.underlying T = some (.slice E)
  hb : ∃ z, (Tryz.prog.info? E).map (fun i => (i.zero, i.size, i.bytes)) = some (some z, s, bytes) ∧ z.cells.size = s
  hs : 0 < s
  len : ∀ x, (c x).length = s
  one : ∀ x, ∀ u ∈ c x, u.oneCell' = true
abbrev OwnR {α : Type} (E : TypeId) (c : α → List Value) (s : Nat) (w : World) (B : Nat) (v : Value) (l : List α) : Prop := w.ownsRow B E s v l.length (l.flatMap c)
section
variable {α : Type} {T E : TypeId} {c : α → List Value} {s bytes : Nat} {w : World} {K : Value → World → Prop} {B : Nat} {v : Value} {l : List α} {cs : Array Bool}
/-- A row appended. -/
theorem RowTy.app (ty : RowTy T E c s bytes) {a : Option Addr} {m cap : Nat} (r : List α) (h : OwnR E c s w B v l) (hB : B ≤ w.heap.size) (hm : m = r.length) (hr : 0 < m → ∃ g o, a = some ⟨g, o, none⟩ ∧ At w g o (r.flatMap c))
    (h63 : l.length + r.length ≤ 9223372036854775807) (hbytes : (l.length + r.length) * bytes ≤ 140737488355328) (k : ∀ v' w', OwnR E c s w' B v' (l ++ r) → Keeps w w' (own_ v) → K v' w') :
    RunN Tryz.prog (builtin .append #[T, T] T cs [v, .slice a m cap].toArray) w K := by
  subst hm
  obtain ⟨z, hb, hz⟩ := ty.hb
  cases a with
  | none =>
    have h0 : r.length = 0 := by
      rcases Nat.eq_zero_or_pos r.length with h0 | h0
      · exact h0
      · obtain ⟨g, o, e, _⟩ := hr h0; cases e
    have hn := List.eq_nil_of_length_eq_zero h0
    subst hn
    refine RunN.appNone ty.ht hb h (k _ _ ?_ (Keeps.refl _ _))
    rw [List.append_nil]; exact h
  | some a =>
    refine RunN.app ty.ht hb hz ty.hs h hB a r.length cap (r.flatMap c) (flatK_len c s ty.len r) (fun j u hj => ?_) (fun u hu => ?_) h63 hbytes fun v' w' h2 h3 => k v' w' ?_ ?_
    · rcases Nat.eq_zero_or_pos r.length with h0 | h0
      · rw [List.eq_nil_of_length_eq_zero h0] at hj; simp at hj
      · obtain ⟨g, o, e, hat⟩ := hr h0
        injection e with e
        subst e
        rw [add_none]
        exact hat j u hj
    · obtain ⟨x, _, hx⟩ := List.mem_flatMap.1 hu
      exact ty.one x u hx
    · unfold OwnR
      rw [List.length_append, List.flatMap_append]
      exact h2
    · exact ⟨h3.os, h3.tape, h3.output, h3.size, fun i hi hn => h3.block i hi fun e => hn e.symm⟩
/-- An element appended. -/
theorem RowTy.app1 (ty : RowTy T E c s bytes) {b cap : Nat} (x : α) (h : OwnR E c s w B v l) (hB : B ≤ w.heap.size) (hx : At w b 0 (c x)) (h63 : l.length + 1 ≤ 9223372036854775807) (hbytes : (l.length + 1) * bytes ≤ 140737488355328)
    (k : ∀ v' w', OwnR E c s w' B v' (l ++ [x]) → Keeps w w' (own_ v) → K v' w') : RunN Tryz.prog (builtin .append #[T, T] T cs [v, .slice (some ⟨b, 0, none⟩) 1 cap].toArray) w K :=
  ty.app [x] h hB rfl (fun _ => ⟨b, 0, rfl, by rw [List.flatMap_singleton]; exact hx⟩) h63 hbytes k
/-- An empty row, new. -/
theorem own_new (E : TypeId) (c : α → List Value) (s : Nat) (hs : 0 < s) (w : World) : OwnR E c s (w.alloc (.cells #[] E)) w.heap.size (.slice (some ⟨w.heap.size, 0, none⟩) 0 0) [] := World.ownsRow_made w #[] 0 (Nat.le_refl _) (by decide) (by simp)
theorem at_dropR {g o : Nat} (hl : ∀ x, (c x).length = s) (h : At w g o (l.flatMap c)) (i : Nat) : At w g (o + i * s) ((l.drop i).flatMap c) := fun j u hj => by
  rw [← flatK_drop c s hl, List.getElem?_drop] at hj
  rw [Nat.add_assoc]
  exact h _ u hj
end
theorem tyI : RowTy 23 3 inC 1 8 := ⟨Tryz.underlying23, ⟨_, infoI, rfl⟩, by decide, lenI, fun x u hu => by rw [List.mem_singleton.1 hu]; rfl⟩
end Go.Proofs.YtcdpocffoapbeaaGreatDoor

/-! The binary code, as plain functions: numbers and lists of numbers. -/
namespace Go.Cd
set_option linter.unusedVariables false
def b8 (n : Nat) : UInt8 := UInt8.ofNat n
theorem b8_toNat {n : Nat} (h : n < 256) : (b8 n).toNat = n := by simp [b8]; omega
def numF : Nat → Nat → List UInt8
  | 0, n => [b8 n]
  | k + 1, n => if n < 128 then [b8 n] else b8 (n % 128 + 128) :: numF k (n / 128)
/-- A number, its lowest seven bits first. -/
def numE (n : Nat) : List UInt8 := numF 64 n
theorem numF_len9 : ∀ (j k n : Nat), n < 128 ^ (j + 1) → (numF k n).length ≤ j + 1
  | _, 0, n, _ => by simp [numF]
  | 0, k + 1, n, h => by unfold numF; rw [if_pos (by simpa using h)]; simp
  | j + 1, k + 1, n, h => by
    unfold numF
    split
    · simp
    · have := numF_len9 j k (n / 128) (by rw [Nat.pow_succ] at h; omega)
      simp; omega
theorem numF_more : ∀ (k j n : Nat), n < 128 ^ (k + 1) → numF (k + j) n = numF k n
  | 0, j, n, h => by
    cases j with
    | zero => rfl
    | succ j => rw [Nat.zero_add]; unfold numF; rw [if_pos (by simpa using h)]
  | k + 1, j, n, h => by
    rw [show k + 1 + j = (k + j) + 1 by omega]
    unfold numF
    split
    · rfl
    · rw [numF_more k j (n / 128) (by rw [Nat.pow_succ] at h; omega)]
theorem numE_small {n : Nat} (h : n < 128) : numE n = [b8 n] := by unfold numE numF; rw [if_pos h]
theorem numE_big {n : Nat} (h : 128 ≤ n) (h2 : n < 2 ^ 63) : numE n = b8 (n % 128 + 128) :: numE (n / 128) := by
  unfold numE
  conv => lhs; unfold numF
  rw [if_neg (by omega)]
  have e1 := numF_more 62 1 (n / 128) (by omega)
  have e2 := numF_more 62 2 (n / 128) (by omega)
  rw [e1, e2]
theorem numE_len {n : Nat} (h : n < 2 ^ 63) : (numE n).length ≤ 9 := numF_len9 8 64 n (by omega)
theorem numE_pos (n : Nat) : 0 < (numE n).length := by unfold numE numF; split <;> simp
/-- A number read: k bytes at most, z: not the first byte. -/
def numD : Nat → Bool → List UInt8 → Option (Nat × List UInt8)
  | 0, _, _ => none
  | _ + 1, _, [] => none
  | k + 1, z, b :: r => if 128 ≤ b.toNat then (numD k true r).map fun p => (b.toNat - 128 + 128 * p.1, p.2) else if z = true ∧ b.toNat = 0 then none else some (b.toNat, r)
theorem numD_bound : ∀ (k : Nat) (z : Bool) (u : List UInt8) (n : Nat) (r : List UInt8), numD k z u = some (n, r) → n < 128 ^ k ∧ r.length < u.length
  | 0, _, _, _, _, h => by cases h
  | _ + 1, _, [], _, _, h => by cases h
  | k + 1, z, b :: r, n, r', h => by
    unfold numD at h
    split at h
    · cases hd : numD k true r with
      | none => rw [hd] at h; cases h
      | some p =>
        obtain ⟨m, q⟩ := p
        rw [hd] at h
        simp only [Option.map_some, Option.some.injEq, Prod.mk.injEq] at h
        obtain ⟨rfl, rfl⟩ := h
        obtain ⟨h1, h2⟩ := numD_bound k true r m q hd
        have := b.toNat_lt
        constructor
        · rw [Nat.pow_succ]; omega
        · simp; omega
    · split at h
      · cases h
      · simp only [Option.some.injEq, Prod.mk.injEq] at h
        obtain ⟨rfl, rfl⟩ := h
        refine ⟨?_, by simp⟩
        rw [Nat.pow_succ]
        have := Nat.pos_of_ne_zero (show 128 ^ k ≠ 0 from Nat.ne_of_gt (Nat.pow_pos (by decide)))
        omega
theorem numD_enc : ∀ (k j n : Nat) (z : Bool) (r : List UInt8), n < 128 ^ k → k ≤ j + 1 → 0 < k → (z = true → 0 < n) → numD k z (numF j n ++ r) = some (n, r)
  | 0, _, n, _, _, h, _, h0, _ => by omega
  | k + 1, 0, n, z, r, h, hj, h0, hz => by
    obtain rfl : k = 0 := by omega
    have h : n < 128 := by simpa using h
    simp only [numF, List.cons_append, List.nil_append, numD]
    rw [b8_toNat (by omega), if_neg (by omega), if_neg (by rintro ⟨h1, h2⟩; have := hz h1; omega)]
  | k + 1, j + 1, n, z, r, h, hj, h0, hz => by
    unfold numF
    split
    · rename_i hn
      simp only [List.cons_append, List.nil_append, numD]
      rw [b8_toNat (by omega), if_neg (by omega), if_neg (by rintro ⟨h1, h2⟩; have := hz h1; omega)]
    · simp only [List.cons_append, numD]
      rw [b8_toNat (by omega), if_pos (by omega), numD_enc k j (n / 128) true r (by rw [Nat.pow_succ] at h; omega) (by omega) (by cases k with | zero => simp at h; omega | succ k => omega) (fun _ => by omega)]
      simp only [Option.map_some]
      congr 2; omega
theorem dec_enc {n : Nat} (h : n < 2 ^ 63) (r : List UInt8) : numD 9 false (numE n ++ r) = some (n, r) := numD_enc 9 64 n false r (by omega) (by omega) (by omega) (fun h => by cases h)
/-! ### The reader -/
/-- none: it has failed. -/
abbrev St := Option (List UInt8)
def numR : St → Nat × St
  | none => (0, none)
  | some u => (match numD 9 false u with | none => (0, none) | some (n, r) => (n, some r))
end Go.Cd
