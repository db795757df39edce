/- Helper text of this claim: lemmas and contracts that the proved statement rests on; no conditions of its own. -/
import Derived.Test.YtcplagfblmemhaaGreatDoorGAa4
namespace Go.Vc
set_option linter.unusedVariables false
set_option maxHeartbeats 4000000
open Go Go.Pw Go.RowKit
theorem RunN.appNone {P : Program} {w : World} {K : Value → World → Prop} {t ty e : TypeId} {cs : Array Bool} {B s n c bytes : Nat} {z v : Value} {xs : List Value} (ht : P.underlying t = some (.slice e)) (hb : (P.info? e).map (fun i => (i.zero, i.size, i.bytes)) = some (some z, s, bytes))
  (hown : w.ownsRow B e s v n xs) (k : K v w) : RunN P (builtin .append #[t, t] ty cs [v, .slice none 0 c].toArray) w K := by
 obtain ⟨i, hi, _, _, _⟩ := zbh hb
 refine ⟨v, w, ?_, k⟩
 show (do pure (Next.value (← Builtin.append_ #[t, t] ty #[v, .slice none 0 c])) : Sem Next).run P w = _
 rcases hown.2 with ⟨rfl, rfl⟩ | ⟨g, cap, cur, rfl, _, _, hnc, _⟩
 ·simp [Builtin.append_, run_underlying ht, sizeOf, typeInfo, hi, Builtin.lenOf, Builtin.firstCells]
 ·simp [Builtin.append_, run_underlying ht, sizeOf, typeInfo, hi, Builtin.lenOf, Builtin.firstCells, hnc, storeCells]
theorem RunN.zeros0 {P : Program} {w : World} {K : Value → World → Prop} {t tn ty e : TypeId} {cs : Array Bool} {s bytes : Nat} {z : Value} {kq kn : IntKind} (ht : P.underlying t = some (.slice e)) (htn : P.underlying tn = some (.int kn)) (hb : (P.info? e).map (fun i => (i.zero, i.size, i.bytes)) = some (some z, s, bytes)) (hz : z.cells.size = s) (hs : 0 < s) {m : Nat} (h0 : 0 < m)
  (h63 : m ≤ 9223372036854775807) (hbytes : m * bytes ≤ 140737488355328)
  (k : ∀ w' cells c', VarK w' w.heap.size e cells → cells.length = c' * s → m ≤ c' → c' ≤ maxLen → Kp w w' n_ → K (.slice (some ⟨w.heap.size, 0, none⟩) m c') w') :
  RunN P (builtin .append #[t, tn] ty cs [.slice none 0 0, .int kq (m : Nat)].toArray) w K := by
 obtain ⟨i, hi, z1, rfl, rfl⟩ := zbh hb
 have hr := Lib.run_append_grow_zeros (P := P) w t tn ty e i z kq kn ht htn hi z1 none 0 0 [] (by simp [Builtin.firstCells]) m h0 hs (by omega) (by omega) (by omega) (fits48 (by omega) (by simpa using hbytes))
 have hge := grownCap_ge w (0 + m) 0 e
 rw [Nat.zero_add] at hr hge
 refine ⟨_, w.drew.alloc (.cells ([].toArray ++ Builtin.zeroCells z.cells m ++ Builtin.zeroCells z.cells (grownCap w m 0 e - m)) e), ?_, k _ (Builtin.zeroCells z.cells m ++ Builtin.zeroCells z.cells (grownCap w m 0 e - m)).toList _ ?_ ?_ hge (grownCap_le_maxLen w m 0 e (by rw [show maxLen = 9223372036854775807 from rfl]; exact h63)) ?_⟩
 ·show (do pure (Next.value (← Builtin.append_ #[t, tn] ty #[.slice none 0 0, .int kq (m : Nat)])) : Sem Next).run P w = _
  simp only [Sem.run_bind, hr, Result.andThen_ok]
  rfl
 ·have := heap_alloc_new w.drew (.cells ([].toArray ++ Builtin.zeroCells z.cells m ++ Builtin.zeroCells z.cells (grownCap w m 0 e - m)) e)
  unfold VarK
  rw [show ((Builtin.zeroCells z.cells m ++ Builtin.zeroCells z.cells (grownCap w m 0 e - m)).toList).toArray = [].toArray ++ Builtin.zeroCells z.cells m ++ Builtin.zeroCells z.cells (grownCap w m 0 e - m) by apply Array.ext'; simp]
  exact this
 ·rw [Array.length_toList, Array.size_append, size_zeroCells, size_zeroCells, hz, ← Nat.add_mul]
  congr 1
  omega
 ·exact (Kp.refl w n_).drew.alloc _
end Go.Vc
namespace Go.Proofs.YtcplagfblmemhaaGreatDoor
set_option linter.unusedVariables false
set_option maxHeartbeats 4000000
open Go.Shelf Go.RowKit Go.Pw Go.Vc Go.Cs Go.Lib
set_option linter.unusedVariables false
set_option maxRecDepth 100000
section
variable {w : World}
theorem zqA {f : Fr} {y : Operand} (w : World) (hy : ev f y = .int .i64 ((0 : Nat) : Int) := by rfl) : (Instr.sliceAt 58 (.slice none 0 0) none ((some y).map (ev f)) none).run Tryz.prog w = .ok (.slice none 0 0) w := by
 obtain ⟨i, hi, _, hs, _⟩ := zbh textInfo
 simp [Instr.sliceAt, hy, Instr.slice, Instr.sliceBounds, go_sem, zaB Tryz.underlying58, zbl hi]
theorem gr_T (n : Nat) (hn : n ≤ 8796093022208) : Calls Tryz.prog 152 #[.slice none 0 0, .int .i64 (n : Nat)] w fun e w' => ∃ v, e = .returned v ∧ OwnT w' w.heap.size v [] ∧ Kp w w' n_ := by
 refine zab (args := [.slice none 0 0, .int .i64 (n : Nat)]) Tryz.func152 rfl NL ?_; refine GW ?_
 refine KGO ?_
 refine RunN.capK Tryz.underlying58 ?_
 rcases Nat.eq_zero_or_pos n with h0 | h0
 ·subst h0
  refine KGO ?_
  exact ⟨_, rfl, World.ownsRow_nil _ _ _ _, Kp.refl _ _⟩
 ·refine KGO ?_
  refine RunN.capK Tryz.underlying58 ?_
  refine KGO ?_
  refine RunV.of (v := .slice none 0 0) (w' := w) (zqA _) ?_
  refine KGO ?_
  rw [show ((n : Nat) : Int) - (((0 : Nat) : Int) - ((0 : Nat) : Int)) = ((n : Nat) : Int) by omega]
  refine RunN.zeros0 Tryz.underlying58 Tryz.underlying3 textInfo rfl (by decide) h0 (by omega) (by omega) fun w1 cells c1 v1 hl1 hc1 hm1 k1 => ?_
  refine KGO ?_
  rw [if_neg (by omega : ¬ 0 = c1), Nat.sub_zero, Nat.sub_zero]
  exact ⟨_, rfl, zbk (xs := []) (Nat.le_refl _) v1 (Nat.zero_le _) hm1 hl1 (by simp) rfl, k1⟩
abbrev slC (p : Sl × List (List UInt8)) : List Value := [.slice p.1.a p.1.n p.1.c]
theorem at_sl {g o i : Nat} {l : List (Sl × List (List UInt8))} (h : At w g o (l.flatMap slC)) (hi : i < l.length) : w.cell? ⟨g, o + i, none⟩ = some (.slice l[i].1.a l[i].1.n l[i].1.c) := zmp (fun p : Sl × List (List UInt8) => Value.slice p.1.a p.1.n p.1.c) h hi
theorem cat_T {v : Value} (ps : List (Sl × List (List UInt8))) (hv : RowO w v slC ps) (hp : ∀ p ∈ ps, RowT w p.1.v p.2) (hl : ps.length ≤ 1000) (hn : (ps.flatMap (·.2)).length ≤ 8796093022208) : Calls Tryz.prog 97 #[v] w fun e w' => ∃ v', e = .returned v' ∧ OwnT w' w.heap.size v' (ps.flatMap (·.2)) ∧ Kp w w' n_ := by
 obtain ⟨a, cap, rfl, hr⟩ := hv
 have hstep : ∀ i (h : i < ps.length), (ps.take (i + 1)).flatMap (·.2) = (ps.take i).flatMap (·.2) ++ ps[i].2 := fun i h => by
  rw [List.take_succ_eq_append_getElem h, List.flatMap_append]; simp
 have hle : ∀ i, ((ps.take i).flatMap (·.2)).length ≤ (ps.flatMap (·.2)).length := fun i => by
  conv => rhs; rw [← List.take_append_drop i ps, List.flatMap_append, List.length_append]
  omega
 refine zab (args := [.slice a ps.length cap]) Tryz.func97 rfl NL ?_; refine GW ?_
 refine Loop.intro (ι := Nat) (fun i => [(0, .slice a ps.length cap), (3, .int .i64 (((ps.take i).flatMap (·.2)).length : Nat)), (9, .slice a ps.length cap), (10, .int .i64 (ps.length : Nat)), (11, .int .i64 (i : Nat))])
  (fun i wr => w = wr ∧ i ≤ ps.length) (fun i => ps.length - i) 0 ⟨rfl, rfl, rfl, rfl, rfl, trivial⟩ ⟨rfl, Nat.zero_le _⟩ ?_
 rintro i gg wr ⟨rfl, hi⟩
 have kr := Kp.refl w n_
 refine GW ?_
 by_cases hlt : i < ps.length
 ·obtain ⟨gb, o, rfl, hgb, hat⟩ := hr (by omega)
  have hc := at_sl hat hlt
  have hst := hstep i hlt
  have h1 := hle i
  have h2 := hle (i + 1)
  have hln := RowO.len (hp ps[i] (List.getElem_mem hlt))
  rw [hst, List.length_append] at h2
  refine KGO ?_
  rw [hln]
  refine KGO ?_
  refine ⟨i + 1, ⟨rfl, v_int (by rw [hst, List.length_append]; omega), rfl, rfl, v_int (by simp), trivial⟩, ⟨rfl, by omega⟩, by dsimp only; omega⟩
 ·have hil : ps.take i = ps := List.take_of_length_le (by omega)
  rw [hil]
  generalize hN : (ps.flatMap (·.2)).length = N at *
  refine KGO ?_
  refine CallS.of (Tryz.call152 _ _) (gr_T (w := w) N (by omega)) ?_
  rintro e w1 ⟨v1, rfl, o1, k1⟩
  obtain ⟨a1, c1, rfl⟩ := zae o1
  refine RT ?_
  refine KGO ?_
  refine Loop.intro (ι := Nat × Value) (fun q => [(6, q.2), (25, .slice a ps.length cap), (26, .int .i64 (ps.length : Nat)), (27, .int .i64 (q.1 : Nat))])
   (fun q wr => Kp w wr n_ ∧ q.1 ≤ ps.length ∧ OwnT wr w.heap.size q.2 ((ps.take q.1).flatMap (·.2))) (fun q => ps.length - q.1) (0, _) ⟨rfl, rfl, rfl, rfl, trivial⟩ ⟨k1, Nat.zero_le _, o1⟩ ?_
  rintro ⟨j, u⟩ gg2 wz ⟨hK, hj, ho⟩
  dsimp only at hj ho ⊢
  obtain ⟨au, cu, rfl⟩ := zae ho
  refine GW ?_
  by_cases hlt2 : j < ps.length
  ·obtain ⟨gb, o, rfl, hgb, hat⟩ := hr (by omega)
   have hc := at_sl hat hlt2
   have hst := hstep j hlt2
   have h1 := hle j
   have h2 := hle (j + 1)
   have hrow := (hp ps[j] (List.getElem_mem hlt2)).keep hK
   have hln := RowO.len hrow
   rw [hst, List.length_append] at h2
   obtain ⟨sa, sc, he, hrr⟩ := hrow
   have hea : ps[j].1.a = sa := by injection he
   refine KGO ?_
   rw [hln, hea]
   have fin : ∀ v' w', w'.ownsRow w.heap.size 9 1 v' (((ps.take j).flatMap (·.2)).length + ps[j].2.length) ((ps.take j).flatMap (·.2) |>.flatMap txC |>.append (ps[j].2.flatMap txC)) → OwnT w' w.heap.size v' ((ps.take (j + 1)).flatMap (·.2)) := fun v' w' h => by
    unfold OwnT
    rw [hst, List.length_append, List.flatMap_append]
    exact h
   rcases sa with _ | ad
   ·have h0 : ps[j].2.length = 0 := by
     rcases Nat.eq_zero_or_pos ps[j].2.length with h | h
     ·exact h
     ·obtain ⟨g, o, h1, _⟩ := hrr h; cases h1
    rw [h0]
    refine RunN.appNone Tryz.underlying58 textInfo ho ?_
    refine KGO ?_
    exact ⟨(j + 1, _), ⟨rfl, rfl, rfl, v_int (by simp), trivial⟩, ⟨hK, by dsimp only; omega, by dsimp only; rw [hst, List.eq_nil_of_length_eq_zero h0, List.append_nil]; exact ho⟩, by dsimp only; omega⟩
   ·refine RunN.app Tryz.underlying58 textInfo rfl (by decide) ho hK.size ad ps[j].2.length _ (ps[j].2.flatMap txC) (zaz txC 1 lenT _) (fun m x hm => ?_) (oneT _) (by omega) (by omega) fun v' w' h2 h3 => ?_
    ·rcases Nat.eq_zero_or_pos ps[j].2.length with h | h
     ·rw [List.eq_nil_of_length_eq_zero h] at hm; simp at hm
     ·obtain ⟨g', o', h1, _, h3⟩ := hrr h
      injection h1 with h1
      subst h1
      rw [add_none]
      exact h3 m x hm
    ·obtain ⟨a', c', rfl⟩ := zae h2
     refine KGO ?_
     exact ⟨(j + 1, _), ⟨rfl, rfl, rfl, v_int (by simp), trivial⟩, ⟨hK.own ho (Nat.le_refl _) h3, by dsimp only; omega, fin _ _ h2⟩, by dsimp only; omega⟩
  ·have hjl : ps.take j = ps := List.take_of_length_le (by omega)
   rw [hjl] at ho ⊢
   refine KGO ?_
   exact ⟨_, rfl, ho, hK⟩
end
structure RowTy {α : Type} (T E : TypeId) (c : α → List Value) (s bytes : Nat) : Prop where
 ht : Tryz.prog.underlying T = some (.slice E)
 hb : ∃ z, (Tryz.prog.info? E).map (fun i => (i.zero, i.size, i.bytes)) = some (some z, s, bytes) ∧ z.cells.size = s
 hs : 0 < s
 len : ∀ x, (c x).length = s
 one : ∀ x, ∀ u ∈ c x, u.oneCell' = true
abbrev OwnR {α : Type} (E : TypeId) (c : α → List Value) (s : Nat) (w : World) (B : Nat) (v : Value) (l : List α) : Prop := w.ownsRow B E s v l.length (l.flatMap c)
section
variable {α : Type} {T E : TypeId} {c : α → List Value} {s bytes : Nat} {w : World} {K : Value → World → Prop} {B : Nat} {v : Value} {l : List α} {cs : Array Bool}
theorem RowTy.app (ty : RowTy T E c s bytes) {a : Option Addr} {m cap : Nat} (r : List α) (h : OwnR E c s w B v l) (hB : B ≤ w.heap.size) (hm : m = r.length) (hr : 0 < m → ∃ g o, a = some ⟨g, o, none⟩ ∧ At w g o (r.flatMap c))
  (h63 : l.length + r.length ≤ 9223372036854775807) (hbytes : (l.length + r.length) * bytes ≤ 140737488355328) (k : ∀ v' w', OwnR E c s w' B v' (l ++ r) → Kp w w' (own_ v) → K v' w') :
  RunN Tryz.prog (builtin .append #[T, T] T cs [v, .slice a m cap].toArray) w K := by
 subst hm
 obtain ⟨z, hb, hz⟩ := ty.hb
 cases a with
 | none =>
  have h0 : r.length = 0 := by
   rcases Nat.eq_zero_or_pos r.length with h0 | h0
   ·exact h0
   ·obtain ⟨g, o, e, _⟩ := hr h0; cases e
  have hn := List.eq_nil_of_length_eq_zero h0
  subst hn
  refine RunN.appNone ty.ht hb h (k _ _ ?_ (Kp.refl _ _))
  rw [List.append_nil]; exact h
 | some a =>
  refine RunN.app ty.ht hb hz ty.hs h hB a r.length cap (r.flatMap c) (zaz c s ty.len r) (fun j u hj => ?_) (fun u hu => ?_) h63 hbytes fun v' w' h2 h3 => k v' w' ?_ ?_
  ·rcases Nat.eq_zero_or_pos r.length with h0 | h0
   ·rw [List.eq_nil_of_length_eq_zero h0] at hj; simp at hj
   ·obtain ⟨g, o, e, hat⟩ := hr h0
    injection e with e
    subst e
    rw [add_none]
    exact hat j u hj
  ·obtain ⟨x, _, hx⟩ := List.mem_flatMap.1 hu
   exact ty.one x u hx
  ·unfold OwnR
   rw [List.length_append, List.flatMap_append]
   exact h2
  ·exact ⟨h3.os, h3.tape, h3.output, h3.size, fun i hi hn => h3.block i hi fun e => hn e.symm⟩
theorem RowTy.app1 (ty : RowTy T E c s bytes) {b cap : Nat} (x : α) (h : OwnR E c s w B v l) (hB : B ≤ w.heap.size) (hx : At w b 0 (c x)) (h63 : l.length + 1 ≤ 9223372036854775807) (hbytes : (l.length + 1) * bytes ≤ 140737488355328)
  (k : ∀ v' w', OwnR E c s w' B v' (l ++ [x]) → Kp w w' (own_ v) → K v' w') : RunN Tryz.prog (builtin .append #[T, T] T cs [v, .slice (some ⟨b, 0, none⟩) 1 cap].toArray) w K :=
 ty.app [x] h hB rfl (fun _ => ⟨b, 0, rfl, by rw [List.flatMap_singleton]; exact hx⟩) h63 hbytes k
theorem zhg {g o : Nat} (hl : ∀ x, (c x).length = s) (h : At w g o (l.flatMap c)) (i : Nat) : At w g (o + i * s) ((l.drop i).flatMap c) := fun j u hj => by
 rw [← zbc c s hl, List.getElem?_drop] at hj
 rw [Nat.add_assoc]
 exact h _ u hj
theorem znD {f : Fr} {x : Operand} {w : World} (ty : RowTy T E c s bytes) (hx : ev f x = .int .i64 0) (k : K (.slice none 0 0) w) : RunV Tryz.prog (Instr.sliceAt T (.slice none 0 0) ((some x).map (ev f)) none none) w K :=
 by
 obtain ⟨z, hb, _⟩ := ty.hb
 obtain ⟨i, hi, _⟩ := zbh hb
 exact RunV.of (by simp [Instr.sliceAt, hx, Instr.slice, Instr.sliceBounds, go_sem, zaB ty.ht, zbl hi]) k
end
theorem tyI : RowTy 37 3 inC 1 8 := ⟨Tryz.underlying37, ⟨_, infoI, rfl⟩, by decide, lenI, fun x u hu => by rw [List.mem_singleton.1 hu]; rfl⟩
theorem tyT : RowTy 58 9 txC 1 16 := ⟨Tryz.underlying58, ⟨_, textInfo, rfl⟩, by decide, lenT, fun x u hu => by rw [List.mem_singleton.1 hu]; rfl⟩
end Go.Proofs.YtcplagfblmemhaaGreatDoor
namespace Go.Cd
set_option linter.unusedVariables false
set_option maxHeartbeats 4000000
def b8 (n : Nat) : UInt8 := UInt8.ofNat n
theorem zeS {n : Nat} (h : n < 256) : (b8 n).toNat = n := by simp [b8]; omega
def numF : Nat → Nat → List UInt8
 | 0, n => [b8 n]
 | k + 1, n => if n < 128 then [b8 n] else b8 (n % 128 + 128) :: numF k (n / 128)
def numE (n : Nat) : List UInt8 := numF 64 n
theorem zhv : ∀ (j k n : Nat), n < 128 ^ (j + 1) → (numF k n).length ≤ j + 1
 | _, 0, n, _ => by simp [numF]
 | 0, k + 1, n, h => by unfold numF; rw [if_pos (by simpa using h)]; simp
 | j + 1, k + 1, n, h => by
  unfold numF
  split
  ·simp
  ·have := zhv j k (n / 128) (by rw [Nat.pow_succ] at h; omega)
   simp; omega
theorem zfL : ∀ (k j n : Nat), n < 128 ^ (k + 1) → numF (k + j) n = numF k n
 | 0, j, n, h => by
  cases j with
  | zero => rfl
  | succ j => rw [Nat.zero_add]; unfold numF; rw [if_pos (by simpa using h)]
 | k + 1, j, n, h => by
  rw [show k + 1 + j = (k + j) + 1 by omega]
  unfold numF
  split
  ·rfl
  ·rw [zfL k j (n / 128) (by rw [Nat.pow_succ] at h; omega)]
theorem zkP {n : Nat} (h : n < 128) : numE n = [b8 n] := by unfold numE numF; rw [if_pos h]
theorem znR {n : Nat} (h : 128 ≤ n) (h2 : n < 2 ^ 63) : numE n = b8 (n % 128 + 128) :: numE (n / 128) := by
 unfold numE
 conv => lhs; unfold numF
 rw [if_neg (by omega)]
 have e1 := zfL 62 1 (n / 128) (by omega)
 have e2 := zfL 62 2 (n / 128) (by omega)
 rw [e1, e2]
theorem zcc {n : Nat} (h : n < 2 ^ 63) : (numE n).length ≤ 9 := zhv 8 64 n (by omega)
theorem znL (n : Nat) : 0 < (numE n).length := by unfold numE numF; split <;> simp
def numD : Nat → Bool → List UInt8 → Option (Nat × List UInt8)
 | 0, _, _ => none
 | _ + 1, _, [] => none
 | k + 1, z, b :: r => if 128 ≤ b.toNat then (numD k true r).map fun p => (b.toNat - 128 + 128 * p.1, p.2) else if z = true ∧ b.toNat = 0 then none else some (b.toNat, r)
theorem zem : ∀ (k : Nat) (z : Bool) (u : List UInt8) (n : Nat) (r : List UInt8), numD k z u = some (n, r) → n < 128 ^ k ∧ r.length < u.length
 | 0, _, _, _, _, h => by cases h
 | _ + 1, _, [], _, _, h => by cases h
 | k + 1, z, b :: r, n, r', h => by
  unfold numD at h
  split at h
  ·cases hd : numD k true r with
   | none => rw [hd] at h; cases h
   | some p =>
    obtain ⟨m, q⟩ := p
    rw [hd] at h
    simp only [Option.map_some, Option.some.injEq, Prod.mk.injEq] at h
    obtain ⟨rfl, rfl⟩ := h
    obtain ⟨h1, h2⟩ := zem k true r m q hd
    have := b.toNat_lt
    constructor
    ·rw [Nat.pow_succ]; omega
    ·simp; omega
  ·split at h
   ·cases h
   ·simp only [Option.some.injEq, Prod.mk.injEq] at h
    obtain ⟨rfl, rfl⟩ := h
    refine ⟨?_, by simp⟩
    rw [Nat.pow_succ]
    have := Nat.pos_of_ne_zero (show 128 ^ k ≠ 0 from Nat.ne_of_gt (Nat.pow_pos (by decide)))
    omega
theorem zjz : ∀ (k j n : Nat) (z : Bool) (r : List UInt8), n < 128 ^ k → k ≤ j + 1 → 0 < k → (z = true → 0 < n) → numD k z (numF j n ++ r) = some (n, r)
 | 0, _, n, _, _, h, _, h0, _ => by omega
 | k + 1, 0, n, z, r, h, hj, h0, hz => by
  obtain rfl : k = 0 := by omega
  have h : n < 128 := by simpa using h
  simp only [numF, List.cons_append, List.nil_append, numD]
  rw [zeS (by omega), if_neg (by omega), if_neg (by rintro ⟨h1, h2⟩; have := hz h1; omega)]
 | k + 1, j + 1, n, z, r, h, hj, h0, hz => by
  unfold numF
  split
  ·rename_i hn
   simp only [List.cons_append, List.nil_append, numD]
   rw [zeS (by omega), if_neg (by omega), if_neg (by rintro ⟨h1, h2⟩; have := hz h1; omega)]
  ·simp only [List.cons_append, numD]
   rw [zeS (by omega), if_pos (by omega), zjz k j (n / 128) true r (by rw [Nat.pow_succ] at h; omega) (by omega) (by cases k with | zero => simp at h; omega | succ k => omega) (fun _ => by omega)]
   simp only [Option.map_some]
   congr 2; omega
theorem znh {n : Nat} (h : n < 2 ^ 63) (r : List UInt8) : numD 9 false (numE n ++ r) = some (n, r) := zjz 9 64 n false r (by omega) (by omega) (by omega) (fun h => by cases h)
abbrev St := Option (List UInt8)
def numR : St → Nat × St
 | none => (0, none)
 | some u => (match numD 9 false u with | none => (0, none) | some (n, r) => (n, some r))
def numsG : Nat → St → List Nat × St
 | 0, s => ([], s)
 | k + 1, s => (match numR s with
  | (_, none) => ([], none)
  | (n, some r) => (match numsG k (some r) with | (l, s) => (n :: l, s)))
def numsR (s : St) : List Nat × St :=
 match numR s with
 | (_, none) => ([], none)
 | (n, some r) => if r.length < n then ([], none) else (match numsG n (some r) with | (_, none) => ([], none) | p => p)
def numsE (l : List Nat) : List UInt8 := numE l.length ++ l.flatMap numE
end Go.Cd
namespace Go.Vc
set_option linter.unusedVariables false
set_option maxHeartbeats 4000000
open Go Go.Pw Go.RowKit
set_option linter.unusedVariables false
def putPs : List Tmp → List Value → Fr → Fr
 | p :: ps, v :: vs, f => putPs ps vs (upd f p v)
 | _, _, f => f
theorem zjr {n : Nat} : ∀ (ps : List Tmp) (vs : List Value) (f : Fr), Ok n f → (ps.all fun p => Nat.ble (p + 1) n) = true → Ok n (putPs ps vs f) ∧
  (ps.zip vs).foldl (fun tmps (x : Tmp × Value) => tmps.setIfInBounds x.1 x.2) (frArr n f) = frArr n (putPs ps vs f)
 | [], _, f, hf, _ => ⟨hf, rfl⟩
 | _ :: _, [], f, hf, _ => ⟨hf, rfl⟩
 | p :: ps, v :: vs, f, hf, h => by
  simp only [List.all_cons, Bool.and_eq_true] at h
  have hp : p < n := Nat.le_of_ble_eq_true h.1
  obtain ⟨h1, h2⟩ := zjr ps vs (upd f p v) (zoS hf hp v) h.2
  refine ⟨h1, ?_⟩
  simp only [List.zip_cons_cons, List.foldl_cons, putPs, zhU hp v]
  exact h2
structure Rec2 (D : Nat) (w w' : World) : Prop where
 d : w'.heap[D]? = w.heap[D]?
 l : w'.heap[D + 1]? = w.heap[D + 1]?
theorem Rec2.of {D : Nat} {w w' : World} {c : Nat → Prop} (k : Kp w w' c) (h : D + 1 < w.heap.size) (h0 : ¬ c D) (h1 : ¬ c (D + 1)) : Rec2 D w w' := ⟨k.block _ (by omega) h0, k.block _ h h1⟩
def rangeK {α : Type} (D : Nat) (I : List α → World → Prop) (Ix : Code → List α → World → Prop) (xs : List α) (W : World) : Exit → Fr → World → Prop
 | .normal, _, W' => Ret (Rec2 D W W' ∧ I xs W')
 | .ret, _, W' => Ret (Rec2 D W W' ∧ Ix .ret xs W')
 | .exit id, _, W' => Ret (Rec2 D W W' ∧ Ix (.exit id) xs W')
 | _, _, _ => False
structure Body (p : Prop) : Prop where
 h : p
def asgK {α : Type} (P : Program) (n : Nat) (D : Nat) (I : List α → World → Prop) (Ix : Code → List α → World → Prop) (xs : List α) (W : World) (body : Code) : Exit → Fr → World → Prop
 | .normal, g, W1 => Body (Rec2 D W W1 ∧ ∀ W2, Kp W1 W2 (one_ (D + 1)) → W2.heap.size = W1.heap.size → Sat P n (rangeK D I Ix xs W2) .normal [.code body] g W2)
 | _, _, _ => False
theorem zcH (w : World) (r : Nat) (o : Obj) : (w.putObj r o).heap.size = w.heap.size := by simp [World.putObj]
theorem zbE (w : World) (r : Nat) (o : Obj) : Kp w (w.putObj r o) (one_ r) := ⟨rfl, rfl, rfl, by rw [zcH]; exact Nat.le_refl _, fun k _ hn => World.putObj_heap_other hn⟩
section
variable {P : Program} {n : Nat} {K : Exit → Fr → World → Prop} {ps : Array Tmp} {assign body : Code} {t : List It} {g : Operand} {fg : Nat → Value} {dl : DL} {w : World} {gf : Nat} {lb : Array Value} {α : Type}
theorem zoJ {D fn : Nat} {rec : Go.Loop} {W : World} {vs : List Value} {I : List α → World → Prop} {Ix : Code → List α → World → Prop} {xs : List α} {R : Value → World → Prop} (hf : Ok n ⟨fg, dl⟩)
  (hr : rec = { state := .ready, pending := none, fn := fn, tmps := frArr n ⟨fg, dl⟩, params := ps, assign := assign, body := body, defers := D })
  (hl : W.heap[D + 1]? = some (.loop rec)) (hvs : vs.length = ps.size) (hps : (ps.toList.all fun p => Nat.ble (p + 1) n) = true) (hpa : plainC assign = true) (hpb : plainC body = true)
  (round : Sat P n (asgK P n D I Ix xs W body) .normal [.code assign] (putPs ps.toList vs ⟨fg, .nil⟩) W)
  (k1 : ∀ W3 W4, W3.heap[D + 1]? = some (.loop { rec with state := .busy }) → W3.heap[D]? = W.heap[D]? → I xs W3 → W4 = W3.putObj (D + 1) (.loop rec) → R (.bool true) W4)
  (k2 : ∀ c W3 W4, W3.heap[D + 1]? = some (.loop { rec with state := .busy }) → W3.heap[D]? = W.heap[D]? → Ix c xs W3 → W4 = W3.putObj (D + 1) (.loop { rec with state := .done, pending := some c }) → R (.bool false) W4) :
  YieldS P (D + 1) vs W R := by
 have hfr : rec.fn = fn ∧ rec.tmps = frArr n ⟨fg, dl⟩ ∧ rec.params = ps ∧ rec.assign = assign ∧ rec.body = body ∧ rec.state = .ready ∧ rec.pending = none := by subst hr; exact ⟨rfl, rfl, rfl, rfl, rfl, rfl, rfl⟩
 obtain ⟨e1, e2, e3, e4, e5, e6, e7⟩ := hfr
 have hy := run_yield (P := P) (args := vs.toArray) hl (by rw [e3]; simpa using hvs)
 rw [e1, e2, e3, e4, e5] at hy
 obtain ⟨hg0, hz⟩ := zjr ps.toList vs ⟨fg, dl⟩ hf hps
 have hz' : (ps.zip vs.toArray).foldl (fun tmps (x : Tmp × Value) => tmps.setIfInBounds x.1 x.2) (frArr n ⟨fg, dl⟩) = frArr n (putPs ps.toList vs ⟨fg, dl⟩) := by
  rw [← hz]
  obtain ⟨pl⟩ := ps
  simp [← List.foldl_toArray', List.zip_toArray]
 have hsame : ∀ (pl : List Tmp) (vs : List Value) (a : Nat → Value) (d d' : DL), (putPs pl vs ⟨a, d⟩).g = (putPs pl vs ⟨a, d'⟩).g ∧ (putPs pl vs ⟨a, d⟩).ds = d := by
  intro pl
  induction pl with
  | nil => intro vs a d d'; exact ⟨rfl, rfl⟩
  | cons p pl ih =>
   intro vs a d d'
   cases vs with
   | nil => exact ⟨rfl, rfl⟩
   | cons v vs => exact ih vs _ d d'
 have hact : act n (putPs ps.toList vs ⟨fg, .nil⟩) = { tmps := frArr n (putPs ps.toList vs ⟨fg, dl⟩), defers := [] } := by
  obtain ⟨h1, h2⟩ := hsame ps.toList vs fg .nil dl
  simp only [act, frArr, h1, h2]; rfl
 refine ⟨fn, _, assign, body, hy, ?_⟩
 refine roundIn_of_wpIn trivial ?_
 have hz'' : (ps.zip vs.toArray).foldl (fun tmps (x : Tmp × Value) => match x with | (t, a) => tmps.setIfInBounds t a) (frArr n ⟨fg, dl⟩) = frArr n (putPs ps.toList vs ⟨fg, dl⟩) := hz'
 rw [hz'', ← hact]
 have hok : Ok n (putPs ps.toList vs ⟨fg, .nil⟩) := by
  intro j hj
  rw [(hsame ps.toList vs fg .nil dl).1]; exact hg0 j hj
 have h1 := (show assign.wpX P (LiftE n (after P n [] (asgK P n D I Ix xs W body))) (act n (putPs ps.toList vs ⟨fg, .nil⟩)) W from round.h hok) (some (D + 1)) (.inr hpa)
 refine wpIn_mono h1 fun e a W1 he => ?_
 obtain ⟨g', hg', rfl, hk⟩ := he
 have hk : asgK P n D I Ix xs W body e g' W1 := hk
 cases e with
 | normal =>
  obtain ⟨hrec, hbody⟩ := Body.h hk
  have hl1 : W1.heap[D + 1]? = some (.loop rec) := hrec.l.trans hl
  refine ⟨_, run_beginRound hl1 e6, ?_⟩
  have hlt : D + 1 < W1.heap.size := (Array.getElem?_eq_some_iff.1 hl1).1
  have hl2 : (W1.putObj (D + 1) (.loop { rec with state := .busy })).heap[D + 1]? = some (.loop { rec with state := .busy }) := World.putObj_heap_same hlt
  have hd2 : (W1.putObj (D + 1) (.loop { rec with state := .busy })).heap[D]? = W.heap[D]? := (World.putObj_heap_other (by omega)).trans hrec.d
  have hb := hbody (W1.putObj (D + 1) (.loop { rec with state := .busy })) (zbE _ _ _) (zcH _ _ _)
  refine wpIn_mono ((show body.wpX P (LiftE n (after P n [] (rangeK D I Ix xs _))) (act n g') _ from hb.h hg') (some (D + 1)) (.inr hpb)) fun e a W3 he => ?_
  obtain ⟨g3, hg3, rfl, hk3⟩ := he
  have hk3 : rangeK D I Ix xs _ e g3 W3 := hk3
  have fin : ∀ (j : Option Code), Rec2 D (W1.putObj (D + 1) (.loop { rec with state := .busy })) W3 →
    W3.heap[D + 1]? = some (.loop { rec with state := .busy }) ∧ W3.heap[D]? = W.heap[D]? ∧
    (Instr.endRound (D + 1) j).run P W3 = .ok (.bool j.isNone) (W3.putObj (D + 1) (.loop { rec with state := if j.isNone then .ready else .done, pending := j })) := fun j hr2 => by
   have h3 := hr2.l.trans hl2
   exact ⟨h3, hr2.d.trans hd2, run_endRound (r := { rec with state := .busy }) j h3⟩
  cases e with
  | normal =>
   obtain ⟨hr2, hI⟩ := Ret.h hk3
   obtain ⟨h3, h4, h5⟩ := fin none hr2
   refine ⟨_, _, h5, _, rfl, k1 W3 _ h3 h4 hI ?_⟩
   congr 2
   subst hr; rfl
  | ret =>
   obtain ⟨hr2, hI⟩ := Ret.h hk3
   obtain ⟨h3, h4, h5⟩ := fin (some .ret) hr2
   exact ⟨_, _, h5, _, rfl, k2 _ W3 _ h3 h4 hI rfl⟩
  | exit id =>
   obtain ⟨hr2, hI⟩ := Ret.h hk3
   obtain ⟨h3, h4, h5⟩ := fin (some (.exit id)) hr2
   exact ⟨_, _, h5, _, rfl, k2 _ W3 _ h3 h4 hI rfl⟩
  | goto id => exact hk3.elim
  | panic ch => exact hk3.elim
  | outgrown => exact hk3.elim
 | _ => exact hk.elim
theorem Range.intro (enc : α → List Value) (hg : ev ⟨fg, dl⟩ g = .func (.func gf) #[] lb) (hgf : ∀ args w, (callFunc gf args).run P w = .ok (.enter gf args) w)
  (hpa : plainC assign = true) (hpb : plainC body = true) (hps : (ps.toList.all fun p => Nat.ble (p + 1) n) = true) (hen : ∀ x, (enc x).length = ps.size)
  (cI : Nat → Prop) (hcI : ∀ b, cI b → b < w.heap.size) (I : List α → World → Prop) (Ix : Code → List α → World → Prop) (S : List α → Prop) (Nx : List α → α → Prop)
  (hI : ∀ pre W W', I pre W → w.heap.size + 2 ≤ W.heap.size → Kp W W' (fun b => cI b ∨ b = w.heap.size + 1) → I pre W')
  (hIx : ∀ c pre W W', Ix c pre W → w.heap.size + 2 ≤ W.heap.size → Kp W W' (fun b => cI b ∨ b = w.heap.size + 1) → Ix c pre W')
  (h0 : ∀ W, Kp w W n_ → W.heap.size = w.heap.size + 2 → I [] W)
  (iter : ∀ J Jx : List α → World → Prop, (∀ pre W, J pre W → I pre W ∧ w.heap.size + 2 ≤ W.heap.size) → (∀ pre W W', J pre W → Kp W W' cI → J pre W') → (∀ pre W W', Jx pre W → Kp W W' cI → Jx pre W') →
   (∀ pre x W, J pre W → Nx pre x → YieldS P (w.heap.size + 1) (enc x) W fun v W' => (v = .bool true ∧ J (pre ++ [x]) W') ∨ (v = .bool false ∧ Jx (pre ++ [x]) W')) →
   ∀ W, J [] W → Calls P gf (#[.func (.yield (w.heap.size + 1)) #[] #[]] ++ lb) W fun e W' => (∃ v, e = .returned v) ∧ ((∃ xs, S xs ∧ J xs W') ∨ ∃ pre, Jx pre W'))
  (round : ∀ pre x W, I pre W → Nx pre x → w.heap.size + 2 ≤ W.heap.size → Sat P n (asgK P n w.heap.size I Ix (pre ++ [x]) W body) .normal [.code assign] (putPs ps.toList (enc x) ⟨fg, .nil⟩) W)
  (done : ∀ xs W, S xs → I xs W → w.heap.size + 2 ≤ W.heap.size → W.heap[w.heap.size]? = some (.deferred (some [])) → Sat P n K .normal t ⟨fg, .of (w.heap.size :: dl.toL)⟩ W)
  (stop : ∀ c pre W, Ix c pre W → w.heap.size + 2 ≤ W.heap.size → W.heap[w.heap.size]? = some (.deferred (some [])) → Sat P n K .normal (.code c :: t) ⟨fg, .of (w.heap.size :: dl.toL)⟩ W) :
  Range P n K g ps assign body t ⟨fg, dl⟩ w := by
 refine ⟨fun hf r hr => ?_⟩
 obtain rfl : r = none := by
  rcases hr with h | h
  ·exact h
  ·cases h
 refine wpIn_rangeFunc ?_
 intro fn _
 generalize hD : w.heap.size = D at *
 obtain ⟨rec, hrec⟩ : ∃ rec : Go.Loop, rec = { state := .ready, pending := none, fn := fn, tmps := frArr n ⟨fg, dl⟩, params := ps, assign := assign, body := body, defers := D } := ⟨_, rfl⟩
 obtain ⟨W1, hW1⟩ : ∃ W1, (w.alloc (.deferred (some []))).alloc (.loop rec) = W1 := ⟨_, rfl⟩
 have hs1 : W1.heap.size = D + 2 := by rw [← hW1]; simp [hD]
 have hk1 : Kp w W1 n_ := by rw [← hW1]; exact ((Kp.refl w n_).alloc _).alloc _
 have hL1 : W1.heap[D + 1]? = some (.loop rec) := by
  rw [← hW1, ← hD]; have := World.alloc_heap_new (w.alloc (.deferred (some []))) (.loop rec); rwa [World.size_alloc] at this
 have hD1 : W1.heap[D]? = some (.deferred (some [])) := by
  rw [← hW1, ← hD]; exact (Below.heap_alloc _ _ _ (by simp)).trans (World.alloc_heap_new w _)
 refine ⟨D + 1, [{ target := .collected D, args := #[] }], W1, { target := .fn (.func gf) lb, args := #[.func (.yield (D + 1)) #[] #[]] }, W1, gf,
  #[.func (.yield (D + 1)) #[] #[]] ++ lb, W1, ?_, ?_, fun _ _ => trivial, ?_, fun h => by simp [RW, Fence.wide] at h, ?_⟩
 ·have := run_enterLoop_outer (P := P) (w := w) fn (frArr n ⟨fg, dl⟩) ps assign body
  rw [hD, ← hrec, hW1] at this
  exact this
 ·have he : (act n ⟨fg, dl⟩).eval g = .func (.func gf) #[] lb := by rw [zcu hf]; exact hg
  simp only [resolve, he]
  simp [go_sem]
 ·simp [invoke, go_sem, hgf]
 ·refine zjy ?_
  have keepL : ∀ {W W' : World} {k : Nat} {o : Obj}, Kp W W' cI → W.heap[k]? = some o → D ≤ k → W'.heap[k]? = some o := fun {W W' k o} hk ho hle =>
   (hk.block k (Array.getElem?_eq_some_iff.1 ho).1 (fun h => by have := hcI _ h; omega)).trans ho
  have hlt : ∀ {W : World} {k : Nat} {o : Obj}, W.heap[k]? = some o → k < W.heap.size := fun ho => (Array.getElem?_eq_some_iff.1 ho).1
  refine (iter (fun pre W => I pre W ∧ W.heap[D + 1]? = some (.loop rec) ∧ W.heap[D]? = some (.deferred (some [])))
   (fun pre W => ∃ c, Ix c pre W ∧ W.heap[D + 1]? = some (.loop { rec with state := .done, pending := some c }) ∧ W.heap[D]? = some (.deferred (some [])))
   (fun pre W h => ⟨h.1, by have := hlt h.2.1; omega⟩)
   (fun pre W W' h k => ⟨hI pre W W' h.1 (by have := hlt h.2.1; omega) (k.mono fun _ _ h => .inl h), keepL k h.2.1 (by omega), keepL k h.2.2 (Nat.le_refl _)⟩)
   (fun pre W W' h k => by
    obtain ⟨c, h1, h2, h3⟩ := h
    exact ⟨c, hIx c pre W W' h1 (by have := hlt h2; omega) (k.mono fun _ _ h => .inl h), keepL k h2 (by omega), keepL k h3 (Nat.le_refl _)⟩)
   ?_ W1 ⟨h0 W1 hk1 hs1, hL1, hD1⟩).mono ?_
  ·rintro pre x W ⟨hi, hl, hd⟩ hnx
   have hsz : D + 2 ≤ W.heap.size := by have := hlt hl; omega
   refine zoJ hf hrec hl (hen x) hps hpa hpb (round pre x W hi hnx hsz) ?_ ?_
   ·rintro W3 W4 h3 h4 h5 rfl
    have hs3 := hlt h3
    refine .inl ⟨rfl, hI _ _ _ h5 (by omega) ((zbE _ _ _).mono fun b _ h => .inr h), World.putObj_heap_same hs3, ?_⟩
    exact (World.putObj_heap_other (by omega)).trans (h4.trans hd)
   ·rintro c W3 W4 h3 h4 h5 rfl
    have hs3 := hlt h3
    refine .inr ⟨rfl, c, hIx _ _ _ _ h5 (by omega) ((zbE _ _ _).mono fun b _ h => .inr h), World.putObj_heap_same hs3, ?_⟩
    exact (World.putObj_heap_other (by omega)).trans (h4.trans hd)
  ·rintro e W2 ⟨⟨v, rfl⟩, (⟨xs, hS, hi, hl, hd⟩ | ⟨pre, c, hi, hl, hd⟩)⟩
   ·have hsz := hlt hl
    refine ⟨none, _, by have := run_endLoop (P := P) hl (by rw [hrec]; simp); rw [show rec.pending = none from by rw [hrec]] at this; exact this, ?_⟩
    have h1 := done xs (W2.putObj (D + 1) (.loop { rec with state := .exhausted, pending := none })) hS (hI _ _ _ hi (by omega) ((zbE _ _ _).mono fun b _ h => .inr h)) (by rw [zcH]; omega) ((World.putObj_heap_other (by omega)).trans hd)
    exact ⟨⟨fg, .of (D :: dl.toL)⟩, hf, rfl, h1.h hf⟩
   ·have hsz := hlt hl
    refine ⟨some c, _, run_endLoop (P := P) hl (by simp), ?_⟩
    have h1 := stop c pre (W2.putObj (D + 1) (.loop { rec with state := .exhausted, pending := some c })) (hIx _ _ _ _ hi (by omega) ((zbE _ _ _).mono fun b _ h => .inr h)) (by rw [zcH]; omega) ((World.putObj_heap_other (by omega)).trans hd)
    exact (h1.h hf : c.wpX P (LiftE n (after P n t K)) (act n ⟨fg, .of (D :: dl.toL)⟩) _) none (.inl rfl)
end
end Go.Vc
namespace Go.Vc
set_option linter.unusedVariables false
set_option maxHeartbeats 4000000
open Go Go.Pw
theorem YieldS.of {P : Program} {l : Nat} {args : List Value} {w : World} {R K : Value → World → Prop} (h : YieldS P l args w R) (k : ∀ v w', R v w' → K v w') : YieldS P l args w K := by
 obtain ⟨f, tmps, assign, body, h1, h2⟩ := h.h
 exact ⟨f, tmps, assign, body, h1, h2.mono fun e w' ⟨v, e1, e2⟩ => ⟨v, e1, k v w' e2⟩⟩
end Go.Vc
namespace Go.Proofs.YtcplagfblmemhaaGreatDoor
set_option linter.unusedVariables false
set_option maxHeartbeats 4000000
open Go.Shelf Go.RowKit Go.Pw Go.Vc Go.Cs Go.Lib Go.Cd
set_option linter.unusedVariables false
set_option maxRecDepth 100000
section
variable {w : World}
theorem zjf (m : Nat) : (m : Int).tmod 128 = ((m % 128 : Nat) : Int) := by rw [Int.tmod_eq_emod_of_nonneg (by omega)]; rfl
theorem zon (m : Nat) : (m : Int).tdiv 128 = ((m / 128 : Nat) : Int) := by rw [Int.tdiv_eq_ediv_of_nonneg (by omega)]; rfl
theorem zdE {z : Int} (h : -9223372036854775808 ≤ z) (h' : z ≤ 9223372036854775807) : IntKind.i64.wrap z = z := by
 unfold IntKind.wrap; simp [IntKind.signed, IntKind.bits]; omega
theorem zmY {m : Nat} (h : m < 256) : IntKind.u8.wrap (m : Int) = ((b8 m).toNat : Int) := by
 rw [zeS h]
 unfold IntKind.wrap; simp [IntKind.signed, IntKind.bits]; omega
theorem zhR (n : Nat) (hn : n < 2 ^ 63) : Calls Tryz.prog 46 #[.int .i64 n] w fun e w' => e = .returned (.string (str (numE n))) ∧ Kp w w' n_ := by
 refine zab (args := [.int .i64 n]) Tryz.func46 rfl NL ?_; refine GW ?_
 have hb0 := ziG w w.heap.size (Nat.le_refl _)
 have K0 : Kp w (w.alloc (.cells #[.pointer none, .slice none 0 0] 136)) n_ := (Kp.refl _ _).alloc _
 generalize w.alloc (.cells #[.pointer none, .slice none 0 0] 136) = w0 at *
 refine Loop.intro (ι := Nat × List UInt8) (fun i => [(0, .int .i64 (i.1 : Nat)), (3, .pointer (some ⟨w.heap.size, 0, none⟩)), (4, .func (.func 75) #[.pointer (some ⟨w.heap.size, 0, none⟩)] #[])])
  (fun i wr => Kp w wr n_ ∧ Bld wr w.heap.size w.heap.size i.2 ∧ i.2 ++ numE i.1 = numE n ∧ i.1 < 2 ^ 63) (fun i => i.1) (n, []) ⟨rfl, rfl, by simp [upd], trivial⟩
  ⟨K0, hb0, rfl, hn⟩ ?_
 rintro ⟨m, pre⟩ g wr ⟨hK, hb, he, hm⟩
 dsimp only at hb he hm ⊢
 refine GW ?_
 have hlen := congrArg List.length he
 have hnl := zcc hn
 have hml := znL m
 rw [List.length_append] at hlen
 by_cases hlt : 128 ≤ m
 ·refine GO ?_
  rw [zjf]
  refine GO ?_
  rw [show ((m % 128 : Nat) : Int) + 128 = ((m % 128 + 128 : Nat) : Int) by omega, zmY (by omega)]
  refine CallS.of (Tryz.call75 _ _) (zdx (b8 (m % 128 + 128)) wr hb (by omega) hK.size) ?_
  rintro e w1 ⟨rfl, hb1, hbe, _⟩
  refine RT ?_
  refine GO ?_
  rw [zon]
  refine GO ?_
  rw [znR hlt hm] at he
  exact ⟨(m / 128, pre ++ [b8 (m % 128 + 128)]), ⟨v_int (zdE (by omega) (by omega)), rfl, rfl, trivial⟩, ⟨hK.below' hbe (Nat.le_refl _), hb1, by rw [← he]; simp, by omega⟩, by dsimp only; omega⟩
 ·refine GO ?_
  rw [zmY (by omega)]
  refine CallS.of (Tryz.call75 _ _) (zdx (b8 m) wr hb (by omega) hK.size) ?_
  rintro e w1 ⟨rfl, hb1, hbe, _⟩
  refine RT ?_
  have hK1 := hK.below' hbe (Nat.le_refl _)
  refine CallS.of (Tryz.call76 _ _) (zeO w1 hb1 hK1.size) ?_
  rintro e w2 ⟨rfl, hb2, hbe2, _⟩
  refine RT ?_
  rw [zkP (by omega)] at he
  exact ⟨by rw [he], hK1.below' hbe2 (Nat.le_refl _)⟩
end
end Go.Proofs.YtcplagfblmemhaaGreatDoor
